/- A part of the proof: an evaluator of the program's code over plain data, proved sound, and walks of the program's functions by it. No conditions beyond those in the theorems. -/
import Derived.SizedLaws
import Derived.ChangeArms
import Derived.DataReads
import Derived.Test.YtbgbnmghhmfihaaLawGp17
import Derived.Test.YtbgbnmghhmfihaaLawGp21
import Derived.Test.YtbgbnmghhmfihaaLawGp13
import Derived.Test.YtbgbnmghhmfihaaLawGp16
import Derived.Test.YtbgbnmghhmfihaaLawGp9
import Derived.Test.YtbgbnmghhmfihaaLawGp20
import Derived.Test.YtbgbnmghhmfihaaLawGp19
set_option linter.unusedVariables false
set_option linter.unusedSimpArgs false
set_option linter.constructorNameAsVariable false
set_option linter.unusedSectionVars false
set_option linter.defProp false
set_option linter.unusedVariables false
namespace Go.Fs.Se
open Cel (cel unc)
open Dat (enc dec)
open Arg (ea da)
/-! ### marks -/
/-- How many places of trees are marked. -/
def CL (es : List TreeExpr) : Nat := lvLL (es.map cel)
theorem CL_nil : CL [] = 0 := rfl
theorem CL_cons (e : TreeExpr) (es : List TreeExpr) : CL (e :: es) = 4 + CL e.kids + CL es := by
  unfold CL
  rw [List.map_cons, lvLL, cel_TreeExpr]
  simp only [enc_I, enc_S, enc_L, lvL, lv]
  omega
theorem CL_le : ∀ (e : TreeExpr), CL e.kids ≤ 4 * W e := by
  intro e
  induction e using tree_ind with
  | h e ih =>
    have key : ∀ es : List TreeExpr, (∀ k ∈ es, CL k.kids ≤ 4 * W k) → CL es ≤ 4 * (es.length + WL es) := by
      intro es
      induction es with
      | nil => intro _; simp [CL_nil]
      | cons x es ihs =>
        intro h
        have h1 := h x (.head _)
        have h2 := ihs fun k hk => h k (.tail _ hk)
        rw [CL_cons, WL_cons, List.length_cons]
        omega
    have := key e.kids ih
    rw [W_eq]
    omega
theorem mt_some : ∀ (n : Nat) (t3 : ByteArray), t3.size + n ≤ 9000000000000000000 → ∀ t0 : Int, 0 ≤ t0 → t0 ≤ 4611686018427387904 → t0.toNat < 10 ^ n → ∀ a, ∃ s, l44_4 a t0 t3 = some s := by
  intro n
  induction n with
  | zero =>
    intro t3 h3 t0 h0 h1 h2 a
    have : t0 = 0 := by omega
    subst this
    rw [l44_4_eq, if_neg (by omega), if_pos (by
      have : (ByteArray.mk #[109]).size = 1 := rfl
      omega)]
    exact ⟨_, rfl⟩
  | succ n ih =>
    intro t3 h3 t0 h0 h1 h2 a
    rw [l44_4_eq]
    by_cases hp : 0 < t0
    · have hb : ∀ x, (bytesS [x]).size = 1 := fun _ => rfl
      rw [if_pos hp, hb, if_pos (by omega)]
      have hd : t0.tdiv 10 = t0 / 10 := Int.tdiv_eq_ediv_of_nonneg h0
      rw [hd, wrap64 (by omega) (by omega)]
      refine ih _ (by rw [ByteArray.size_append, hb]; omega) _ (by omega) (by omega) ?_ a
      rw [Nat.pow_succ] at h2
      omega
    · rw [if_neg hp, if_pos (by
        have : (ByteArray.mk #[109]).size = 1 := rfl
        omega)]
      exact ⟨_, rfl⟩
theorem n44_some (k : Int) (h : k ≤ 4611686018427387904) : ∃ s, n44 k = some s := by
  rw [n44_eq]
  split
  · exact ⟨_, rfl⟩
  · exact mt_some 19 _ (by decide) k (by omega) h (by omega) k
theorem mk_kids (a b : Int) (c d : ByteArray) (es : List TreeExpr) : (TreeExpr.mk a b c d es).kids = es := rfl
theorem mark_ok : ∀ (e : TreeExpr), okE e → ∀ k : Int, 0 < k → k + CL e.kids ≤ 2305843009213693952 → ∃ es', n69 e.kids k = some (k + CL e.kids, es') ∧ n70 es' k = some (k + CL e.kids) := by
  intro e
  induction e using tree_ind with
  | h e ih =>
    intro hok k hk hb
    obtain ⟨_, _, k3, k4, k5, k6⟩ := (okE_iff e).1 hok
    have loop : ∀ (ys : List TreeExpr) (i : Nat) (a0 : List TreeExpr) (a1 t : Int) (z : List TreeExpr), z.drop i = ys → (∀ y ∈ ys, y ∈ e.kids) → i ≤ z.length → z.length ≤ 140737488355328 → 0 < t → t + CL ys ≤ 2305843009213693952 →
        ∃ z', l69_2 a0 a1 t (i : Int) z = some (t + CL ys, z') ∧ z'.length = z.length ∧ z'.take i = z.take i ∧ ∀ b1, l70_2 z' b1 t (i : Int) = some (t + CL ys) := by
      intro ys
      induction ys with
      | nil =>
        intro i a0 a1 t z hd hm hi hz ht hb
        have := dropEnd hd
        refine ⟨z, ?_, rfl, rfl, fun b1 => ?_⟩
        · rw [l69_2_eq, if_neg (by omega), CL_nil]; simp
        · rw [l70_2_eq, if_neg (by omega), CL_nil]; simp
      | cons y ys ihy =>
        intro i a0 a1 t z hd hm hi hz ht hb
        obtain ⟨d1, d2, d3, d4⟩ := dropAt hd
        rw [CL_cons] at hb
        have hy := hm y (.head _)
        have w1 : IntKind.i64.wrap (t + 1) = t + 1 := wrap64 (by omega) (by omega)
        have w2 : IntKind.i64.wrap (t + 1 + 1) = t + 2 := by rw [wrap64 (by omega) (by omega)]; omega
        have w3 : IntKind.i64.wrap (t + 2 + 1) = t + 3 := by rw [wrap64 (by omega) (by omega)]; omega
        have w4 : IntKind.i64.wrap (t + 3 + 1) = t + 4 := by rw [wrap64 (by omega) (by omega)]; omega
        obtain ⟨s1, hs1⟩ := n44_some (t + 2) (by omega)
        obtain ⟨s2, hs2⟩ := n44_some (t + 3) (by omega)
        obtain ⟨ks, hk1, hk2⟩ := ih y hy (okEs_mem k6 y hy) (t + 4) (by omega) (by omega)
        have hdr : (z.set i (TreeExpr.mk t (t + 1) s1 s2 ks)).drop (i + 1) = ys := by
          rw [List.drop_set_of_lt (by omega)]; exact d4
        obtain ⟨z', r1, r2, r3, r4⟩ := ihy (i + 1) a0 a1 (t + 4 + CL y.kids) (z.set i (TreeExpr.mk t (t + 1) s1 s2 ks)) hdr (fun x hx => hm x (.tail _ hx)) (by rw [List.length_set]; omega) (by rw [List.length_set]; exact hz) (by omega) (by omega)
        rw [List.length_set] at r2
        have hget : z'[i]? = some (TreeExpr.mk t (t + 1) s1 s2 ks) := by
          have h1 : (z'.take (i + 1))[i]? = z'[i]? := by rw [List.getElem?_take, if_pos (by omega)]
          rw [← h1, r3, List.getElem?_take, if_pos (by omega), List.getElem?_set_self d1]
        have hgetI : getI z' (i : Int) = some (TreeExpr.mk t (t + 1) s1 s2 ks) := by
          unfold getI; rw [if_pos (by omega), Int.toNat_natCast, hget]
        have hsum : t + 4 + CL y.kids + CL ys = t + ((4 + CL y.kids + CL ys : Nat) : Int) := by omega
        refine ⟨z', ?_, r2, ?_, fun b1 => ?_⟩
        · rw [l69_2_eq, if_pos (by omega), CL_cons]
          simp only [d2, d3, Option.bind_some, Int.toNat_natCast, w1, w2, w3, w4, hs1, hs2, hk1, wrN (n := i) (by omega)]
          rw [r1, hsum]
        · have := congrArg (List.take i) r3
          rw [List.take_take, List.take_take, Nat.min_eq_left (by omega), List.take_set_of_le (Nat.le_refl i)] at this
          exact this
        · rw [l70_2_eq, if_pos (by omega), CL_cons]
          simp only [hgetI, Option.bind_some, w1, w2, w3, w4, hs1, hs2, hk2, decide_true, Bool.true_eq_false, if_false, wrN (n := i) (by omega)]
          rw [if_neg (by omega), r4, hsum]
    obtain ⟨z', r1, _, _, r4⟩ := loop e.kids 0 e.kids k k e.kids rfl (fun y hy => hy) (by omega) k5 hk hb
    refine ⟨z', ?_, ?_⟩
    · rw [n69_eq]; exact r1
    · rw [n70_eq]; exact r4 k
end Go.Fs.Se

set_option linter.unusedVariables false
set_option linter.unusedSimpArgs false
set_option maxRecDepth 40000
set_option maxHeartbeats 4000000
open Go.RowKit
namespace Go.Fs.Se
open Cel (cel unc)
open Dat (enc dec)
open Arg (ea da)
/-! loop.example/smithy/laws.FnExactFoldExpr -/
theorem n6_eq (a0 : TreeExpr) : n6 a0 = (n27 a0 1048576).bind fun y0 => if y0 < 0 then some true else (n29 a0).bind fun y1 => (n28 y1).bind fun y2 => (n29 a0).bind fun y3 => (n30 y3).bind fun y4 => (n31 y4 y2).bind fun y5 => if y5 = false then some false else (n29 a0).bind fun y6 => (n31 y3 y6).bind fun y7 => if y7 = false then some false else (n32 y3 1).bind fun y8 => bindB (if y8.fst < 0 then some true else (n31 y4 y2).bind fun y9 => some !y9) fun y10 => if y10 = true then some false else (n32 y4 1).bind fun y11 => (n33 (TreeExpr.mk y4.kind y4.num y4.name y4.mod y11.snd.kids) 1).bind fun y12 => if y12 < 0 then some false else if decide (y12 = y11.fst) = false then some false else (n29 a0).bind fun y13 => (n30 y13).bind fun y14 => (n31 y14 y2).bind fun y15 => if y15 = false then some false else (n33 (TreeExpr.mk y4.kind y4.num y4.name y4.mod y11.snd.kids) 1).bind fun y16 => if y16 < 0 then some false else if decide (y16 = y11.fst) = false then some false else some true := by
  rw [n6, fnO_code h6 rfl Go.Proofs.Try.func6 (c := cd6) rfl (a0, ()) rfl]
  simp (maxSteps := 60000000) (disch := first | (intros; rename_i h; cases h; done) | decide +kernel) only [evS, seS, List.map_replicate, Nat.reduceDiv, Nat.reduceMod, Nat.reduceEqDiff, reduceCtorEq, ↓reduceIte, Nat.reduceLT, Nat.reduceAdd, Nat.reduceMul, Nat.reduceSub, Nat.reduceLeDiff, Nat.reduceBEq, Int.reduceEq, Int.reduceNeg, Int.reduceToNat, Int.reduceLE, Int.reduceLT, cd6, Go.Proofs.Try.f6, h6.r, m6, lv_pl, pl6, c27, c28, c29, c30, c31, c32, c33]
  all_goals try simp only [bindN_eq]
end Go.Fs.Se

set_option linter.unusedVariables false
set_option linter.unusedSimpArgs false
set_option maxRecDepth 40000
set_option maxHeartbeats 4000000
open Go.RowKit
namespace Go.Fs.Se
open Cel (cel unc)
open Dat (enc dec)
open Arg (ea da)
/-! loop.example/smithy/spec.FoldExpr -/
theorem n28_eq (a0 : TreeExpr) : n28 a0 = (n63 a0).bind fun y0 => if y0 = false then some (TreeExpr.mk 0 0 ByteArray.empty ByteArray.empty []) else n64 a0 := by
  rw [n28, fnO_code h28 rfl Go.Proofs.Try.func28 (c := cd28) rfl (a0, ()) rfl]
  simp (maxSteps := 60000000) (disch := first | (intros; rename_i h; cases h; done) | decide +kernel) only [evS, seS, List.map_replicate, Nat.reduceDiv, Nat.reduceMod, Nat.reduceEqDiff, reduceCtorEq, ↓reduceIte, Nat.reduceLT, Nat.reduceAdd, Nat.reduceMul, Nat.reduceSub, Nat.reduceLeDiff, Nat.reduceBEq, Int.reduceEq, Int.reduceNeg, Int.reduceToNat, Int.reduceLE, Int.reduceLT, cd28, Go.Proofs.Try.f28, h28.r, m28, lv_pl, pl28, c63, c64]
  all_goals try simp only [bindN_eq]
end Go.Fs.Se

set_option linter.unusedVariables false
set_option linter.unusedSimpArgs false
set_option maxRecDepth 40000
set_option maxHeartbeats 4000000
open Go.RowKit
namespace Go.Fs.Se
open Cel (cel unc)
open Dat (enc dec)
open Arg (ea da)
/-! loop.example/smithy/impl.FoldExpr -/
theorem n30_eq (a0 : TreeExpr) : n30 a0 = (n66 a0).bind fun y0 => if y0 = false then some (TreeExpr.mk 0 0 ByteArray.empty ByteArray.empty []) else n67 a0 := by
  rw [n30, fnO_code h30 rfl Go.Proofs.Try.func30 (c := cd30) rfl (a0, ()) rfl]
  simp (maxSteps := 60000000) (disch := first | (intros; rename_i h; cases h; done) | decide +kernel) only [evS, seS, List.map_replicate, Nat.reduceDiv, Nat.reduceMod, Nat.reduceEqDiff, reduceCtorEq, ↓reduceIte, Nat.reduceLT, Nat.reduceAdd, Nat.reduceMul, Nat.reduceSub, Nat.reduceLeDiff, Nat.reduceBEq, Int.reduceEq, Int.reduceNeg, Int.reduceToNat, Int.reduceLE, Int.reduceLT, cd30, Go.Proofs.Try.f30, h30.r, m30, lv_pl, pl30, c66, c67]
  all_goals try simp only [bindN_eq]
end Go.Fs.Se

set_option linter.unusedVariables false
namespace Go.Fs
open Go.RowKit

/-! ### from a claim's reading of an argument to a datum -/
mutual
/-- A type's shape. -/
inductive HS (P : Program) : TypeId → List Sh → Prop
  | b (t : TypeId) (h : P.underlying t = some .bool) : HS P t [.b]
  | i (t : TypeId) (h : P.underlying t = some (.int .i64)) : HS P t [.i]
  | s (t : TypeId) (h : P.underlying t = some .string) : HS P t [.s]
  | l (t e : TypeId) (css : List Sh) (h : P.underlying t = some (.slice e)) (hc : P.cellsOf e = css.length) (hb : 1 ≤ P.bytesOf e) (hp : 0 < css.length) (he : HS P e css) : HS P t [.l css]
  | t (t e : TypeId) (fs : Array Field) (h : P.underlying t = some (.slice e)) (hc : P.cellsOf e = 5) (hb : 1 ≤ P.bytesOf e) (hs : P.underlying e = some (.struct fs)) (hf : HSF P [t] fs.toList 0 treeS) : HS P t [.t]
  | st (t : TypeId) (fs : Array Field) (css : List Sh) (h : P.underlying t = some (.struct fs)) (hc : P.cellsOf t = css.length) (hf : HSF P [] fs.toList 0 css) : HS P t css
/-- The shape of fields; 'rec': a type whose shape is being told. -/
inductive HSF (P : Program) : List TypeId → List Field → Nat → List Sh → Prop
  | nil (rec : List TypeId) (o : Nat) : HSF P rec [] o []
  | cons (rec : List TypeId) (f : Field) (fs : List Field) (o : Nat) (c1 c2 : List Sh) (hoff : f.offset = o) (hsz : P.cellsOf f.type = c1.length) (h : HS P f.type c1) (hs : HSF P rec fs (o + c1.length) c2) : HSF P rec (f :: fs) o (c1 ++ c2)
  | self (f : Field) (fs : List Field) (o : Nat) (c2 : List Sh) (hoff : f.offset = o) (hsz : P.cellsOf f.type = 1) (hs : HSF P [f.type] fs (o + 1) c2) : HSF P [f.type] (f :: fs) o (.t :: c2)
end

section
variable {H : Type} {enc : TypeId × Value → H} {P : Program} {w : World} {spare : Nat → Bool} {held : Bool}

/-- What is read of a list of cells. -/
def RdOK (w : World) (cs : List Value) (css : List Sh) : Prop := ∃ ds S, TrL w false cs ds S ∧ (∀ v ∈ cs, v.oneCell' = true) ∧ shL css ds = true ∧ okL ds = true

theorem RdOK.append {cs cs' : List Value} {css css' : List Sh} (h : RdOK w cs css) (h' : RdOK w cs' css') : RdOK w (cs ++ cs') (css ++ css') := by
  obtain ⟨ds, S, h1, h2, h3, h4⟩ := h
  obtain ⟨ds', S', h1', h2', h3', h4'⟩ := h'
  refine ⟨ds ++ ds', S ++ S', h1.append h1', fun v hv => ?_, ?_, ?_⟩
  · rcases List.mem_append.1 hv with hv | hv
    · exact h2 v hv
    · exact h2' v hv
  · clear h1 h2 h4
    induction css generalizing ds with
    | nil => obtain rfl := shL_nil h3; exact h3'
    | cons c css ih =>
      obtain ⟨d, q, rfl, e1, e2⟩ := shL_cons h3
      simp only [List.cons_append, shL, Bool.and_eq_true]
      exact ⟨e1, ih q e2⟩
  · clear h1 h3
    induction ds with
    | nil => exact h4'
    | cons d ds ih =>
      rw [okL_cons] at h4
      simp only [List.cons_append]
      rw [okL_cons]
      exact ⟨h4.1, ih h4.2⟩

theorem wf_i64 {n : Int} (h : (Lit.int .i64 n).wf = true) : okD (.i .i64 n) = true := by
  rw [okD_i]
  simp only [Lit.wf, Bool.and_eq_true, decide_eq_true_eq] at h
  have e1 : IntKind.i64.min = -9223372036854775808 := by decide
  have e2 : IntKind.i64.max = 9223372036854775807 := by decide
  rw [e1, e2] at h
  omega

theorem weights_all {e : TypeId} : ∀ {l : List (DataW H)}, (DataW.weightsAll P e l).all (· ≤ reachBytes) = true → ∀ d ∈ l, (d.weights P e).all (· ≤ reachBytes) = true
  | [], _, d, hd => by cases hd
  | x :: l, h, d, hd => by
    simp only [DataW.weightsAll, List.all_append, Bool.and_eq_true] at h
    rcases List.mem_cons.1 hd with rfl | hd
    · exact h.1
    · exact weights_all h.2 d hd

theorem cell_addr {a : Addr} {v : Value} (h : w.cell? a = some v) : ∃ cur el fr, w.heap[a.block]? = some (.cells cur el fr) ∧ a.spot = none ∧ cur[a.off]? = some v := by
  unfold World.cell? at h
  split at h
  · rename_i c el fr hg
    split at h
    · cases h
    · rename_i hs
      exact ⟨c, el, fr, hg, by simpa using hs, h⟩
  · cases h

theorem addr_add (a : Addr) (m n : Nat) : (a.add m).add n = a.add (m + n) := by
  obtain ⟨b, o, s⟩ := a
  unfold Addr.add
  by_cases h1 : m = 0 <;> by_cases h2 : n = 0 <;> simp [h1, h2, Nat.add_assoc]

/-- A list that is read. -/
theorem rd_slice {t e : TypeId} {css : List Sh} (ht : P.underlying t = some (.slice e)) (hc : P.cellsOf e = css.length) (hb : 1 ≤ P.bytesOf e) (hp : 0 < css.length) {n : Nat}
    (ih : ∀ (m : Nat), m < n → ∀ cs (x : DataW H × List MemPlace), DataW.trod enc P w 0 spare held m e cs = some x → (x.1.weights P e).all (· ≤ reachBytes) = true → RdOK w cs css)
    {cs : List Value} {x : DataW H × List MemPlace} (h : DataW.trod enc P w 0 spare held n t cs = some x) (hw : (x.1.weights P t).all (· ≤ reachBytes) = true) :
    ∃ xs S v, cs = [v] ∧ Tr w false v (.l css.length xs) S ∧ v.oneCell' = true ∧ shLL css xs = true ∧ okLL xs = true ∧ xs.length ≤ 140737488355328 := by
  rcases DataW.trod_slice ht h with ⟨rfl, rfl⟩ | ⟨a, len, cap, elems, rest, m, rfl, rfl, rfl, hb0, hl, hm, hel, hx, _, _⟩
  · exact ⟨[], [], _, rfl, .z none 0 _ (by simp), rfl, rfl, rfl, Nat.zero_le _⟩
  · -- element by element
    simp only [DataW.weights, ht, List.all_cons, List.all_append, Bool.and_eq_true, decide_eq_true_eq] at hw
    obtain ⟨hw1, hw2, _⟩ := hw
    have hlen : len ≤ 140737488351232 := by
      have h1 : len ≤ len * P.bytesOf e := Nat.le_mul_of_pos_right _ (by omega)
      have h2 : (elems.map (·.1)).length = len := by rw [List.length_map, hel]
      rw [h2] at hw1
      have h3 : len * P.bytesOf e ≤ (len + (rest.map (·.1)).length) * P.bytesOf e := Nat.mul_le_mul_right _ (by omega)
      have h4 : reachBytes = 140737488351232 := by decide
      omega
    have step : ∀ k, k ≤ len → ∃ vs xs S, TrL w false vs xs.flatten S ∧ (∀ v ∈ vs, v.oneCell' = true) ∧ vs.length = k * css.length ∧ xs.length = k ∧ shLL css xs = true ∧ okLL xs = true ∧ ∀ j v, vs[j]? = some v → w.cell? (a.add j) = some v := by
      intro k
      induction k with
      | zero => intro _; exact ⟨[], [], [], .nil, by simp, by simp, rfl, rfl, rfl, by simp⟩
      | succ k ihk =>
        intro hk
        obtain ⟨vs, xs, S, a1, a2, a3, a4, a5, a6, a7⟩ := ihk (by omega)
        have hk' : k < elems.length := by omega
        have hxk := hx k (by omega)
        rw [List.getElem?_eq_getElem hk'] at hxk
        obtain ⟨cs', c1, c2⟩ := Option.bind_eq_some_iff.1 hxk
        obtain ⟨ds, S', b1, b2, b3, b4⟩ := ih m (Nat.lt_succ_self m) cs' _ c2 (weights_all hw2 _ (List.mem_map.2 ⟨_, List.getElem_mem hk', rfl⟩))
        obtain ⟨_, d2, d3⟩ := World.cells?_some c1
        refine ⟨vs ++ cs', xs ++ [ds], S ++ S', ?_, ?_, ?_, ?_, ?_, ?_, ?_⟩
        · rw [List.flatten_append]; simpa using a1.append b1
        · intro v hv
          rcases List.mem_append.1 hv with hv | hv
          · exact a2 v hv
          · exact b2 v hv
        · rw [List.length_append, a3, d2, hc, Nat.succ_mul]
        · simp [a4]
        · clear a1 a4 a6 a7
          induction xs with
          | nil => simp only [List.nil_append, shLL, Bool.and_eq_true]; exact ⟨b3, trivial⟩
          | cons y ys ihy => simp only [List.cons_append, shLL, Bool.and_eq_true] at a5 ⊢; exact ⟨a5.1, ihy a5.2⟩
        · clear a1 a4 a5 a7
          induction xs with
          | nil => simp only [List.nil_append, okLL, Bool.and_eq_true]; exact ⟨b4, trivial⟩
          | cons y ys ihy => simp only [List.cons_append, okLL, Bool.and_eq_true] at a6 ⊢; exact ⟨a6.1, ihy a6.2⟩
        · intro j v hj
          by_cases hjl : j < vs.length
          · rw [List.getElem?_append_left hjl] at hj; exact a7 j v hj
          · rw [List.getElem?_append_right (by omega)] at hj
            have hlt : j - vs.length < cs'.length := (List.getElem?_eq_some_iff.1 hj).1
            have := d3 (j - vs.length) (by omega)
            rw [hj] at this
            rw [← this, hc, addr_add]
            congr 2
            omega
    obtain ⟨vs, xs, S, a1, a2, a3, a4, a5, a6, a7⟩ := step len (Nat.le_refl _)
    by_cases h0 : len = 0
    · subst h0
      obtain rfl : xs = [] := List.eq_nil_of_length_eq_zero a4
      exact ⟨[], [], _, rfl, .z (some a) cap _ (by simp), rfl, rfl, rfl, Nat.zero_le _⟩
    · have hv0 : 0 < vs.length := by rw [a3]; exact Nat.mul_pos (by omega) hp
      have c0 := a7 0 vs[0] (List.getElem?_eq_getElem hv0)
      obtain ⟨cur, el, fr, g1, g2, _⟩ := cell_addr c0
      have hblk : (a.add 0).block = a.block := rfl
      have hspot : (a.add 0).spot = a.spot := rfl
      rw [hblk] at g1
      rw [hspot] at g2
      have ha : a = ⟨a.block, a.off, none⟩ := by cases a; simp at g2; simp [g2]
      have had : ∀ j, a.add j = ⟨a.block, a.off + j, none⟩ := fun j => by
        have := add_at a.block a.off j
        rw [← ha] at this; exact this
      refine ⟨xs, a.block :: S, .slice (some a) len cap, rfl, ?_, rfl, a5, a6, by omega⟩
      have := Tr.l (w := w) (own := false) a.block a.off cap css.length cur el fr vs xs S g1 (by omega) (by
        have : Go.maxLen = 2 ^ 63 - 1 := rfl
        omega) (by rw [a3, a4]) (fun j v hj => by
          have := a7 j v hj
          rw [had, cell_at g1] at this
          exact this) a2 (fun x hx => by rw [shL_length (shLL_len a5 x hx)]) (by simp) a1
      rw [a4, ← ha] at this
      exact this

/-- What a claim reads is a datum of its type's shape. -/
theorem trod_rd : ∀ (n : Nat) {t : TypeId} {css : List Sh}, HS P t css → ∀ cs (x : DataW H × List MemPlace), DataW.trod enc P w 0 spare held n t cs = some x → (x.1.weights P t).all (· ≤ reachBytes) = true → RdOK w cs css := by
  intro n
  induction n using Nat.strongRecOn with
  | _ n IH =>
    intro t css hs
    -- fields in turn
    have fields : ∀ {rec : List TypeId} {fs : List Field} {o : Nat} {css : List Sh}, HSF P rec fs o css → (∀ t ∈ rec, HS P t [.t]) → ∀ (m : Nat), m < n → ∀ (cs : List Value) (ys : List (DataW H × List MemPlace)), o + css.length ≤ cs.length → (∀ (i : Nat) (f : Field), fs[i]? = some f → DataW.trod enc P w 0 spare held m f.type ((cs.drop f.offset).take (P.cellsOf f.type)) = ys[i]?) → ys.length = fs.length →
        (DataW.weightsEach P (fs.map (·.type)) (ys.map (·.1))).all (· ≤ reachBytes) = true → RdOK w ((cs.drop o).take css.length) css := by
      intro rec fs
      induction fs with
      | nil =>
        intro o css hf _ m _ cs ys _ _ _ _
        cases hf
        exact ⟨[], [], by simpa using .nil, by simp, rfl, rfl⟩
      | cons f fs ihf =>
        intro o css hf hrec m hm cs ys hl hx hy hw
        cases ys with
        | nil => simp at hy
        | cons y ys =>
          simp only [List.map_cons, DataW.weightsEach, List.all_append, Bool.and_eq_true] at hw
          have h0 := hx 0 f rfl
          simp only [List.getElem?_cons_zero] at h0
          cases hf with
          | cons _ _ _ _ c1 c2 hoff hsz h hs' =>
            rw [hoff, hsz] at h0
            have r1 := IH m hm h _ _ h0 hw.1
            have r2 := ihf hs' hrec m hm cs ys (by rw [List.length_append] at hl; omega) (fun i g hg => by simpa using hx (i + 1) g (by simpa using hg)) (by simpa using hy) hw.2
            rw [List.length_append, List.take_add, List.drop_drop]
            exact r1.append r2
          | self _ _ _ c2 hoff hsz hs' =>
            rw [hoff, hsz] at h0
            have r1 := IH m hm (hrec f.type (by simp)) _ _ h0 hw.1
            have r2 := ihf hs' hrec m hm cs ys (by rw [List.length_cons] at hl; omega) (fun i g hg => by simpa using hx (i + 1) g (by simpa using hg)) (by simpa using hy) hw.2
            rw [List.length_cons, Nat.add_comm c2.length 1, List.take_add, List.drop_drop]
            exact r1.append (css := [.t]) r2
    have struct : ∀ {e : TypeId} {fs : Array Field} {css : List Sh} {rec : List TypeId}, P.underlying e = some (.struct fs) → P.cellsOf e = css.length → HSF P rec fs.toList 0 css → (∀ t ∈ rec, HS P t [.t]) → ∀ m, m ≤ n → ∀ cs (x : DataW H × List MemPlace), DataW.trod enc P w 0 spare held m e cs = some x → (x.1.weights P e).all (· ≤ reachBytes) = true → RdOK w cs css := by
      intro e fs css rec he hc hf hrec m hm cs x h hw
      obtain ⟨xs, k, rfl, rfl, hl, hlen, hx⟩ := DataW.trod_struct he h
      simp only [DataW.weights, he] at hw
      have := fields hf hrec k (by omega) cs xs (by omega) (fun i f hi => hx i f (by rw [← Array.getElem?_toList]; exact hi)) (by simpa using hlen) hw
      rw [List.drop_zero, ← hc, ← hl, List.take_length] at this
      exact this
    cases hs with
    | b _ h =>
      intro cs x hx hw
      obtain ⟨b, rfl, rfl⟩ := DataW.trod_bool h hx
      exact ⟨[.b b], [] ++ [], .cons _ _ _ _ _ _ (.b b) .nil, by simp [Value.oneCell'], rfl, by simp [okL, okD]⟩
    | i _ h =>
      intro cs x hx hw
      obtain ⟨k, rfl, rfl, hwf⟩ := DataW.trod_int h hx
      refine ⟨[.i .i64 k], [] ++ [], .cons _ _ _ _ _ _ (.i .i64 k) .nil, by simp [Value.oneCell'], rfl, ?_⟩
      rw [okL_cons]
      exact ⟨wf_i64 hwf, rfl⟩
    | s _ h =>
      intro cs x hx hw
      obtain ⟨s, rfl, rfl, hsz⟩ := DataW.trod_string h hx
      refine ⟨[.s s], [] ++ [], .cons _ _ _ _ _ _ (.s s) .nil, by simp [Value.oneCell'], rfl, ?_⟩
      rw [okL_cons, okD_s]
      refine ⟨?_, rfl⟩
      simp only [DataW.weights, List.all_cons, List.all_nil, Bool.and_true, decide_eq_true_eq] at hw
      have h4 : reachBytes = 140737488351232 := by decide
      have h5 : s.data.toList.length = s.size := by simp
      omega
    | l _ e css' h hc hb hp he =>
      intro cs x hx hw
      obtain ⟨xs, S, v, rfl, r1, r2, r3, r4, r5⟩ := rd_slice h hc hb hp (fun m hm cs x => IH m hm he cs x) hx hw
      refine ⟨[.l css'.length xs], S ++ [], .cons _ _ _ _ _ _ r1 .nil, by simpa using r2, ?_, ?_⟩
      · simp only [shL, shD, beq_self_eq_true, Bool.true_and, Bool.and_true]; exact r3
      · rw [okL_cons, okD_l]; exact ⟨⟨r5, r4⟩, rfl⟩
    | t _ e fs h hc hb hst hf =>
      intro cs x hx hw
      obtain ⟨xs, S, v, rfl, r1, r2, r3, r4, r5⟩ := rd_slice (css := treeS) h hc hb (by decide) (fun m hm cs x hx hw => struct (css := treeS) hst hc hf (fun t' ht' => by
        obtain rfl : t' = t := by simpa using ht'
        exact .t _ e fs h hc hb hst hf) m (Nat.le_of_lt hm) cs x hx hw) hx hw
      refine ⟨[.l 5 xs], S ++ [], .cons _ _ _ _ _ _ r1 .nil, by simpa using r2, ?_, ?_⟩
      · simp only [shL, shD, beq_self_eq_true, Bool.true_and, Bool.and_true]; exact r3
      · rw [okL_cons, okD_l]; exact ⟨⟨r5, r4⟩, rfl⟩
    | st _ fs _ h hc hf =>
      intro cs x hx hw
      exact struct h hc hf (by simp) n (Nat.le_refl _) cs x hx hw
end
end Go.Fs

set_option linter.unusedVariables false
namespace Go.Fs.Se
open Cel (cel unc)
open Dat (enc dec)
open Arg (ea da)
/-! ### the law about FoldExpr -/
theorem CL_NL : ∀ e : TreeExpr, CL e.kids = 4 * NL e.kids := by
  intro e
  induction e using tree_ind with
  | h e ih =>
    have key : ∀ es : List TreeExpr, (∀ k ∈ es, CL k.kids = 4 * NL k.kids) → CL es = 4 * NL es := by
      intro es
      induction es with
      | nil => intro _; simp [CL_nil, NL_nil]
      | cons x es ihs =>
        intro h
        have h1 := h x (.head _)
        have h2 := ihs fun k hk => h k (.tail _ hk)
        rw [CL_cons, NL_cons, NE_eq]
        omega
    exact key e.kids ih
theorem expr_ok (e : TreeExpr) (hok : okE e) (hw : W e ≤ 1048576) : ∃ r, n28 e = some r ∧ n30 e = some r ∧ okE r ∧ NE r ≤ NE e := by
  obtain ⟨t1, t2⟩ := nodes_ok e hw
  obtain ⟨b, b1, b2⟩ := right_ok e hok
  have none' : ∃ r, (some (TreeExpr.mk 0 0 ByteArray.empty ByteArray.empty []) : Option TreeExpr) = some r ∧ okE r ∧ NE r ≤ NE e := by
    refine ⟨_, rfl, (okE_iff _).2 ⟨by decide, by decide, Nat.zero_le _, Nat.zero_le _, Nat.zero_le _, rfl⟩, ?_⟩
    rw [NE_eq, NE_eq]
    have : NL (TreeExpr.mk 0 0 ByteArray.empty ByteArray.empty []).kids = 0 := NL_nil
    omega
  rw [n28_eq, n30_eq, n63_eq, n66_eq, t1, t2, Option.bind_some, Option.bind_some]
  by_cases hc : (NE e : Int) ≤ 150 ∧ (DE e : Int) ≤ 16
  · rw [if_pos hc, if_pos hc, b1, b2, Option.bind_some]
    cases b with
    | false =>
      obtain ⟨r, r1, r2⟩ := none'
      exact ⟨r, by simpa using r1, by simpa using r1, r2⟩
    | true =>
      obtain ⟨r, f1, f2, f3, f4, f5⟩ := fold_ok e hok b1 hw
      exact ⟨r, by simpa using f2, by simpa using f1, f3, f5⟩
  · rw [if_neg hc, if_neg hc, Option.bind_some]
    obtain ⟨r, r1, r2⟩ := none'
    exact ⟨r, by simpa using r1, by simpa using r1, r2⟩
theorem law_ok (e : TreeExpr) (hok : okE e) : n6 e = some true := by
  rw [n6_eq, sz_ok e hok 1048576 (by decide) (by decide), Option.bind_some]
  by_cases hneg : less 1048576 (W e) < 0
  · rw [if_pos hneg]
  rw [if_neg hneg]
  have hw : W e ≤ 1048576 := by unfold less at hneg; split at hneg <;> omega
  obtain ⟨r, s1, s2, s3, s4⟩ := expr_ok e hok hw
  have hn := NE_le e
  have c1 := CL_NL e
  have c2 := CL_NL r
  have e1 := NE_eq e
  have e2 := NE_eq r
  obtain ⟨xs, x1, _⟩ := mark_ok e hok 1 (by decide) (by omega)
  obtain ⟨gs, g1, g2⟩ := mark_ok r s3 1 (by decide) (by omega)
  have m1 : n32 e 1 = some (1 + (CL e.kids : Int), TreeExpr.mk e.kind e.num e.name e.mod xs) := by rw [n32_eq, x1]; rfl
  have m2 : n32 r 1 = some (1 + (CL r.kids : Int), TreeExpr.mk r.kind r.num r.name r.mod gs) := by rw [n32_eq, g1]; rfl
  have m3 : n33 (TreeExpr.mk r.kind r.num r.name r.mod gs) 1 = some (1 + (CL r.kids : Int)) := by
    rw [n33_eq, mk_kids, g2, Option.bind_some, if_neg (by omega)]
  have p1 : ¬ (1 + (CL e.kids : Int) < 0) := by omega
  have p2 : ¬ (1 + (CL r.kids : Int) < 0) := by omega
  simp only [to_ok e hw, s1, s2, eq_ok r s3, eq_ok e hok, m1, m2, m3, Option.bind_some, Bool.true_eq_false, if_false, p1, p2, bindB, Bool.not_true, Bool.false_eq_true, decide_true]

/-! ### from what a claim reads to trees -/
theorem cels_of : ∀ {xs : List (List D)}, (∀ x ∈ xs, ∃ e : TreeExpr, x = cel e) → ∃ es : List TreeExpr, xs = es.map cel
  | [], _ => ⟨[], rfl⟩
  | x :: xs, h => by
    obtain ⟨e, rfl⟩ := h x (.head _)
    obtain ⟨es, rfl⟩ := cels_of (xs := xs) fun y hy => h y (.tail _ hy)
    exact ⟨e :: es, rfl⟩
theorem tree_of {ds : List D} (h : shL treeS ds = true) : ∃ e : TreeExpr, ds = cel e := by
  have key : ∀ (n : Nat) (ds : List D), SizeOf.sizeOf ds < n → shL treeS ds = true → ∃ e : TreeExpr, ds = cel e := by
    intro n
    induction n with
    | zero => intro ds h; omega
    | succ n ih =>
      intro ds hn h
      obtain ⟨c1, q1, rfl, a1, h⟩ := shL_cons h
      obtain ⟨c2, q2, rfl, a2, h⟩ := shL_cons h
      obtain ⟨c3, q3, rfl, a3, h⟩ := shL_cons h
      obtain ⟨c4, q4, rfl, a4, h⟩ := shL_cons h
      obtain ⟨c5, q5, rfl, a5, h⟩ := shL_cons h
      obtain rfl := shL_nil h
      obtain ⟨k, rfl⟩ := shD_i a1
      obtain ⟨m, rfl⟩ := shD_i a2
      obtain ⟨s, rfl⟩ := shD_s a3
      obtain ⟨t, rfl⟩ := shD_s a4
      obtain ⟨xs, rfl, a6⟩ := shD_t a5
      obtain ⟨es, rfl⟩ := cels_of fun x hx => ih x (by
        have := List.sizeOf_lt_of_mem hx
        simp only [List.cons.sizeOf_spec, D.l.sizeOf_spec] at hn
        omega) (shLL_len a6 x hx)
      refine ⟨TreeExpr.mk k m s t es, ?_⟩
      rw [cel_TreeExpr]
      rfl
  exact key _ ds (Nat.lt_succ_self _) h
theorem fold_row {ds : List D} (h1 : shL treeS ds = true) (h2 : okL ds = true) : FnOK Go.Proofs.Try.prog 6 [.d (.g ds)] { ret := .b true } := by
  obtain ⟨e, rfl⟩ := tree_of h1
  have h := law_ok e h2
  unfold n6 fnO at h
  obtain ⟨r, hr, hd⟩ := Option.bind_eq_some_iff.1 h
  have e1 : r = .b true := Dat.enc_dec r true hd
  subst e1
  exact lastR_ok mok 6 (.own ((lastR M).o 6)) rfl [enc e] _ hr
end Go.Fs.Se

set_option linter.unusedVariables false
set_option linter.unusedSimpArgs false
set_option maxRecDepth 40000
set_option maxHeartbeats 4000000
open Go.RowKit
namespace Go.Fs.Se
open Cel (cel unc)
open Dat (enc dec)
open Arg (ea da)
/-! loop.example/smithy/spec.FoldGain -/
theorem n35_eq (a0 : TreeMod) : n35 a0 = (n73 a0).bind fun y0 => if y0 = false then some 0 else (n74 a0).bind fun y1 => (n75 a0).bind fun y2 => (n74 y2).bind fun y3 => some (IntKind.i64.wrap (y1 - y3)) := by
  rw [n35, fnO_code h35 rfl Go.Proofs.Try.func35 (c := cd35) rfl (a0, ()) rfl]
  simp (maxSteps := 60000000) (disch := first | (intros; rename_i h; cases h; done) | decide +kernel) only [evS, seS, List.map_replicate, Nat.reduceDiv, Nat.reduceMod, Nat.reduceEqDiff, reduceCtorEq, ↓reduceIte, Nat.reduceLT, Nat.reduceAdd, Nat.reduceMul, Nat.reduceSub, Nat.reduceLeDiff, Nat.reduceBEq, Int.reduceEq, Int.reduceNeg, Int.reduceToNat, Int.reduceLE, Int.reduceLT, cd35, Go.Proofs.Try.f35, h35.r, m35, lv_pl, pl35, c73, c74, c75]
  all_goals try simp only [bindN_eq]
end Go.Fs.Se

set_option linter.unusedVariables false
set_option linter.unusedSimpArgs false
set_option maxRecDepth 40000
set_option maxHeartbeats 4000000
open Go.RowKit
namespace Go.Fs.Se
open Cel (cel unc)
open Dat (enc dec)
open Arg (ea da)
/-! loop.example/smithy/impl.FoldGain -/
theorem n37_eq (a0 : TreeMod) : n37 a0 = (n78 a0).bind fun y0 => if y0 = false then some 0 else (n79 a0).bind fun y1 => (n80 a0).bind fun y2 => (n79 y2).bind fun y3 => some (IntKind.i64.wrap (y1 - y3)) := by
  rw [n37, fnO_code h37 rfl Go.Proofs.Try.func37 (c := cd37) rfl (a0, ()) rfl]
  simp (maxSteps := 60000000) (disch := first | (intros; rename_i h; cases h; done) | decide +kernel) only [evS, seS, List.map_replicate, Nat.reduceDiv, Nat.reduceMod, Nat.reduceEqDiff, reduceCtorEq, ↓reduceIte, Nat.reduceLT, Nat.reduceAdd, Nat.reduceMul, Nat.reduceSub, Nat.reduceLeDiff, Nat.reduceBEq, Int.reduceEq, Int.reduceNeg, Int.reduceToNat, Int.reduceLE, Int.reduceLT, cd37, Go.Proofs.Try.f37, h37.r, m37, lv_pl, pl37, c78, c79, c80]
  all_goals try simp only [bindN_eq]
end Go.Fs.Se

set_option linter.unusedVariables false
set_option linter.unusedSimpArgs false
set_option maxRecDepth 40000
set_option maxHeartbeats 4000000
open Go.RowKit
namespace Go.Fs.Se
open Cel (cel unc)
open Dat (enc dec)
open Arg (ea da)
/-! loop.example/smithy/spec.l18Size -/
noncomputable def l74_3 (a0 : TreeMod) (t3 : Int) (t4 : Int) : Option (Int) := evRAt (envOf M .x) (lvT 74) cd74 [true, true, false, true, false] (endK (β := Int) M 74 .x Go.Proofs.Try.f74.results.toList) (stL 50 [(1, AV.a 500000 0), (3, AV.d (D.i IntKind.i64 t3)), (4, AV.d (D.i IntKind.i64 t4))] [(500000, some (Ob.box [AV.d (D.l 1 (List.map cel a0.uses)), AV.d (D.l 9 (List.map cel a0.funs)), AV.d (D.l 5 (List.map cel a0.main))]))])
noncomputable def l74_8 (a0 : TreeMod) (t3 : Int) (t7 : Int) : Option (Int) := evRAt (envOf M .x) (lvT 74) cd74 [true, true, true, false, true, false] (endK (β := Int) M 74 .x Go.Proofs.Try.f74.results.toList) (stL 50 [(1, AV.a 500000 0), (3, AV.d (D.i IntKind.i64 t3)), (7, AV.d (D.i IntKind.i64 t7))] [(500000, some (Ob.box [AV.d (D.l 1 (List.map cel a0.uses)), AV.d (D.l 9 (List.map cel a0.funs)), AV.d (D.l 5 (List.map cel a0.main))]))])
theorem n74_eq (a0 : TreeMod) : n74 a0 = l74_3 a0 0 0 := by
  rw [n74, fnO_code h74 rfl Go.Proofs.Try.func74 (c := cd74) rfl (a0, ()) rfl]
  simp (maxSteps := 60000000) (disch := first | (intros; rename_i h; cases h; done) | decide +kernel) only [evS, seS, List.map_replicate, Nat.reduceDiv, Nat.reduceMod, Nat.reduceEqDiff, reduceCtorEq, ↓reduceIte, Nat.reduceLT, Nat.reduceAdd, Nat.reduceMul, Nat.reduceSub, Nat.reduceLeDiff, Nat.reduceBEq, Int.reduceEq, Int.reduceNeg, Int.reduceToNat, Int.reduceLE, Int.reduceLT, cd74, Go.Proofs.Try.f74, h74.r, m74, lv_pl, pl74, c101, lv74_8, lv74_3, l74_3, l74_8]
  all_goals try simp only [rnS, seS, Nat.reduceEqDiff, reduceCtorEq, ↓reduceIte, Nat.reduceAdd, Nat.reduceLeDiff, Nat.reduceBEq, Nat.reduceMul, lv74_8, lv74_3]
theorem l74_3_eq (a0 : TreeMod) (t3 : Int) (t4 : Int) : l74_3 a0 t3 t4 = if t4 < (↑a0.funs.length : Int) then (getI a0.funs t4).bind fun y0 => (n101 y0.body).bind fun y1 => l74_3 a0 (IntKind.i64.wrap (t3 + y1.fst)) (IntKind.i64.wrap (t4 + 1)) else l74_8 a0 t3 0 := by
  rw [l74_3]
  simp only [evRAt, locS, cd74, Go.Proofs.Try.f74]
  rw [evR_eq]
  simp (maxSteps := 60000000) (disch := first | (intros; rename_i h; cases h; done) | decide +kernel) only [evS, seS, List.map_replicate, Nat.reduceDiv, Nat.reduceMod, Nat.reduceEqDiff, reduceCtorEq, ↓reduceIte, Nat.reduceLT, Nat.reduceAdd, Nat.reduceMul, Nat.reduceSub, Nat.reduceLeDiff, Nat.reduceBEq, Int.reduceEq, Int.reduceNeg, Int.reduceToNat, Int.reduceLE, Int.reduceLT, cd74, Go.Proofs.Try.f74, h74.r, m74, lv_pl, pl74, c101, lv74_8, lv74_3, l74_3, l74_8]
  all_goals try simp only [rnS, seS, Nat.reduceEqDiff, reduceCtorEq, ↓reduceIte, Nat.reduceAdd, Nat.reduceLeDiff, Nat.reduceBEq, Nat.reduceMul, lv74_8, lv74_3]
  all_goals try simp only [bindN_eq]
theorem l74_8_eq (a0 : TreeMod) (t3 : Int) (t7 : Int) : l74_8 a0 t3 t7 = if t7 < (↑a0.main.length : Int) then (getI a0.main t7).bind fun y0 => (n101 y0).bind fun y1 => l74_8 a0 (IntKind.i64.wrap (t3 + y1.fst)) (IntKind.i64.wrap (t7 + 1)) else some t3 := by
  rw [l74_8]
  simp only [evRAt, locS, cd74, Go.Proofs.Try.f74]
  rw [evR_eq]
  simp (maxSteps := 60000000) (disch := first | (intros; rename_i h; cases h; done) | decide +kernel) only [evS, seS, List.map_replicate, Nat.reduceDiv, Nat.reduceMod, Nat.reduceEqDiff, reduceCtorEq, ↓reduceIte, Nat.reduceLT, Nat.reduceAdd, Nat.reduceMul, Nat.reduceSub, Nat.reduceLeDiff, Nat.reduceBEq, Int.reduceEq, Int.reduceNeg, Int.reduceToNat, Int.reduceLE, Int.reduceLT, cd74, Go.Proofs.Try.f74, h74.r, m74, lv_pl, pl74, c101, lv74_8, lv74_3, l74_3, l74_8]
  all_goals try simp only [rnS, seS, Nat.reduceEqDiff, reduceCtorEq, ↓reduceIte, Nat.reduceAdd, Nat.reduceLeDiff, Nat.reduceBEq, Nat.reduceMul, lv74_8, lv74_3]
  all_goals try simp only [bindN_eq]
end Go.Fs.Se

set_option linter.unusedVariables false
set_option linter.unusedSimpArgs false
set_option maxRecDepth 40000
set_option maxHeartbeats 4000000
open Go.RowKit
namespace Go.Fs.Se
open Cel (cel unc)
open Dat (enc dec)
open Arg (ea da)
/-! loop.example/smithy/spec.FoldMod -/
noncomputable def l75_5 (a0 : TreeMod) (t4 : Int) (r7 : List TreeFun) : Option (TreeMod) := evRAt (envOf M .x) (lvT 75) cd75 [true, true, true, false, true, false] (endK (β := TreeMod) M 75 .x Go.Proofs.Try.f75.results.toList) (stL 62 [(1, AV.a 500000 0), (2, AV.a 500001 0), (3, AV.a 500002 0), (4, AV.d (D.i IntKind.i64 t4))] [(500000, some (Ob.box [AV.d (D.l 1 (List.map cel a0.uses)), AV.d (D.l 9 (List.map cel a0.funs)), AV.d (D.l 5 (List.map cel a0.main))])), (500001, some (Ob.box [AV.r 500003, AV.r 500004, AV.r 500005])), (500002, some (Ob.box [AV.r 500006, AV.r 500007, AV.r 500008])), (500003, some (Ob.row 1 [] true false 0)), (500004, some (Ob.row 9 [] true false 0)), (500005, some (Ob.row 5 [] true false 0)), (500006, some (Ob.row 1 (List.map cel a0.uses) true false 0)), (500007, some (Ob.row 9 (List.map cel r7) true false 0)), (500008, some (Ob.row 5 [] true false 0))])
noncomputable def l75_12 (a0 : TreeMod) (t6 : Int) (r7 : List TreeFun) (r8 : List TreeExpr) : Option (TreeMod) := evRAt (envOf M .x) (lvT 75) cd75 [true, true, true, true, false, true, false] (endK (β := TreeMod) M 75 .x Go.Proofs.Try.f75.results.toList) (stL 62 [(1, AV.a 500000 0), (2, AV.a 500001 0), (3, AV.a 500002 0), (6, AV.d (D.i IntKind.i64 t6))] [(500000, some (Ob.box [AV.d (D.l 1 (List.map cel a0.uses)), AV.d (D.l 9 (List.map cel a0.funs)), AV.d (D.l 5 (List.map cel a0.main))])), (500001, some (Ob.box [AV.r 500003, AV.r 500004, AV.r 500005])), (500002, some (Ob.box [AV.r 500006, AV.r 500007, AV.r 500008])), (500003, some (Ob.row 1 [] true false 0)), (500004, some (Ob.row 9 [] true false 0)), (500005, some (Ob.row 5 [] true false 0)), (500006, some (Ob.row 1 (List.map cel a0.uses) true false 0)), (500007, some (Ob.row 9 (List.map cel r7) true false 0)), (500008, some (Ob.row 5 (List.map cel r8) true false 0))])
theorem n75_eq (a0 : TreeMod) : n75 a0 = (n73 a0).bind fun y0 => if y0 = false then some (TreeMod.mk [] [] []) else if a0.uses.length * 16 ≤ 140737488355328 ∧ a0.uses.length ≤ 140737488355328 then l75_5 a0 0 [] else none := by
  rw [n75, fnO_code h75 rfl Go.Proofs.Try.func75 (c := cd75) rfl (a0, ()) rfl]
  simp (maxSteps := 60000000) (disch := first | (intros; rename_i h; cases h; done) | decide +kernel) only [evS, seS, List.map_replicate, Nat.reduceDiv, Nat.reduceMod, Nat.reduceEqDiff, reduceCtorEq, ↓reduceIte, Nat.reduceLT, Nat.reduceAdd, Nat.reduceMul, Nat.reduceSub, Nat.reduceLeDiff, Nat.reduceBEq, Int.reduceEq, Int.reduceNeg, Int.reduceToNat, Int.reduceLE, Int.reduceLT, cd75, Go.Proofs.Try.f75, h75.r, m75, lv_pl, pl75, c64, c73, lv75_12, lv75_5, l75_12, l75_5]
  all_goals try simp only [rnS, seS, Nat.reduceEqDiff, reduceCtorEq, ↓reduceIte, Nat.reduceAdd, Nat.reduceLeDiff, Nat.reduceBEq, Nat.reduceMul, lv75_12, lv75_5]
  all_goals try simp only [bindN_eq]
theorem l75_5_eq (a0 : TreeMod) (t4 : Int) (r7 : List TreeFun) : l75_5 a0 t4 r7 = if t4 < (↑a0.funs.length : Int) then (getI a0.funs t4).bind fun y0 => if y0.args.length * 24 ≤ 140737488355328 ∧ y0.args.length ≤ 140737488355328 then (n64 y0.body).bind fun y1 => if (r7.length + 1) * 128 ≤ 140737488355328 ∧ r7.length ≤ 140737488355327 then l75_5 a0 (IntKind.i64.wrap (t4 + 1)) (r7 ++ [TreeFun.mk y0.name y0.pub y0.args y0.type y1]) else none else none else l75_12 a0 0 r7 [] := by
  rw [l75_5]
  simp only [evRAt, locS, cd75, Go.Proofs.Try.f75]
  rw [evR_eq]
  simp (maxSteps := 60000000) (disch := first | (intros; rename_i h; cases h; done) | decide +kernel) only [evS, seS, List.map_replicate, Nat.reduceDiv, Nat.reduceMod, Nat.reduceEqDiff, reduceCtorEq, ↓reduceIte, Nat.reduceLT, Nat.reduceAdd, Nat.reduceMul, Nat.reduceSub, Nat.reduceLeDiff, Nat.reduceBEq, Int.reduceEq, Int.reduceNeg, Int.reduceToNat, Int.reduceLE, Int.reduceLT, cd75, Go.Proofs.Try.f75, h75.r, m75, lv_pl, pl75, c64, c73, lv75_12, lv75_5, l75_12, l75_5]
  all_goals try simp only [rnS, seS, Nat.reduceEqDiff, reduceCtorEq, ↓reduceIte, Nat.reduceAdd, Nat.reduceLeDiff, Nat.reduceBEq, Nat.reduceMul, lv75_12, lv75_5]
  all_goals try simp only [bindN_eq]
theorem l75_12_eq (a0 : TreeMod) (t6 : Int) (r7 : List TreeFun) (r8 : List TreeExpr) : l75_12 a0 t6 r7 r8 = if t6 < (↑a0.main.length : Int) then (getI a0.main t6).bind fun y0 => (n64 y0).bind fun y1 => if (r8.length + 1) * 72 ≤ 140737488355328 ∧ r8.length ≤ 140737488355327 then l75_12 a0 (IntKind.i64.wrap (t6 + 1)) r7 (r8 ++ [y1]) else none else some (TreeMod.mk a0.uses r7 r8) := by
  rw [l75_12]
  simp only [evRAt, locS, cd75, Go.Proofs.Try.f75]
  rw [evR_eq]
  simp (maxSteps := 60000000) (disch := first | (intros; rename_i h; cases h; done) | decide +kernel) only [evS, seS, List.map_replicate, Nat.reduceDiv, Nat.reduceMod, Nat.reduceEqDiff, reduceCtorEq, ↓reduceIte, Nat.reduceLT, Nat.reduceAdd, Nat.reduceMul, Nat.reduceSub, Nat.reduceLeDiff, Nat.reduceBEq, Int.reduceEq, Int.reduceNeg, Int.reduceToNat, Int.reduceLE, Int.reduceLT, cd75, Go.Proofs.Try.f75, h75.r, m75, lv_pl, pl75, c64, c73, lv75_12, lv75_5, l75_12, l75_5]
  all_goals try simp only [rnS, seS, Nat.reduceEqDiff, reduceCtorEq, ↓reduceIte, Nat.reduceAdd, Nat.reduceLeDiff, Nat.reduceBEq, Nat.reduceMul, lv75_12, lv75_5]
  all_goals try simp only [bindN_eq]
end Go.Fs.Se

set_option linter.unusedVariables false
set_option linter.unusedSimpArgs false
set_option maxRecDepth 40000
set_option maxHeartbeats 4000000
open Go.RowKit
namespace Go.Fs.Se
open Cel (cel unc)
open Dat (enc dec)
open Arg (ea da)
/-! (loop.example/smithy/impl.TreeMod).size -/
noncomputable def l79_3 (a0 : TreeMod) (t3 : Int) (t9 : List TreeExpr) (t10 : Int) (t11 : Int) : Option (Int) := evRAt (envOf M .x) (lvT 79) cd79 [true, true, false, true, false] (endK (β := Int) M 79 .x Go.Proofs.Try.f79.results.toList) (stL 25 [(3, AV.d (D.i IntKind.i64 t3)), (9, AV.d (D.l 5 (List.map cel t9))), (10, AV.d (D.i IntKind.i64 t10)), (11, AV.d (D.i IntKind.i64 t11))] [])
theorem n79_eq (a0 : TreeMod) : n79 a0 = (n120 a0).bind fun y0 => l79_3 a0 0 y0 (↑y0.length : Int) 0 := by
  rw [n79, fnO_code h79 rfl Go.Proofs.Try.func79 (c := cd79) rfl (a0, ()) rfl]
  simp (maxSteps := 60000000) (disch := first | (intros; rename_i h; cases h; done) | decide +kernel) only [evS, seS, List.map_replicate, Nat.reduceDiv, Nat.reduceMod, Nat.reduceEqDiff, reduceCtorEq, ↓reduceIte, Nat.reduceLT, Nat.reduceAdd, Nat.reduceMul, Nat.reduceSub, Nat.reduceLeDiff, Nat.reduceBEq, Int.reduceEq, Int.reduceNeg, Int.reduceToNat, Int.reduceLE, Int.reduceLT, cd79, Go.Proofs.Try.f79, h79.r, m79, lv_pl, pl79, c107, c120, lv79_3, l79_3]
  all_goals try simp only [rnS, seS, Nat.reduceEqDiff, reduceCtorEq, ↓reduceIte, Nat.reduceAdd, Nat.reduceLeDiff, Nat.reduceBEq, Nat.reduceMul, lv79_3]
  all_goals try simp only [bindN_eq]
theorem l79_3_eq (a0 : TreeMod) (t3 : Int) (t9 : List TreeExpr) (t10 : Int) (t11 : Int) : l79_3 a0 t3 t9 t10 t11 = if t11 < t10 then (getI t9 t11).bind fun y0 => (n107 y0).bind fun y1 => l79_3 a0 (IntKind.i64.wrap (t3 + y1.fst)) t9 t10 (IntKind.i64.wrap (t11 + 1)) else some t3 := by
  rw [l79_3]
  simp only [evRAt, locS, cd79, Go.Proofs.Try.f79]
  rw [evR_eq]
  simp (maxSteps := 60000000) (disch := first | (intros; rename_i h; cases h; done) | decide +kernel) only [evS, seS, List.map_replicate, Nat.reduceDiv, Nat.reduceMod, Nat.reduceEqDiff, reduceCtorEq, ↓reduceIte, Nat.reduceLT, Nat.reduceAdd, Nat.reduceMul, Nat.reduceSub, Nat.reduceLeDiff, Nat.reduceBEq, Int.reduceEq, Int.reduceNeg, Int.reduceToNat, Int.reduceLE, Int.reduceLT, cd79, Go.Proofs.Try.f79, h79.r, m79, lv_pl, pl79, c107, c120, lv79_3, l79_3]
  all_goals try simp only [rnS, seS, Nat.reduceEqDiff, reduceCtorEq, ↓reduceIte, Nat.reduceAdd, Nat.reduceLeDiff, Nat.reduceBEq, Nat.reduceMul, lv79_3]
  all_goals try simp only [bindN_eq]
end Go.Fs.Se

set_option linter.unusedVariables false
set_option linter.unusedSimpArgs false
set_option maxRecDepth 40000
set_option maxHeartbeats 4000000
open Go.RowKit
namespace Go.Fs.Se
open Cel (cel unc)
open Dat (enc dec)
open Arg (ea da)
/-! loop.example/smithy/impl.FoldMod -/
noncomputable def l80_5 (a0 : TreeMod) (t20 : Int) (r7 : List TreeFun) : Option (TreeMod) := evRAt (envOf M .x) (lvT 80) cd80 [true, true, true, false, true, false] (endK (β := TreeMod) M 80 .x Go.Proofs.Try.f80.results.toList) (stL 56 [(1, AV.a 500000 0), (2, AV.a 500001 0), (3, AV.a 500002 0), (18, AV.d (D.l 9 (List.map cel a0.funs))), (19, AV.d (D.i IntKind.i64 (↑a0.funs.length : Int))), (20, AV.d (D.i IntKind.i64 t20))] [(500000, some (Ob.box [AV.d (D.l 1 (List.map cel a0.uses)), AV.d (D.l 9 (List.map cel a0.funs)), AV.d (D.l 5 (List.map cel a0.main))])), (500001, some (Ob.box [AV.r 500003, AV.r 500004, AV.r 500005])), (500002, some (Ob.box [AV.r 500006, AV.r 500007, AV.r 500008])), (500003, some (Ob.row 1 [] true false 0)), (500004, some (Ob.row 9 [] true false 0)), (500005, some (Ob.row 5 [] true false 0)), (500006, some (Ob.row 1 (List.map cel a0.uses) true false 0)), (500007, some (Ob.row 9 (List.map cel r7) true false 0)), (500008, some (Ob.row 5 [] true false 0))])
noncomputable def l80_11 (a0 : TreeMod) (t43 : Int) (r6 : List TreeFun) (r7 : List TreeExpr) : Option (TreeMod) := evRAt (envOf M .x) (lvT 80) cd80 [true, true, true, true, false, true, false] (endK (β := TreeMod) M 80 .x Go.Proofs.Try.f80.results.toList) (stL 56 [(2, AV.a 500000 0), (3, AV.a 500001 0), (41, AV.d (D.l 5 (List.map cel a0.main))), (42, AV.d (D.i IntKind.i64 (↑a0.main.length : Int))), (43, AV.d (D.i IntKind.i64 t43))] [(500000, some (Ob.box [AV.r 500002, AV.r 500003, AV.r 500004])), (500001, some (Ob.box [AV.r 500005, AV.r 500006, AV.r 500007])), (500002, some (Ob.row 1 [] true false 0)), (500003, some (Ob.row 9 [] true false 0)), (500004, some (Ob.row 5 [] true false 0)), (500005, some (Ob.row 1 (List.map cel a0.uses) true false 0)), (500006, some (Ob.row 9 (List.map cel r6) true false 0)), (500007, some (Ob.row 5 (List.map cel r7) true false 0))])
theorem n80_eq (a0 : TreeMod) : n80 a0 = (n78 a0).bind fun y0 => if y0 = false then some (TreeMod.mk [] [] []) else if a0.uses.length * 16 ≤ 140737488355328 ∧ a0.uses.length ≤ 140737488355328 then l80_5 a0 0 [] else none := by
  rw [n80, fnO_code h80 rfl Go.Proofs.Try.func80 (c := cd80) rfl (a0, ()) rfl]
  simp (maxSteps := 60000000) (disch := first | (intros; rename_i h; cases h; done) | decide +kernel) only [evS, seS, List.map_replicate, Nat.reduceDiv, Nat.reduceMod, Nat.reduceEqDiff, reduceCtorEq, ↓reduceIte, Nat.reduceLT, Nat.reduceAdd, Nat.reduceMul, Nat.reduceSub, Nat.reduceLeDiff, Nat.reduceBEq, Int.reduceEq, Int.reduceNeg, Int.reduceToNat, Int.reduceLE, Int.reduceLT, cd80, Go.Proofs.Try.f80, h80.r, m80, lv_pl, pl80, c67, c78, lv80_11, lv80_5, l80_11, l80_5]
  all_goals try simp only [rnS, seS, Nat.reduceEqDiff, reduceCtorEq, ↓reduceIte, Nat.reduceAdd, Nat.reduceLeDiff, Nat.reduceBEq, Nat.reduceMul, lv80_11, lv80_5]
  all_goals try simp only [bindN_eq]
theorem l80_5_eq (a0 : TreeMod) (t20 : Int) (r7 : List TreeFun) : l80_5 a0 t20 r7 = if t20 < (↑a0.funs.length : Int) then (getI a0.funs t20).bind fun y0 => if y0.args.length * 24 ≤ 140737488355328 ∧ y0.args.length ≤ 140737488355328 then (n67 y0.body).bind fun y1 => if (r7.length + 1) * 128 ≤ 140737488355328 ∧ r7.length ≤ 140737488355327 then l80_5 a0 (IntKind.i64.wrap (t20 + 1)) (r7 ++ [TreeFun.mk y0.name y0.pub y0.args y0.type y1]) else none else none else l80_11 a0 0 r7 [] := by
  rw [l80_5]
  simp only [evRAt, locS, cd80, Go.Proofs.Try.f80]
  rw [evR_eq]
  simp (maxSteps := 60000000) (disch := first | (intros; rename_i h; cases h; done) | decide +kernel) only [evS, seS, List.map_replicate, Nat.reduceDiv, Nat.reduceMod, Nat.reduceEqDiff, reduceCtorEq, ↓reduceIte, Nat.reduceLT, Nat.reduceAdd, Nat.reduceMul, Nat.reduceSub, Nat.reduceLeDiff, Nat.reduceBEq, Int.reduceEq, Int.reduceNeg, Int.reduceToNat, Int.reduceLE, Int.reduceLT, cd80, Go.Proofs.Try.f80, h80.r, m80, lv_pl, pl80, c67, c78, lv80_11, lv80_5, l80_11, l80_5]
  all_goals try simp only [rnS, seS, Nat.reduceEqDiff, reduceCtorEq, ↓reduceIte, Nat.reduceAdd, Nat.reduceLeDiff, Nat.reduceBEq, Nat.reduceMul, lv80_11, lv80_5]
  all_goals try simp only [bindN_eq]
theorem l80_11_eq (a0 : TreeMod) (t43 : Int) (r6 : List TreeFun) (r7 : List TreeExpr) : l80_11 a0 t43 r6 r7 = if t43 < (↑a0.main.length : Int) then (getI a0.main t43).bind fun y0 => (n67 y0).bind fun y1 => if (r7.length + 1) * 72 ≤ 140737488355328 ∧ r7.length ≤ 140737488355327 then l80_11 a0 (IntKind.i64.wrap (t43 + 1)) r6 (r7 ++ [y1]) else none else some (TreeMod.mk a0.uses r6 r7) := by
  rw [l80_11]
  simp only [evRAt, locS, cd80, Go.Proofs.Try.f80]
  rw [evR_eq]
  simp (maxSteps := 60000000) (disch := first | (intros; rename_i h; cases h; done) | decide +kernel) only [evS, seS, List.map_replicate, Nat.reduceDiv, Nat.reduceMod, Nat.reduceEqDiff, reduceCtorEq, ↓reduceIte, Nat.reduceLT, Nat.reduceAdd, Nat.reduceMul, Nat.reduceSub, Nat.reduceLeDiff, Nat.reduceBEq, Int.reduceEq, Int.reduceNeg, Int.reduceToNat, Int.reduceLE, Int.reduceLT, cd80, Go.Proofs.Try.f80, h80.r, m80, lv_pl, pl80, c67, c78, lv80_11, lv80_5, l80_11, l80_5]
  all_goals try simp only [rnS, seS, Nat.reduceEqDiff, reduceCtorEq, ↓reduceIte, Nat.reduceAdd, Nat.reduceLeDiff, Nat.reduceBEq, Nat.reduceMul, lv80_11, lv80_5]
  all_goals try simp only [bindN_eq]
end Go.Fs.Se

set_option linter.unusedVariables false
set_option linter.unusedSimpArgs false
set_option maxRecDepth 40000
set_option maxHeartbeats 4000000
open Go.RowKit
namespace Go.Fs.Se
open Cel (cel unc)
open Dat (enc dec)
open Arg (ea da)
/-! loop.example/smithy/laws.FnExactFoldGain -/
theorem n7_eq (a0 : TreeMod) : n7 a0 = (n34 a0 1048576).bind fun y0 => if y0 < 0 then some true else (n36 a0).bind fun y1 => (n35 y1).bind fun y2 => (n36 a0).bind fun y3 => (n37 y3).bind fun y4 => if decide (y4 = y2) = false then some false else (n36 a0).bind fun y5 => (n38 y3 y5).bind fun y6 => if y6 = false then some false else some true := by
  rw [n7, fnO_code h7 rfl Go.Proofs.Try.func7 (c := cd7) rfl (a0, ()) rfl]
  simp (maxSteps := 60000000) (disch := first | (intros; rename_i h; cases h; done) | decide +kernel) only [evS, seS, List.map_replicate, Nat.reduceDiv, Nat.reduceMod, Nat.reduceEqDiff, reduceCtorEq, ↓reduceIte, Nat.reduceLT, Nat.reduceAdd, Nat.reduceMul, Nat.reduceSub, Nat.reduceLeDiff, Nat.reduceBEq, Int.reduceEq, Int.reduceNeg, Int.reduceToNat, Int.reduceLE, Int.reduceLT, cd7, Go.Proofs.Try.f7, h7.r, m7, lv_pl, pl7, c34, c35, c36, c37, c38]
  all_goals try simp only [bindN_eq]
end Go.Fs.Se
