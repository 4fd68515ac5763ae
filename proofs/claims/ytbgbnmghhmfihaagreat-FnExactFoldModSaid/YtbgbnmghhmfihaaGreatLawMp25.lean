/- A part of the proof: an evaluator of the program's code over plain data, proved sound, and walks of the program's functions by it. No conditions beyond those in the theorems. -/
import Derived.SizedLaws
import Derived.ChangeArms
import Derived.DataReads
import Derived.WalkKit
import Derived.ProofKit
import Derived.OpenShut
import Derived.ShutString
import Derived.ChangeOld
import Derived.Below
import Derived.Carry
import Derived.Test.YtbgbnmghhmfihaaGreatLawMp22
import Derived.Test.YtbgbnmghhmfihaaGreatLawMp21
import Derived.Test.YtbgbnmghhmfihaaGreatLawMp10
import Derived.Test.YtbgbnmghhmfihaaGreatLawMp24
set_option linter.unusedVariables false
set_option linter.unusedSimpArgs false
set_option linter.constructorNameAsVariable false
set_option linter.unusedSectionVars false
set_option linter.defProp false
set_option linter.unusedVariables false
namespace Go.Fs.Se
open Cel (cel unc)
open Dat (enc dec)
open Arg (ea da)
/-! ### marks -/
/-- How many places of trees are marked. -/
def CL (es : List TreeExpr) : Nat := lvLL (es.map cel)
theorem CL_nil : CL [] = 0 := rfl
theorem CL_cons (e : TreeExpr) (es : List TreeExpr) : CL (e :: es) = 4 + CL e.kids + CL es := by
  unfold CL
  rw [List.map_cons, lvLL, cel_TreeExpr]
  simp only [enc_I, enc_S, enc_L, lvL, lv]
  omega
theorem CL_le : ∀ (e : TreeExpr), CL e.kids ≤ 4 * W e := by
  intro e
  induction e using tree_ind with
  | h e ih =>
    have key : ∀ es : List TreeExpr, (∀ k ∈ es, CL k.kids ≤ 4 * W k) → CL es ≤ 4 * (es.length + WL es) := by
      intro es
      induction es with
      | nil => intro _; simp [CL_nil]
      | cons x es ihs =>
        intro h
        have h1 := h x (.head _)
        have h2 := ihs fun k hk => h k (.tail _ hk)
        rw [CL_cons, WL_cons, List.length_cons]
        omega
    have := key e.kids ih
    rw [W_eq]
    omega
theorem mt_some : ∀ (n : Nat) (t3 : ByteArray), t3.size + n ≤ 9000000000000000000 → ∀ t0 : Int, 0 ≤ t0 → t0 ≤ 4611686018427387904 → t0.toNat < 10 ^ n → ∀ a, ∃ s, l93_4 a t0 t3 = some s := by
  intro n
  induction n with
  | zero =>
    intro t3 h3 t0 h0 h1 h2 a
    have : t0 = 0 := by omega
    subst this
    rw [l93_4_eq, if_neg (by omega), if_pos (by
      have : (ByteArray.mk #[109]).size = 1 := rfl
      omega)]
    exact ⟨_, rfl⟩
  | succ n ih =>
    intro t3 h3 t0 h0 h1 h2 a
    rw [l93_4_eq]
    by_cases hp : 0 < t0
    · have hb : ∀ x, (bytesS [x]).size = 1 := fun _ => rfl
      rw [if_pos hp, hb, if_pos (by omega)]
      have hd : t0.tdiv 10 = t0 / 10 := Int.tdiv_eq_ediv_of_nonneg h0
      rw [hd, wrap64 (by omega) (by omega)]
      refine ih _ (by rw [ByteArray.size_append, hb]; omega) _ (by omega) (by omega) ?_ a
      rw [Nat.pow_succ] at h2
      omega
    · rw [if_neg hp, if_pos (by
        have : (ByteArray.mk #[109]).size = 1 := rfl
        omega)]
      exact ⟨_, rfl⟩
theorem n93_some (k : Int) (h : k ≤ 4611686018427387904) : ∃ s, n93 k = some s := by
  rw [n93_eq]
  split
  · exact ⟨_, rfl⟩
  · exact mt_some 19 _ (by decide) k (by omega) h (by omega) k
theorem mk_kids (a b : Int) (c d : ByteArray) (es : List TreeExpr) : (TreeExpr.mk a b c d es).kids = es := rfl
theorem mark_ok : ∀ (e : TreeExpr), okE e → ∀ k : Int, 0 < k → k + CL e.kids ≤ 2305843009213693952 → ∃ es', n39 e.kids k = some (k + CL e.kids, es') ∧ n42 es' k = some (k + CL e.kids) := by
  intro e
  induction e using tree_ind with
  | h e ih =>
    intro hok k hk hb
    obtain ⟨_, _, k3, k4, k5, k6⟩ := (okE_iff e).1 hok
    have loop : ∀ (ys : List TreeExpr) (i : Nat) (a0 : List TreeExpr) (a1 t : Int) (z : List TreeExpr), z.drop i = ys → (∀ y ∈ ys, y ∈ e.kids) → i ≤ z.length → z.length ≤ 140737488355328 → 0 < t → t + CL ys ≤ 2305843009213693952 →
        ∃ z', l39_2 a0 a1 t (i : Int) z = some (t + CL ys, z') ∧ z'.length = z.length ∧ z'.take i = z.take i ∧ ∀ b1, l42_2 z' b1 t (i : Int) = some (t + CL ys) := by
      intro ys
      induction ys with
      | nil =>
        intro i a0 a1 t z hd hm hi hz ht hb
        have := dropEnd hd
        refine ⟨z, ?_, rfl, rfl, fun b1 => ?_⟩
        · rw [l39_2_eq, if_neg (by omega), CL_nil]; simp
        · rw [l42_2_eq, if_neg (by omega), CL_nil]; simp
      | cons y ys ihy =>
        intro i a0 a1 t z hd hm hi hz ht hb
        obtain ⟨d1, d2, d3, d4⟩ := dropAt hd
        rw [CL_cons] at hb
        have hy := hm y (.head _)
        have w1 : IntKind.i64.wrap (t + 1) = t + 1 := wrap64 (by omega) (by omega)
        have w2 : IntKind.i64.wrap (t + 1 + 1) = t + 2 := by rw [wrap64 (by omega) (by omega)]; omega
        have w3 : IntKind.i64.wrap (t + 2 + 1) = t + 3 := by rw [wrap64 (by omega) (by omega)]; omega
        have w4 : IntKind.i64.wrap (t + 3 + 1) = t + 4 := by rw [wrap64 (by omega) (by omega)]; omega
        obtain ⟨s1, hs1⟩ := n93_some (t + 2) (by omega)
        obtain ⟨s2, hs2⟩ := n93_some (t + 3) (by omega)
        obtain ⟨ks, hk1, hk2⟩ := ih y hy (okEs_mem k6 y hy) (t + 4) (by omega) (by omega)
        have hdr : (z.set i (TreeExpr.mk t (t + 1) s1 s2 ks)).drop (i + 1) = ys := by
          rw [List.drop_set_of_lt (by omega)]; exact d4
        obtain ⟨z', r1, r2, r3, r4⟩ := ihy (i + 1) a0 a1 (t + 4 + CL y.kids) (z.set i (TreeExpr.mk t (t + 1) s1 s2 ks)) hdr (fun x hx => hm x (.tail _ hx)) (by rw [List.length_set]; omega) (by rw [List.length_set]; exact hz) (by omega) (by omega)
        rw [List.length_set] at r2
        have hget : z'[i]? = some (TreeExpr.mk t (t + 1) s1 s2 ks) := by
          have h1 : (z'.take (i + 1))[i]? = z'[i]? := by rw [List.getElem?_take, if_pos (by omega)]
          rw [← h1, r3, List.getElem?_take, if_pos (by omega), List.getElem?_set_self d1]
        have hgetI : getI z' (i : Int) = some (TreeExpr.mk t (t + 1) s1 s2 ks) := by
          unfold getI; rw [if_pos (by omega), Int.toNat_natCast, hget]
        have hsum : t + 4 + CL y.kids + CL ys = t + ((4 + CL y.kids + CL ys : Nat) : Int) := by omega
        refine ⟨z', ?_, r2, ?_, fun b1 => ?_⟩
        · rw [l39_2_eq, if_pos (by omega), CL_cons]
          simp only [d2, d3, Option.bind_some, Int.toNat_natCast, w1, w2, w3, w4, hs1, hs2, hk1, wrN (n := i) (by omega)]
          rw [r1, hsum]
        · have := congrArg (List.take i) r3
          rw [List.take_take, List.take_take, Nat.min_eq_left (by omega), List.take_set_of_le (Nat.le_refl i)] at this
          exact this
        · rw [l42_2_eq, if_pos (by omega), CL_cons]
          simp only [hgetI, Option.bind_some, w1, w2, w3, w4, hs1, hs2, hk2, decide_true, Bool.true_eq_false, if_false, wrN (n := i) (by omega)]
          rw [if_neg (by omega), r4, hsum]
    obtain ⟨z', r1, _, _, r4⟩ := loop e.kids 0 e.kids k k e.kids rfl (fun y hy => hy) (by omega) k5 hk hb
    refine ⟨z', ?_, ?_⟩
    · rw [n39_eq]; exact r1
    · rw [n42_eq]; exact r4 k
end Go.Fs.Se

set_option linter.unusedVariables false
namespace Go.Fs
open Go.RowKit

/-! ### from a claim's reading of an argument to a datum -/
mutual
/-- A type's shape. -/
inductive HS (P : Program) : TypeId → List Sh → Prop
  | b (t : TypeId) (h : P.underlying t = some .bool) : HS P t [.b]
  | i (t : TypeId) (h : P.underlying t = some (.int .i64)) : HS P t [.i]
  | s (t : TypeId) (h : P.underlying t = some .string) : HS P t [.s]
  | l (t e : TypeId) (css : List Sh) (h : P.underlying t = some (.slice e)) (hc : P.cellsOf e = css.length) (hb : 1 ≤ P.bytesOf e) (hp : 0 < css.length) (he : HS P e css) : HS P t [.l css]
  | t (t e : TypeId) (fs : Array Field) (h : P.underlying t = some (.slice e)) (hc : P.cellsOf e = 5) (hb : 1 ≤ P.bytesOf e) (hs : P.underlying e = some (.struct fs)) (hf : HSF P [t] fs.toList 0 treeS) : HS P t [.t]
  | st (t : TypeId) (fs : Array Field) (css : List Sh) (h : P.underlying t = some (.struct fs)) (hc : P.cellsOf t = css.length) (hf : HSF P [] fs.toList 0 css) : HS P t css
/-- The shape of fields; 'rec': a type whose shape is being told. -/
inductive HSF (P : Program) : List TypeId → List Field → Nat → List Sh → Prop
  | nil (rec : List TypeId) (o : Nat) : HSF P rec [] o []
  | cons (rec : List TypeId) (f : Field) (fs : List Field) (o : Nat) (c1 c2 : List Sh) (hoff : f.offset = o) (hsz : P.cellsOf f.type = c1.length) (h : HS P f.type c1) (hs : HSF P rec fs (o + c1.length) c2) : HSF P rec (f :: fs) o (c1 ++ c2)
  | self (f : Field) (fs : List Field) (o : Nat) (c2 : List Sh) (hoff : f.offset = o) (hsz : P.cellsOf f.type = 1) (hs : HSF P [f.type] fs (o + 1) c2) : HSF P [f.type] (f :: fs) o (.t :: c2)
end

section
variable {H : Type} {enc : TypeId × Value → H} {P : Program} {w : World} {spare : Nat → Bool} {held : Bool}

/-- What is read of a list of cells. -/
def RdOK (w : World) (cs : List Value) (css : List Sh) : Prop := ∃ ds S, TrL w false cs ds S ∧ (∀ v ∈ cs, v.oneCell' = true) ∧ shL css ds = true ∧ okL ds = true

theorem RdOK.append {cs cs' : List Value} {css css' : List Sh} (h : RdOK w cs css) (h' : RdOK w cs' css') : RdOK w (cs ++ cs') (css ++ css') := by
  obtain ⟨ds, S, h1, h2, h3, h4⟩ := h
  obtain ⟨ds', S', h1', h2', h3', h4'⟩ := h'
  refine ⟨ds ++ ds', S ++ S', h1.append h1', fun v hv => ?_, ?_, ?_⟩
  · rcases List.mem_append.1 hv with hv | hv
    · exact h2 v hv
    · exact h2' v hv
  · clear h1 h2 h4
    induction css generalizing ds with
    | nil => obtain rfl := shL_nil h3; exact h3'
    | cons c css ih =>
      obtain ⟨d, q, rfl, e1, e2⟩ := shL_cons h3
      simp only [List.cons_append, shL, Bool.and_eq_true]
      exact ⟨e1, ih q e2⟩
  · clear h1 h3
    induction ds with
    | nil => exact h4'
    | cons d ds ih =>
      rw [okL_cons] at h4
      simp only [List.cons_append]
      rw [okL_cons]
      exact ⟨h4.1, ih h4.2⟩

theorem wf_i64 {n : Int} (h : (Lit.int .i64 n).wf = true) : okD (.i .i64 n) = true := by
  rw [okD_i]
  simp only [Lit.wf, Bool.and_eq_true, decide_eq_true_eq] at h
  have e1 : IntKind.i64.min = -9223372036854775808 := by decide
  have e2 : IntKind.i64.max = 9223372036854775807 := by decide
  rw [e1, e2] at h
  omega

theorem weights_all {e : TypeId} : ∀ {l : List (DataW H)}, (DataW.weightsAll P e l).all (· ≤ reachBytes) = true → ∀ d ∈ l, (d.weights P e).all (· ≤ reachBytes) = true
  | [], _, d, hd => by cases hd
  | x :: l, h, d, hd => by
    simp only [DataW.weightsAll, List.all_append, Bool.and_eq_true] at h
    rcases List.mem_cons.1 hd with rfl | hd
    · exact h.1
    · exact weights_all h.2 d hd

theorem cell_addr {a : Addr} {v : Value} (h : w.cell? a = some v) : ∃ cur el fr, w.heap[a.block]? = some (.cells cur el fr) ∧ a.spot = none ∧ cur[a.off]? = some v := by
  unfold World.cell? at h
  split at h
  · rename_i c el fr hg
    split at h
    · cases h
    · rename_i hs
      exact ⟨c, el, fr, hg, by simpa using hs, h⟩
  · cases h

theorem addr_add (a : Addr) (m n : Nat) : (a.add m).add n = a.add (m + n) := by
  obtain ⟨b, o, s⟩ := a
  unfold Addr.add
  by_cases h1 : m = 0 <;> by_cases h2 : n = 0 <;> simp [h1, h2, Nat.add_assoc]

/-- A list that is read. -/
theorem rd_slice {t e : TypeId} {css : List Sh} (ht : P.underlying t = some (.slice e)) (hc : P.cellsOf e = css.length) (hb : 1 ≤ P.bytesOf e) (hp : 0 < css.length) {n : Nat}
    (ih : ∀ (m : Nat), m < n → ∀ cs (x : DataW H × List MemPlace), DataW.trod enc P w 0 spare held m e cs = some x → (x.1.weights P e).all (· ≤ reachBytes) = true → RdOK w cs css)
    {cs : List Value} {x : DataW H × List MemPlace} (h : DataW.trod enc P w 0 spare held n t cs = some x) (hw : (x.1.weights P t).all (· ≤ reachBytes) = true) :
    ∃ xs S v, cs = [v] ∧ Tr w false v (.l css.length xs) S ∧ v.oneCell' = true ∧ shLL css xs = true ∧ okLL xs = true ∧ xs.length ≤ 140737488355328 := by
  rcases DataW.trod_slice ht h with ⟨rfl, rfl⟩ | ⟨a, len, cap, elems, rest, m, rfl, rfl, rfl, hb0, hl, hm, hel, hx, _, _⟩
  · exact ⟨[], [], _, rfl, .z none 0 _ (by simp), rfl, rfl, rfl, Nat.zero_le _⟩
  · -- element by element
    simp only [DataW.weights, ht, List.all_cons, List.all_append, Bool.and_eq_true, decide_eq_true_eq] at hw
    obtain ⟨hw1, hw2, _⟩ := hw
    have hlen : len ≤ 140737488351232 := by
      have h1 : len ≤ len * P.bytesOf e := Nat.le_mul_of_pos_right _ (by omega)
      have h2 : (elems.map (·.1)).length = len := by rw [List.length_map, hel]
      rw [h2] at hw1
      have h3 : len * P.bytesOf e ≤ (len + (rest.map (·.1)).length) * P.bytesOf e := Nat.mul_le_mul_right _ (by omega)
      have h4 : reachBytes = 140737488351232 := by decide
      omega
    have step : ∀ k, k ≤ len → ∃ vs xs S, TrL w false vs xs.flatten S ∧ (∀ v ∈ vs, v.oneCell' = true) ∧ vs.length = k * css.length ∧ xs.length = k ∧ shLL css xs = true ∧ okLL xs = true ∧ ∀ j v, vs[j]? = some v → w.cell? (a.add j) = some v := by
      intro k
      induction k with
      | zero => intro _; exact ⟨[], [], [], .nil, by simp, by simp, rfl, rfl, rfl, by simp⟩
      | succ k ihk =>
        intro hk
        obtain ⟨vs, xs, S, a1, a2, a3, a4, a5, a6, a7⟩ := ihk (by omega)
        have hk' : k < elems.length := by omega
        have hxk := hx k (by omega)
        rw [List.getElem?_eq_getElem hk'] at hxk
        obtain ⟨cs', c1, c2⟩ := Option.bind_eq_some_iff.1 hxk
        obtain ⟨ds, S', b1, b2, b3, b4⟩ := ih m (Nat.lt_succ_self m) cs' _ c2 (weights_all hw2 _ (List.mem_map.2 ⟨_, List.getElem_mem hk', rfl⟩))
        obtain ⟨_, d2, d3⟩ := World.cells?_some c1
        refine ⟨vs ++ cs', xs ++ [ds], S ++ S', ?_, ?_, ?_, ?_, ?_, ?_, ?_⟩
        · rw [List.flatten_append]; simpa using a1.append b1
        · intro v hv
          rcases List.mem_append.1 hv with hv | hv
          · exact a2 v hv
          · exact b2 v hv
        · rw [List.length_append, a3, d2, hc, Nat.succ_mul]
        · simp [a4]
        · clear a1 a4 a6 a7
          induction xs with
          | nil => simp only [List.nil_append, shLL, Bool.and_eq_true]; exact ⟨b3, trivial⟩
          | cons y ys ihy => simp only [List.cons_append, shLL, Bool.and_eq_true] at a5 ⊢; exact ⟨a5.1, ihy a5.2⟩
        · clear a1 a4 a5 a7
          induction xs with
          | nil => simp only [List.nil_append, okLL, Bool.and_eq_true]; exact ⟨b4, trivial⟩
          | cons y ys ihy => simp only [List.cons_append, okLL, Bool.and_eq_true] at a6 ⊢; exact ⟨a6.1, ihy a6.2⟩
        · intro j v hj
          by_cases hjl : j < vs.length
          · rw [List.getElem?_append_left hjl] at hj; exact a7 j v hj
          · rw [List.getElem?_append_right (by omega)] at hj
            have hlt : j - vs.length < cs'.length := (List.getElem?_eq_some_iff.1 hj).1
            have := d3 (j - vs.length) (by omega)
            rw [hj] at this
            rw [← this, hc, addr_add]
            congr 2
            omega
    obtain ⟨vs, xs, S, a1, a2, a3, a4, a5, a6, a7⟩ := step len (Nat.le_refl _)
    by_cases h0 : len = 0
    · subst h0
      obtain rfl : xs = [] := List.eq_nil_of_length_eq_zero a4
      exact ⟨[], [], _, rfl, .z (some a) cap _ (by simp), rfl, rfl, rfl, Nat.zero_le _⟩
    · have hv0 : 0 < vs.length := by rw [a3]; exact Nat.mul_pos (by omega) hp
      have c0 := a7 0 vs[0] (List.getElem?_eq_getElem hv0)
      obtain ⟨cur, el, fr, g1, g2, _⟩ := cell_addr c0
      have hblk : (a.add 0).block = a.block := rfl
      have hspot : (a.add 0).spot = a.spot := rfl
      rw [hblk] at g1
      rw [hspot] at g2
      have ha : a = ⟨a.block, a.off, none⟩ := by cases a; simp at g2; simp [g2]
      have had : ∀ j, a.add j = ⟨a.block, a.off + j, none⟩ := fun j => by
        have := add_at a.block a.off j
        rw [← ha] at this; exact this
      refine ⟨xs, a.block :: S, .slice (some a) len cap, rfl, ?_, rfl, a5, a6, by omega⟩
      have := Tr.l (w := w) (own := false) a.block a.off cap css.length cur el fr vs xs S g1 (by omega) (by
        have : Go.maxLen = 2 ^ 63 - 1 := rfl
        omega) (by rw [a3, a4]) (fun j v hj => by
          have := a7 j v hj
          rw [had, cell_at g1] at this
          exact this) a2 (fun x hx => by rw [shL_length (shLL_len a5 x hx)]) (by simp) a1
      rw [a4, ← ha] at this
      exact this

/-- What a claim reads is a datum of its type's shape. -/
theorem trod_rd : ∀ (n : Nat) {t : TypeId} {css : List Sh}, HS P t css → ∀ cs (x : DataW H × List MemPlace), DataW.trod enc P w 0 spare held n t cs = some x → (x.1.weights P t).all (· ≤ reachBytes) = true → RdOK w cs css := by
  intro n
  induction n using Nat.strongRecOn with
  | _ n IH =>
    intro t css hs
    -- fields in turn
    have fields : ∀ {rec : List TypeId} {fs : List Field} {o : Nat} {css : List Sh}, HSF P rec fs o css → (∀ t ∈ rec, HS P t [.t]) → ∀ (m : Nat), m < n → ∀ (cs : List Value) (ys : List (DataW H × List MemPlace)), o + css.length ≤ cs.length → (∀ (i : Nat) (f : Field), fs[i]? = some f → DataW.trod enc P w 0 spare held m f.type ((cs.drop f.offset).take (P.cellsOf f.type)) = ys[i]?) → ys.length = fs.length →
        (DataW.weightsEach P (fs.map (·.type)) (ys.map (·.1))).all (· ≤ reachBytes) = true → RdOK w ((cs.drop o).take css.length) css := by
      intro rec fs
      induction fs with
      | nil =>
        intro o css hf _ m _ cs ys _ _ _ _
        cases hf
        exact ⟨[], [], by simpa using .nil, by simp, rfl, rfl⟩
      | cons f fs ihf =>
        intro o css hf hrec m hm cs ys hl hx hy hw
        cases ys with
        | nil => simp at hy
        | cons y ys =>
          simp only [List.map_cons, DataW.weightsEach, List.all_append, Bool.and_eq_true] at hw
          have h0 := hx 0 f rfl
          simp only [List.getElem?_cons_zero] at h0
          cases hf with
          | cons _ _ _ _ c1 c2 hoff hsz h hs' =>
            rw [hoff, hsz] at h0
            have r1 := IH m hm h _ _ h0 hw.1
            have r2 := ihf hs' hrec m hm cs ys (by rw [List.length_append] at hl; omega) (fun i g hg => by simpa using hx (i + 1) g (by simpa using hg)) (by simpa using hy) hw.2
            rw [List.length_append, List.take_add, List.drop_drop]
            exact r1.append r2
          | self _ _ _ c2 hoff hsz hs' =>
            rw [hoff, hsz] at h0
            have r1 := IH m hm (hrec f.type (by simp)) _ _ h0 hw.1
            have r2 := ihf hs' hrec m hm cs ys (by rw [List.length_cons] at hl; omega) (fun i g hg => by simpa using hx (i + 1) g (by simpa using hg)) (by simpa using hy) hw.2
            rw [List.length_cons, Nat.add_comm c2.length 1, List.take_add, List.drop_drop]
            exact r1.append (css := [.t]) r2
    have struct : ∀ {e : TypeId} {fs : Array Field} {css : List Sh} {rec : List TypeId}, P.underlying e = some (.struct fs) → P.cellsOf e = css.length → HSF P rec fs.toList 0 css → (∀ t ∈ rec, HS P t [.t]) → ∀ m, m ≤ n → ∀ cs (x : DataW H × List MemPlace), DataW.trod enc P w 0 spare held m e cs = some x → (x.1.weights P e).all (· ≤ reachBytes) = true → RdOK w cs css := by
      intro e fs css rec he hc hf hrec m hm cs x h hw
      obtain ⟨xs, k, rfl, rfl, hl, hlen, hx⟩ := DataW.trod_struct he h
      simp only [DataW.weights, he] at hw
      have := fields hf hrec k (by omega) cs xs (by omega) (fun i f hi => hx i f (by rw [← Array.getElem?_toList]; exact hi)) (by simpa using hlen) hw
      rw [List.drop_zero, ← hc, ← hl, List.take_length] at this
      exact this
    cases hs with
    | b _ h =>
      intro cs x hx hw
      obtain ⟨b, rfl, rfl⟩ := DataW.trod_bool h hx
      exact ⟨[.b b], [] ++ [], .cons _ _ _ _ _ _ (.b b) .nil, by simp [Value.oneCell'], rfl, by simp [okL, okD]⟩
    | i _ h =>
      intro cs x hx hw
      obtain ⟨k, rfl, rfl, hwf⟩ := DataW.trod_int h hx
      refine ⟨[.i .i64 k], [] ++ [], .cons _ _ _ _ _ _ (.i .i64 k) .nil, by simp [Value.oneCell'], rfl, ?_⟩
      rw [okL_cons]
      exact ⟨wf_i64 hwf, rfl⟩
    | s _ h =>
      intro cs x hx hw
      obtain ⟨s, rfl, rfl, hsz⟩ := DataW.trod_string h hx
      refine ⟨[.s s], [] ++ [], .cons _ _ _ _ _ _ (.s s) .nil, by simp [Value.oneCell'], rfl, ?_⟩
      rw [okL_cons, okD_s]
      refine ⟨?_, rfl⟩
      simp only [DataW.weights, List.all_cons, List.all_nil, Bool.and_true, decide_eq_true_eq] at hw
      have h4 : reachBytes = 140737488351232 := by decide
      have h5 : s.data.toList.length = s.size := by simp
      omega
    | l _ e css' h hc hb hp he =>
      intro cs x hx hw
      obtain ⟨xs, S, v, rfl, r1, r2, r3, r4, r5⟩ := rd_slice h hc hb hp (fun m hm cs x => IH m hm he cs x) hx hw
      refine ⟨[.l css'.length xs], S ++ [], .cons _ _ _ _ _ _ r1 .nil, by simpa using r2, ?_, ?_⟩
      · simp only [shL, shD, beq_self_eq_true, Bool.true_and, Bool.and_true]; exact r3
      · rw [okL_cons, okD_l]; exact ⟨⟨r5, r4⟩, rfl⟩
    | t _ e fs h hc hb hst hf =>
      intro cs x hx hw
      obtain ⟨xs, S, v, rfl, r1, r2, r3, r4, r5⟩ := rd_slice (css := treeS) h hc hb (by decide) (fun m hm cs x hx hw => struct (css := treeS) hst hc hf (fun t' ht' => by
        obtain rfl : t' = t := by simpa using ht'
        exact .t _ e fs h hc hb hst hf) m (Nat.le_of_lt hm) cs x hx hw) hx hw
      refine ⟨[.l 5 xs], S ++ [], .cons _ _ _ _ _ _ r1 .nil, by simpa using r2, ?_, ?_⟩
      · simp only [shL, shD, beq_self_eq_true, Bool.true_and, Bool.and_true]; exact r3
      · rw [okL_cons, okD_l]; exact ⟨⟨r5, r4⟩, rfl⟩
    | st _ fs _ h hc hf =>
      intro cs x hx hw
      exact struct h hc hf (by simp) n (Nat.le_refl _) cs x hx hw
end
end Go.Fs

set_option linter.unusedVariables false
namespace Go.Fs.Se
open Cel (cel unc)
open Dat (enc dec)
open Arg (ea da)
theorem CL_NL : ∀ e : TreeExpr, CL e.kids = 4 * NL e.kids := by
  intro e
  induction e using tree_ind with
  | h e ih =>
    have key : ∀ es : List TreeExpr, (∀ k ∈ es, CL k.kids = 4 * NL k.kids) → CL es = 4 * NL es := by
      intro es
      induction es with
      | nil => intro _; simp [CL_nil, NL_nil]
      | cons x es ihs =>
        intro h
        have h1 := h x (.head _)
        have h2 := ihs fun k hk => h k (.tail _ hk)
        rw [CL_cons, NL_cons, NE_eq]
        omega
    exact key e.kids ih
/-! ### from what a claim reads to trees -/
theorem cels_of : ∀ {xs : List (List D)}, (∀ x ∈ xs, ∃ e : TreeExpr, x = cel e) → ∃ es : List TreeExpr, xs = es.map cel
  | [], _ => ⟨[], rfl⟩
  | x :: xs, h => by
    obtain ⟨e, rfl⟩ := h x (.head _)
    obtain ⟨es, rfl⟩ := cels_of (xs := xs) fun y hy => h y (.tail _ hy)
    exact ⟨e :: es, rfl⟩
theorem tree_of {ds : List D} (h : shL treeS ds = true) : ∃ e : TreeExpr, ds = cel e := by
  have key : ∀ (n : Nat) (ds : List D), SizeOf.sizeOf ds < n → shL treeS ds = true → ∃ e : TreeExpr, ds = cel e := by
    intro n
    induction n with
    | zero => intro ds h; omega
    | succ n ih =>
      intro ds hn h
      obtain ⟨c1, q1, rfl, a1, h⟩ := shL_cons h
      obtain ⟨c2, q2, rfl, a2, h⟩ := shL_cons h
      obtain ⟨c3, q3, rfl, a3, h⟩ := shL_cons h
      obtain ⟨c4, q4, rfl, a4, h⟩ := shL_cons h
      obtain ⟨c5, q5, rfl, a5, h⟩ := shL_cons h
      obtain rfl := shL_nil h
      obtain ⟨k, rfl⟩ := shD_i a1
      obtain ⟨m, rfl⟩ := shD_i a2
      obtain ⟨s, rfl⟩ := shD_s a3
      obtain ⟨t, rfl⟩ := shD_s a4
      obtain ⟨xs, rfl, a6⟩ := shD_t a5
      obtain ⟨es, rfl⟩ := cels_of fun x hx => ih x (by
        have := List.sizeOf_lt_of_mem hx
        simp only [List.cons.sizeOf_spec, D.l.sizeOf_spec] at hn
        omega) (shLL_len a6 x hx)
      refine ⟨TreeExpr.mk k m s t es, ?_⟩
      rw [cel_TreeExpr]
      rfl
  exact key _ ds (Nat.lt_succ_self _) h
end Go.Fs.Se

set_option linter.unusedVariables false
set_option maxRecDepth 4000
namespace Go.Fs.Se
open Cel (cel unc)
open Dat (enc dec)
open Arg (ea da)
/-- What a function comes to. -/
def FoldF (f g : TreeFun) : Prop := ∃ r, FoldP f.body r ∧ g = TreeFun.mk f.name f.pub f.args f.type r
theorem foldF_nodes : ∀ {fs gs : List TreeFun}, F2 FoldF fs gs → NL (gs.map (·.body)) ≤ NL (fs.map (·.body))
  | _, _, .nil => Nat.le_refl _
  | _, _, .cons hr h => by
    have := foldF_nodes h
    obtain ⟨r, hr, rfl⟩ := hr
    have := hr.2.2.2.2
    rw [List.map_cons, List.map_cons, NL_cons, NL_cons]
    show NE r + _ ≤ _
    omega
theorem foldMod_ok (m : TreeMod) (hok : okM m) (hw : WM m ≤ 1048576) (hp : ImplP m) : ∃ m', n6 m = some m' ∧ n8 m = some m' ∧ m'.uses = m.uses ∧ F2 FoldF m.funs m'.funs ∧ F2 FoldP m.main m'.main := by
  obtain ⟨b, b1, b2, b3⟩ := treeOk m hok hw
  obtain rfl := b3.2 hp
  obtain ⟨⟨p1, p2, p3⟩, _, _, ⟨_, pB⟩, _⟩ := hp
  have hO := body_ok hok
  have hW := body_W hw
  have hlen := hw
  rw [WM_eq] at hlen
  have hF : ∀ e ∈ bodies m, ∃ r, FoldP e r := fun e he => fold_ok e (hO e he) (pB e he).2.2 (hW e he)
  obtain ⟨gs, hgs⟩ := F2.of (R := FoldF) (xs := m.funs) fun f hf => by
    obtain ⟨r, hr⟩ := hF f.body (List.mem_append_left _ (List.mem_map.2 ⟨f, hf, rfl⟩))
    exact ⟨_, r, hr, rfl⟩
  obtain ⟨rs, hrs⟩ := F2.of (R := FoldP) (xs := m.main) fun e he => hF e (List.mem_append_right _ he)
  have loop2 : ∀ (ys zs : List TreeExpr) (i : Nat) (fs : List TreeFun) (acc : List TreeExpr), F2 FoldP ys zs → m.main.drop i = ys → acc.length = i → i ≤ m.main.length →
      l6_12 m (i : Int) fs acc = some (TreeMod.mk m.uses fs (acc ++ zs)) ∧ l8_11 m (i : Int) fs acc = some (TreeMod.mk m.uses fs (acc ++ zs)) := by
    intro ys zs i fs acc h
    induction h generalizing i acc with
    | nil =>
      intro hd ha hi
      have := dropEnd hd
      rw [l6_12_eq, l8_11_eq, if_neg (by omega), if_neg (by omega), List.append_nil]
      exact ⟨rfl, rfl⟩
    | @cons x y xs ys hr h ih =>
      intro hd ha hi
      obtain ⟨d1, d2, d3, d4⟩ := dropAt hd
      obtain ⟨f1, f2, _⟩ := hr
      obtain ⟨r1, r2⟩ := ih (i + 1) (acc ++ [y]) d4 (by simp [ha]) (by omega)
      rw [l6_12_eq, l8_11_eq, if_pos (by omega), if_pos (by omega), d2, Option.bind_some, Option.bind_some, f1, f2, Option.bind_some, Option.bind_some, if_pos ⟨by omega, by omega⟩, if_pos ⟨by omega, by omega⟩, wrN (by omega)]
      rw [List.append_assoc] at r1 r2
      exact ⟨r1, r2⟩
  have loop1 : ∀ (ys zs : List TreeFun) (i : Nat) (acc : List TreeFun), F2 FoldF ys zs → m.funs.drop i = ys → acc.length = i → i ≤ m.funs.length →
      l6_5 m (i : Int) acc = l6_12 m 0 (acc ++ zs) [] ∧ l8_5 m (i : Int) acc = l8_11 m 0 (acc ++ zs) [] := by
    intro ys zs i acc h
    induction h generalizing i acc with
    | nil =>
      intro hd ha hi
      have := dropEnd hd
      rw [l6_5_eq, l8_5_eq, if_neg (by omega), if_neg (by omega), List.append_nil]
      exact ⟨rfl, rfl⟩
    | @cons x y xs ys hr h ih =>
      intro hd ha hi
      obtain ⟨d1, d2, d3, d4⟩ := dropAt hd
      obtain ⟨r, ⟨f1, f2, _⟩, rfl⟩ := hr
      have hxw := WLC_mem (xs := m.funs) x (mem_drop hd)
      rw [WC_F] at hxw
      obtain ⟨r1, r2⟩ := ih (i + 1) (acc ++ [TreeFun.mk x.name x.pub x.args x.type r]) d4 (by simp [ha]) (by omega)
      rw [l6_5_eq, l8_5_eq, if_pos (by omega), if_pos (by omega), d2, Option.bind_some, Option.bind_some, if_pos ⟨by omega, by omega⟩, if_pos ⟨by omega, by omega⟩, f1, f2, Option.bind_some, Option.bind_some, if_pos ⟨by omega, by omega⟩, if_pos ⟨by omega, by omega⟩, wrN (by omega)]
      rw [List.append_assoc] at r1 r2
      exact ⟨r1, r2⟩
  obtain ⟨a1, a2⟩ := loop1 m.funs gs 0 [] hgs rfl rfl (by omega)
  obtain ⟨c1, c2⟩ := loop2 m.main rs 0 gs [] hrs rfl rfl (by omega)
  have z : ((0 : Nat) : Int) = 0 := rfl
  rw [z, List.nil_append] at a1 a2
  rw [z, List.nil_append] at c1 c2
  refine ⟨TreeMod.mk m.uses gs rs, ?_, ?_, rfl, hgs, hrs⟩
  · rw [n6_eq, b1, Option.bind_some, if_neg (by decide), if_pos ⟨by omega, by omega⟩, a1, c1]
  · rw [n8_eq, b2, Option.bind_some, if_neg (by decide), if_pos ⟨by omega, by omega⟩, a2, c2]
/-! ### from what a claim reads to modules -/
def argS : List Sh := [.s, .i]
def funS : List Sh := [.s, .b, .l argS, .i, .i, .i, .s, .s, .t]
def modS : List Sh := [.l [.s], .l funS, .t]
theorem celL_of {α : Type} [Cel α] : ∀ {xs : List (List D)}, (∀ x ∈ xs, ∃ e : α, x = cel e) → ∃ es : List α, xs = es.map cel
  | [], _ => ⟨[], rfl⟩
  | x :: xs, h => by
    obtain ⟨e, rfl⟩ := h x (.head _)
    obtain ⟨es, rfl⟩ := celL_of (xs := xs) fun y hy => h y (.tail _ hy)
    exact ⟨e :: es, rfl⟩
theorem text_of {ds : List D} (h : shL [.s] ds = true) : ∃ s : ByteArray, ds = cel s := by
  obtain ⟨c1, q1, rfl, a1, h⟩ := shL_cons h
  obtain rfl := shL_nil h
  obtain ⟨s, rfl⟩ := shD_s a1
  exact ⟨s, rfl⟩
theorem arg_of {ds : List D} (h : shL argS ds = true) : ∃ a : TreeArg, ds = cel a := by
  obtain ⟨c1, q1, rfl, a1, h⟩ := shL_cons h
  obtain ⟨c2, q2, rfl, a2, h⟩ := shL_cons h
  obtain rfl := shL_nil h
  obtain ⟨s, rfl⟩ := shD_s a1
  obtain ⟨t, rfl⟩ := shD_i a2
  exact ⟨⟨s, t⟩, rfl⟩
theorem fun_of {ds : List D} (h : shL funS ds = true) : ∃ f : TreeFun, ds = cel f := by
  obtain ⟨c1, q1, rfl, a1, h1⟩ := shL_cons h
  obtain ⟨c2, q2, rfl, a2, h2⟩ := shL_cons h1
  obtain ⟨c3, q3, rfl, a3, h3⟩ := shL_cons h2
  obtain ⟨c4, q4, rfl, a4, h4⟩ := shL_cons h3
  obtain ⟨s, rfl⟩ := shD_s a1
  obtain ⟨b, rfl⟩ := shD_b a2
  obtain ⟨xs, rfl, a3⟩ := shD_l a3
  obtain ⟨t, rfl⟩ := shD_i a4
  obtain ⟨as', rfl⟩ := celL_of (α := TreeArg) fun x hx => arg_of (shLL_len a3 x hx)
  obtain ⟨e, rfl⟩ := tree_of h4
  exact ⟨⟨s, b, as', t, e⟩, rfl⟩
theorem mod_of {ds : List D} (h : shL modS ds = true) : ∃ m : TreeMod, ds = cel m := by
  obtain ⟨c1, q1, rfl, a1, h⟩ := shL_cons h
  obtain ⟨c2, q2, rfl, a2, h⟩ := shL_cons h
  obtain ⟨c3, q3, rfl, a3, h⟩ := shL_cons h
  obtain rfl := shL_nil h
  obtain ⟨xs, rfl, a1⟩ := shD_l a1
  obtain ⟨ys, rfl, a2⟩ := shD_l a2
  obtain ⟨zs, rfl, a3⟩ := shD_t a3
  obtain ⟨us, rfl⟩ := celL_of (α := ByteArray) fun x hx => text_of (shLL_len a1 x hx)
  obtain ⟨fs, rfl⟩ := celL_of (α := TreeFun) fun x hx => fun_of (shLL_len a2 x hx)
  obtain ⟨es, rfl⟩ := celL_of (α := TreeExpr) fun x hx => tree_of (shLL_len a3 x hx)
  exact ⟨⟨us, fs, es⟩, rfl⟩
end Go.Fs.Se

set_option linter.unusedVariables false
namespace Go.Fs.Se
/-! ### marks of lists, whatever is in them -/
def sumC {α : Type} (C : α → Nat) : List α → Nat
  | [] => 0
  | x :: xs => C x + sumC C xs
theorem mark_list {α : Type} (xs : List α) (C : α → Nat) (Lm : Int → Int → List α → Option (Int × List α)) (Lh : List α → Int → Int → Option Int)
    (hm : ∀ t z, z.length = xs.length → Lm t (xs.length : Int) z = some (t, z)) (hh : ∀ z t, z.length = xs.length → Lh z t (xs.length : Int) = some t)
    (hs : ∀ (i : Nat) (y : α) (t : Int) (z : List α), y ∈ xs → z[i]? = some y → getI z (i : Int) = some y → i < xs.length → z.length = xs.length → 0 < t → t + C y ≤ 2305843009213693952 →
      ∃ y', Lm t (i : Int) z = Lm (t + C y) ((i + 1 : Nat) : Int) (z.set i y') ∧ ∀ z' : List α, z'.length = xs.length → getI z' (i : Int) = some y' → Lh z' t (i : Int) = Lh z' (t + C y) ((i + 1 : Nat) : Int)) :
    ∀ t : Int, 0 < t → t + (sumC C xs : Nat) ≤ 2305843009213693952 → ∃ z', Lm t 0 xs = some (t + (sumC C xs : Nat), z') ∧ z'.length = xs.length ∧ Lh z' t 0 = some (t + (sumC C xs : Nat)) := by
  have loop : ∀ (ys : List α) (i : Nat) (t : Int) (z : List α), z.drop i = ys → (∀ y ∈ ys, y ∈ xs) → i ≤ z.length → z.length = xs.length → 0 < t → t + (sumC C ys : Nat) ≤ 2305843009213693952 →
      ∃ z', Lm t (i : Int) z = some (t + (sumC C ys : Nat), z') ∧ z'.length = z.length ∧ z'.take i = z.take i ∧ Lh z' t (i : Int) = some (t + (sumC C ys : Nat)) := by
    intro ys
    induction ys with
    | nil =>
      intro i t z hd hy hi hz ht hb
      have := dropEnd hd
      have e : i = xs.length := by omega
      refine ⟨z, ?_, rfl, rfl, ?_⟩
      · rw [e, hm t z hz]; simp [sumC]
      · rw [e, hh z t hz]; simp [sumC]
    | cons y ys ih =>
      intro i t z hd hy hi hz ht hb
      obtain ⟨d1, d2, d3, d4⟩ := dropAt hd
      simp only [sumC] at hb ⊢
      obtain ⟨y', s1, s2⟩ := hs i y t z (hy y (.head _)) d3 d2 (by omega) hz ht (by omega)
      have hdr : (z.set i y').drop (i + 1) = ys := by rw [List.drop_set_of_lt (by omega)]; exact d4
      obtain ⟨z', r1, r2, r3, r4⟩ := ih (i + 1) (t + C y) (z.set i y') hdr (fun x hx => hy x (.tail _ hx)) (by rw [List.length_set]; omega) (by rw [List.length_set]; exact hz) (by omega) (by omega)
      rw [List.length_set] at r2
      have hget : z'[i]? = some y' := by
        have h1 : (z'.take (i + 1))[i]? = z'[i]? := by rw [List.getElem?_take, if_pos (by omega)]
        rw [← h1, r3, List.getElem?_take, if_pos (by omega), List.getElem?_set_self d1]
      have hgetI : getI z' (i : Int) = some y' := by unfold getI; rw [if_pos (by omega), Int.toNat_natCast, hget]
      have hsum : t + C y + (sumC C ys : Nat) = t + ((C y + sumC C ys : Nat) : Int) := by omega
      refine ⟨z', by rw [s1, r1, hsum], r2, ?_, by rw [s2 z' (by omega) hgetI, r4, hsum]⟩
      have := congrArg (List.take i) r3
      rw [List.take_take, List.take_take, Nat.min_eq_left (by omega), List.take_set_of_le (Nat.le_refl i)] at this
      exact this
  intro t ht hb
  obtain ⟨z', r1, r2, _, r4⟩ := loop xs 0 t xs rfl (fun y hy => hy) (by omega) rfl ht hb
  exact ⟨z', r1, r2, r4⟩
end Go.Fs.Se

set_option linter.unusedVariables false
set_option maxRecDepth 4000
namespace Go.Fs.Se
open Cel (cel unc)
open Dat (enc dec)
open Arg (ea da)
/-! ### marks of modules -/
theorem markTxt (xs : List ByteArray) (hl : xs.length ≤ 140737488355328) (t : Int) (ht : 0 < t) (hb : t + (sumC (fun _ => 1) xs : Nat) ≤ 2305843009213693952) :
    ∃ z, n37 xs t = some (t + (sumC (fun _ => 1) xs : Nat), z) ∧ n40 z t = some (t + (sumC (fun _ => 1) xs : Nat)) := by
  obtain ⟨z, r1, _, r3⟩ := mark_list xs (fun _ => 1) (fun v i z => l37_2 xs t v i z) (fun z v i => l40_2 z t v i)
    (fun v z hz => by rw [l37_2_eq, if_neg (by omega)]) (fun z v hz => by rw [l40_2_eq, if_neg (by omega)])
    (fun i y v z hy e1 e2 hi hz hv hvb => by
      obtain ⟨s, hs⟩ := n93_some v (by omega)
      have w1 : IntKind.i64.wrap (v + 1) = v + ((1 : Nat) : Int) := by rw [wrap64 (by omega) (by omega)]; rfl
      refine ⟨s, ?_, fun z' hz' g => ?_⟩
      · rw [l37_2_eq, if_pos (by omega)]
        simp only [hs, e2, e1, Int.toNat_natCast, Option.bind_some, w1, wrN (n := i) (by omega)]
      · rw [l40_2_eq, if_pos (by omega)]
        simp only [hs, g, Option.bind_some, decide_true, Bool.true_eq_false, if_false, w1, wrN (n := i) (by omega)]) t ht hb
  exact ⟨z, by rw [n37_eq]; exact r1, by rw [n40_eq]; exact r3⟩
theorem markArgs (xs : List TreeArg) (hl : xs.length ≤ 140737488355328) (t : Int) (ht : 0 < t) (hb : t + (sumC (fun _ => 2) xs : Nat) ≤ 2305843009213693952) :
    ∃ z, n94 xs t = some (t + (sumC (fun _ => 2) xs : Nat), z) ∧ n95 z t = some (t + (sumC (fun _ => 2) xs : Nat)) := by
  obtain ⟨z, r1, _, r3⟩ := mark_list xs (fun _ => 2) (fun v i z => l94_2 xs t v i z) (fun z v i => l95_2 z t v i)
    (fun v z hz => by rw [l94_2_eq, if_neg (by omega)]) (fun z v hz => by rw [l95_2_eq, if_neg (by omega)])
    (fun i y v z hy e1 e2 hi hz hv hvb => by
      obtain ⟨s, hs⟩ := n93_some v (by omega)
      have w1 : IntKind.i64.wrap (v + 1) = v + 1 := wrap64 (by omega) (by omega)
      have w2 : IntKind.i64.wrap (v + 1 + 1) = v + ((2 : Nat) : Int) := by rw [wrap64 (by omega) (by omega)]; omega
      refine ⟨TreeArg.mk s (v + 1), ?_, fun z' hz' g => ?_⟩
      · rw [l94_2_eq, if_pos (by omega)]
        simp only [hs, e2, e1, Int.toNat_natCast, Option.bind_some, w1, w2, wrN (n := i) (by omega)]
      · rw [l95_2_eq, if_pos (by omega)]
        simp only [hs, g, Option.bind_some, decide_true, Bool.true_eq_false, if_false, w1, w2, wrN (n := i) (by omega)]) t ht hb
  exact ⟨z, by rw [n94_eq]; exact r1, by rw [n95_eq]; exact r3⟩
/-- How many places of a function are marked. -/
def CF (f : TreeFun) : Nat := 7 + sumC (fun _ => 2) f.args + CL f.body.kids
theorem markFuns (xs : List TreeFun) (hl : xs.length ≤ 140737488355328) (hok : okLC xs) (t : Int) (ht : 0 < t) (hb : t + (sumC CF xs : Nat) ≤ 2305843009213693952) :
    ∃ z, n38 xs t = some (t + (sumC CF xs : Nat), z) ∧ n41 z t = some (t + (sumC CF xs : Nat)) := by
  obtain ⟨z, r1, _, r3⟩ := mark_list xs CF (fun v i z => l38_2 xs t v i z) (fun z v i => l41_2 z t v i)
    (fun v z hz => by rw [l38_2_eq, if_neg (by omega)]) (fun z v hz => by rw [l41_2_eq, if_neg (by omega)])
    (fun i y v z hy e1 e2 hi hz hv hvb => by
      obtain ⟨k1, k2, _, k3⟩ := (okC_F y).1 (okLC_mem hok y hy)
      have hC : CF y = 7 + sumC (fun _ => 2) y.args + CL y.body.kids := rfl
      rw [hC] at hvb
      obtain ⟨s, hs⟩ := n93_some v (by omega)
      obtain ⟨as', a1, a2⟩ := markArgs y.args k2.1 (v + 2) (by omega) (by omega)
      generalize hA : sumC (fun _ => 2) y.args = A at hvb a1 a2 hC
      obtain ⟨s1, hs1⟩ := n93_some (v + 2 + A + 3) (by omega)
      obtain ⟨s2, hs2⟩ := n93_some (v + 2 + A + 4) (by omega)
      obtain ⟨ks, b1, b2⟩ := mark_ok y.body k3 (v + 2 + A + 5) (by omega) (by omega)
      have w1 : IntKind.i64.wrap (v + 1) = v + 1 := wrap64 (by omega) (by omega)
      have w2 : IntKind.i64.wrap (v + 1 + 1) = v + 2 := by rw [wrap64 (by omega) (by omega)]; omega
      have w3 : IntKind.i64.wrap (v + 2 + A + 1) = v + 2 + A + 1 := wrap64 (by omega) (by omega)
      have w4 : IntKind.i64.wrap (v + 2 + A + 1 + 1) = v + 2 + A + 2 := by rw [wrap64 (by omega) (by omega)]; omega
      have w5 : IntKind.i64.wrap (v + 2 + A + 2 + 1) = v + 2 + A + 3 := by rw [wrap64 (by omega) (by omega)]; omega
      have w6 : IntKind.i64.wrap (v + 2 + A + 3 + 1) = v + 2 + A + 4 := by rw [wrap64 (by omega) (by omega)]; omega
      have w7 : IntKind.i64.wrap (v + 2 + A + 4 + 1) = v + 2 + A + 5 := by rw [wrap64 (by omega) (by omega)]; omega
      have p1 : ¬ (v + 2 + (A : Int) < 0) := by omega
      have p2 : ¬ (v + 2 + (A : Int) + 5 + (CL y.body.kids : Int) < 0) := by omega
      have p3 : ¬ (v + (CF y : Int) < 0) := by rw [hC]; omega
      have hsum : v + 2 + (A : Int) + 5 + (CL y.body.kids : Int) = v + (CF y : Int) := by rw [hC]; omega
      refine ⟨TreeFun.mk s (decide ((v + 1).tmod 3 = 0)) as' (v + 2 + A) (TreeExpr.mk (v + 2 + A + 1) (v + 2 + A + 2) s1 s2 ks), ?_, fun z' hz' g => ?_⟩
      · rw [l38_2_eq, if_pos (by omega)]
        simp only [hs, e2, e1, Int.toNat_natCast, Option.bind_some, w1, w2, a1, w3, w4, w5, w6, w7, hs1, hs2, b1, hsum, wrN (n := i) (by omega)]
      · rw [l41_2_eq, if_pos (by omega)]
        simp only [hs, g, Option.bind_some, decide_true, Bool.true_eq_false, if_false, w1, w2, a2, p1, w3, w4, w5, w6, w7, hs1, hs2, b2, p2, p3, beq_self_eq_true, hsum, wrN (n := i) (by omega)]) t ht hb
  exact ⟨z, by rw [n38_eq]; exact r1, by rw [n41_eq]; exact r3⟩
theorem markTrees (es : List TreeExpr) (hl : es.length ≤ 140737488355328) (h : okEs es) (k : Int) (hk : 0 < k) (hb : k + CL es ≤ 2305843009213693952) : ∃ es', n39 es k = some (k + CL es, es') ∧ n42 es' k = some (k + CL es) :=
  mark_ok (TreeExpr.mk 0 0 .empty .empty es) (okE_kids hl h) k hk hb
def CM (m : TreeMod) : Nat := sumC (fun _ => 1) m.uses + sumC CF m.funs + CL m.main
theorem markMod (m : TreeMod) (hok : okM m) (hb : 1 + (CM m : Int) ≤ 2305843009213693952) : ∃ m', n10 m 1 = some (1 + (CM m : Int), m') ∧ n11 m' 1 = some (1 + (CM m : Int)) := by
  obtain ⟨k1, k2, k3⟩ := (okM_iff m).1 hok
  unfold CM at hb ⊢
  obtain ⟨us, u1, u2⟩ := markTxt m.uses k1.1 1 (by decide) (by omega)
  obtain ⟨fs, f1, f2⟩ := markFuns m.funs k2.1 k2.2 (1 + (sumC (fun _ => 1) m.uses : Nat)) (by omega) (by omega)
  obtain ⟨es, e1, e2⟩ := markTrees m.main k3.1 k3.2 (1 + (sumC (fun _ => 1) m.uses : Nat) + (sumC CF m.funs : Nat)) (by omega) (by omega)
  have hs : 1 + ((sumC (fun _ => 1) m.uses : Nat) : Int) + (sumC CF m.funs : Nat) + (CL m.main : Int) = 1 + ((sumC (fun _ => 1) m.uses + sumC CF m.funs + CL m.main : Nat) : Int) := by omega
  refine ⟨TreeMod.mk us fs es, ?_, ?_⟩
  · rw [n10_eq, u1, Option.bind_some]
    simp only [f1, e1, Option.bind_some, hs]
  · rw [n11_eq]
    have p1 : ¬ (1 + ((sumC (fun _ => 1) m.uses : Nat) : Int) < 0) := by omega
    have p2 : ¬ (1 + ((sumC (fun _ => 1) m.uses : Nat) : Int) + (sumC CF m.funs : Nat) < 0) := by omega
    have p3 : ¬ (1 + ((sumC (fun _ => 1) m.uses + sumC CF m.funs + CL m.main : Nat) : Int) < 0) := by omega
    simp only [u2, Option.bind_some, p1, if_false, f2, p2, e2, hs, p3]
/-! ### how many places there are -/
theorem sum_const {α : Type} (c : Nat) : ∀ xs : List α, sumC (fun _ => c) xs = c * xs.length
  | [] => by simp [sumC]
  | x :: xs => by simp only [sumC, sum_const c xs, List.length_cons, Nat.mul_add]; omega
def UF : List TreeFun → Nat
  | [] => 0
  | f :: fs => 7 + 2 * f.args.length + 4 * NE f.body + UF fs
theorem sumCF_le : ∀ fs : List TreeFun, sumC CF fs ≤ UF fs
  | [] => Nat.le_refl _
  | f :: fs => by
    have h1 := sumCF_le fs
    have h2 := CL_NL f.body
    have h3 := NE_eq f.body
    simp only [sumC, UF, CF, sum_const]
    omega
theorem UF_fold : ∀ {fs gs : List TreeFun}, F2 FoldF fs gs → UF gs ≤ UF fs
  | _, _, .nil => Nat.le_refl _
  | _, _, .cons hr h => by
    have h1 := UF_fold h
    obtain ⟨r, hr, rfl⟩ := hr
    have h2 := hr.2.2.2.2
    simp only [UF]
    omega
theorem UF_le : ∀ fs : List TreeFun, UF fs ≤ 11 * (fs.length + WLC fs)
  | [] => by simp [UF]
  | f :: fs => by
    have h1 := UF_le fs
    have h2 := NE_le f.body
    rw [WLC_cons, WC_F, List.length_cons]
    simp only [UF]
    omega
theorem CL_all : ∀ es : List TreeExpr, CL es = 4 * NL es
  | [] => by simp [CL_nil, NL_nil]
  | e :: es => by rw [CL_cons, NL_cons, CL_all es, CL_NL e, NE_eq]; omega
theorem foldF_oks : ∀ {fs gs : List TreeFun}, okLC fs → F2 FoldF fs gs → okLC gs
  | _, _, _, .nil => rfl
  | _, _, hk, .cons hr h => by
    rw [okLC_cons] at hk
    obtain ⟨r, hr, rfl⟩ := hr
    obtain ⟨a1, a2, a3, _⟩ := (okC_F _).1 hk.1
    rw [okLC_cons]
    exact ⟨(okC_F _).2 ⟨a1, a2, a3, hr.2.2.1⟩, foldF_oks hk.2 h⟩
theorem foldMod_all (m : TreeMod) (hok : okM m) (hw : WM m ≤ 1048576) : ∃ m', n6 m = some m' ∧ n8 m = some m' ∧ okM m' ∧ CM m' ≤ 33554432 := by
  obtain ⟨b, b1, b2, b3⟩ := treeOk m hok hw
  have hlen := hw
  rw [WM_eq] at hlen
  cases b with
  | false =>
    refine ⟨TreeMod.mk [] [] [], ?_, ?_, rfl, by decide⟩
    · rw [n6_eq, b1]; rfl
    · rw [n8_eq, b2]; rfl
  | true =>
    obtain ⟨m', e1, e2, e3, e4, e5⟩ := foldMod_ok m hok hw (b3.1 rfl)
    obtain ⟨k1, k2, k3⟩ := (okM_iff m).1 hok
    have l1 := e4.len
    have l2 := e5.len
    refine ⟨m', e1, e2, (okM_iff m').2 ⟨by rw [e3]; exact k1, ⟨by omega, foldF_oks k2.2 e4⟩, ⟨by omega, e5.oks⟩⟩, ?_⟩
    have h1 := sumCF_le m'.funs
    have h2 := UF_fold e4
    have h3 := UF_le m.funs
    have h4 := e5.nodes
    have h5 := NL_le m.main
    unfold CM
    rw [sum_const, CL_all, e3]
    omega
theorem CM_le (m : TreeMod) (hw : WM m ≤ 1048576) : CM m ≤ 33554432 := by
  rw [WM_eq] at hw
  have h1 := sumCF_le m.funs
  have h3 := UF_le m.funs
  have h5 := NL_le m.main
  unfold CM
  rw [sum_const, CL_all]
  omega
theorem mod_law (m : TreeMod) (hok : okM m) : n3 m = some true := by
  rw [n3_eq, szMod m hok 1048576 (by decide) (by decide), Option.bind_some]
  by_cases hneg : less 1048576 (WM m) < 0
  · rw [if_pos hneg]
  rw [if_neg hneg]
  have hw : WM m ≤ 1048576 := by unfold less at hneg; split at hneg <;> omega
  obtain ⟨g, g1, g2, g3, g4⟩ := foldMod_all m hok hw
  have hc := CM_le m hw
  obtain ⟨x, x1, _⟩ := markMod m hok (by omega)
  obtain ⟨y, y1, y2⟩ := markMod g g3 (by omega)
  have p1 : ¬ (1 + (CM m : Int) < 0) := by omega
  have p2 : ¬ (1 + (CM g : Int) < 0) := by omega
  simp only [toMod m hw, g1, g2, eqMod g g3, eqMod m hok, x1, y1, y2, Option.bind_some, Bool.true_eq_false, if_false, p1, p2, bindB, Bool.not_true, Bool.false_eq_true, decide_true]
theorem mod_row {ds : List D} (h1 : shL modS ds = true) (h2 : okL ds = true) : FnOK Go.Proofs.Tryz.prog 3 [.d (.g ds)] { ret := .b true } := by
  obtain ⟨m, rfl⟩ := mod_of h1
  have h := mod_law m h2
  unfold n3 fnO at h
  obtain ⟨r, hr, hd⟩ := Option.bind_eq_some_iff.1 h
  have e1 : r = .b true := Dat.enc_dec r true hd
  subst e1
  exact lastR_ok mok 3 (.own ((lastR M).o 3)) rfl [enc m] _ hr
end Go.Fs.Se

set_option linter.unusedVariables false
namespace Go.Fs
open Go.RowKit

/-- The last step of a law's row: from the function's contract to its calls. -/
theorem calls_of_fnOK {P : Program} {f : FuncId} {args : List Value} {ins : List In} {out : Ret} (h : FnOK P f ins out) (hc : ∀ (a : Array Value) (w : World), (callFunc f a).run P w = .ok (.enter f a) w) {w : World} {Sd : List Nat} (ha : ArgsR w args ins Sd []) :
    Calls P f args.toArray w fun e w' => ∃ v, e = .returned v ∧ Post w args Sd [] out v w' := by
  rcases h w args Sd [] ha List.nodup_nil (by simp) with ⟨_, h2⟩ | ⟨v, w', h1, _⟩
  · refine h2.mono fun e w' he => ?_
    cases e with
    | returned v => exact ⟨v, rfl, he⟩
    | panicked c => exact he.elim
    | outgrown => exact he.elim
  · rw [hc] at h1; cases h1
theorem Post.below {w w' : World} {args : List Value} {Sd : List Nat} {out : Ret} {v : Value} (h : Post w args Sd [] out v w') : Below w.heap.size w w' :=
  ⟨h.rest.os, h.rest.tape, h.rest.output, h.rest.size, fun k hk => h.keep k hk (by simp)⟩
theorem Post.bool {w w' : World} {args : List Value} {Sd : List Nat} {b : Bool} {v : Value} (h : Post w args Sd [] { ret := .b b } v w') : v = .bool b := by
  obtain ⟨S, Si, h1, _⟩ := h.res
  exact h1.inv_b.1

/-- An argument that is a slice. -/
theorem arg_slice {H : Type} {enc : TypeId × Value → H} {P : Program} {w : World} {t : TypeId} {css : List Sh} (hs : HS P t [.l css]) {v : Value} (hv : ∃ a len cap, v = .slice a len cap) {d : DataW H} {p : List MemPlace} (h : DataW.Trod enc P w 0 (fun _ => true) true t v d p) (hw : (d.weights P t).all (· ≤ reachBytes) = true) :
    ∃ xs S, Tr w false v (.l css.length xs) S ∧ Flat v ∧ shLL css xs = true ∧ okLL xs = true ∧ xs.length ≤ 140737488355328 := by
  obtain ⟨a, len, cap, rfl⟩ := hv
  obtain ⟨n, hn⟩ := h
  obtain ⟨ds, S, h1, h2, h3, h4⟩ := trod_rd n hs _ _ hn hw
  obtain ⟨c, q, rfl, e1, e2⟩ := shL_cons h3
  obtain rfl := shL_nil e2
  obtain ⟨xs, rfl, e3⟩ := shD_l e1
  rw [okL_cons, okD_l] at h4
  have hc : (Value.slice a len cap).cells.toList = [.slice a len cap] := rfl
  rw [hc] at h1 h2
  cases h1 with
  | cons _ _ S1 _ _ S2 ht hts =>
    cases hts
    exact ⟨xs, S1, ht, fun u hu => h2 u (by simpa [Value.cells] using hu), e3, h4.1.2, h4.1.1⟩

theorem SumOK.none (P : Program) : SumOK P fun _ => Option.none := fun f s h => by cases h
theorem SumOK.own {P : Program} {S : Nat → Option Summ} (h : SumOK P S) {f : FuncId} {F : List D → Option D} (hf : ∀ ds r, F ds = some r → FnOK P f (ds.map .d) { ret := r }) : SumOK P (upd S f (some (.own F))) := by
  intro g s hg
  by_cases e : g = f
  · subst e
    rw [upd_same] at hg
    cases hg
    exact hf
  · rw [upd_ne _ _ e] at hg
    exact h g s hg
theorem SumOK.io {P : Program} {S : Nat → Option Summ} (h : SumOK P S) {f : FuncId} {F : D → List D → Option (D × D)} (hf : ∀ x ds r, F x ds = some r → FnOK P f (.io x :: ds.map .d) { ret := r.1, io := some r.2 }) : SumOK P (upd S f (some (.io F))) := by
  intro g s hg
  by_cases e : g = f
  · subst e
    rw [upd_same] at hg
    cases hg
    exact hf
  · rw [upd_ne _ _ e] at hg
    exact h g s hg

/-- An argument that is a struct. -/
theorem arg_struct {H : Type} {enc : TypeId × Value → H} {P : Program} {w : World} {t : TypeId} {css : List Sh} (hs : HS P t css) {v : Value} (hv : ∃ cs, v = .agg cs ∧ cs.size = P.cellsOf t) {d : DataW H} {p : List MemPlace} (h : DataW.Trod enc P w 0 (fun _ => true) true t v d p) (hw : (d.weights P t).all (· ≤ reachBytes) = true) :
    ∃ ds S, Tr w false v (.g ds) S ∧ Flat v ∧ shL css ds = true ∧ okL ds = true := by
  obtain ⟨cs, rfl, _⟩ := hv
  obtain ⟨n, hn⟩ := h
  obtain ⟨ds, S, h1, h2, h3, h4⟩ := trod_rd n hs _ _ hn hw
  exact ⟨ds, S, .g cs ds S h1, h2, h3, h4⟩
end Go.Fs
