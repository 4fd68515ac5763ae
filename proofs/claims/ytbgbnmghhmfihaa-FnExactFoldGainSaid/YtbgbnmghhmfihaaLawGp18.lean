/- A part of the proof: an evaluator of the program's code over plain data, proved sound, and walks of the program's functions by it. No conditions beyond those in the theorems. -/
import Derived.Test.YtbgbnmghhmfihaaLawGp17
import Derived.Test.YtbgbnmghhmfihaaLawGp13
import Derived.Test.YtbgbnmghhmfihaaLawGp16
set_option linter.unusedVariables false
set_option linter.unusedSimpArgs false
set_option linter.constructorNameAsVariable false
set_option linter.unusedSectionVars false
set_option linter.defProp false
set_option linter.unusedVariables false
namespace Go.Fs.Se
open Cel (cel unc)
open Dat (enc dec)
open Arg (ea da)
/-! ### modules: sizes, copies, equality -/
theorem wtL_app : ∀ (a b : List D), wtL (a ++ b) = wtL a + wtL b
  | [], b => by simp [wtL]
  | d :: a, b => by simp only [List.cons_append, wtL, wtL_app a b]; omega
theorem okL_app : ∀ (a b : List D), (okL (a ++ b) = true) = (okL a = true ∧ okL b = true)
  | [], b => by simp [okL]
  | d :: a, b => by simp only [List.cons_append, okL_cons, okL_app a b, and_assoc]
theorem left_callP {t : Int} {x : Option Int} {w rest : Nat} {K : Int → Option Int} (hx : ∃ v, x = some v ∧ LeftP t v w) (hK : 0 ≤ t - w → K (t - w) = some (less (t - w) rest)) : (x.bind fun y => if y < 0 then some (-1) else K y) = some (less t (w + rest)) := by
  obtain ⟨v, rfl, hv⟩ := hx
  rw [Option.bind_some]
  exact left_step hv hK
theorem tree_kids (es : List TreeExpr) : W (TreeExpr.mk 0 0 .empty .empty es) = es.length + WL es := by
  rw [W_eq]; show 0 + (0 + (es.length + WL es)) = _; omega
theorem okE_kids {es : List TreeExpr} (hl : es.length ≤ 140737488355328) (h : okEs es) : okE (TreeExpr.mk 0 0 .empty .empty es) := by
  have hz : -9223372036854775808 ≤ (0 : Int) ∧ (0 : Int) < 9223372036854775808 := by decide
  exact (okE_iff _).2 ⟨hz, hz, Nat.zero_le _, Nat.zero_le _, hl, h⟩
theorem szTrees (es : List TreeExpr) (hl : es.length ≤ 140737488355328) (h : okEs es) (t : Int) (h0 : 0 ≤ t) (h1 : t ≤ 1048576) : ∃ v, n62 es t = some v ∧ LeftP t v (es.length + WL es) := by
  have := sz_ok _ (okE_kids hl h) t h0 h1
  rw [n27_eq, tree_kids] at this
  have z : ((ByteArray.empty.size : Nat) : Int) = 0 := rfl
  have w : IntKind.i64.wrap (t - 0) = t := by rw [wrap64 (by omega) (by omega)]; omega
  simp only [z, w] at this
  rw [if_neg (by omega), if_neg (by omega)] at this
  obtain ⟨v, e, h2⟩ := Option.bind_eq_some_iff.1 this
  refine ⟨v, e, ?_⟩
  have hp := LeftP.of_less (t := t) (es.length + WL es) h0
  split at h2
  · simp only [Option.some.injEq] at h2
    rw [← h2] at hp
    rcases hp with ⟨_, hp⟩ | ⟨hp, _⟩
    · exact .inl ⟨by assumption, hp⟩
    · unfold LeftP; omega
  · simp only [Option.some.injEq] at h2
    rw [h2]; exact hp
theorem toTrees (es : List TreeExpr) (h : es.length + WL es ≤ 1048576) : n65 es = some es := by
  have := to_ok (TreeExpr.mk 0 0 .empty .empty es) (by rw [tree_kids]; exact h)
  rw [n29_eq] at this
  obtain ⟨v, e, h2⟩ := Option.bind_eq_some_iff.1 this
  simp only [Option.some.injEq, TreeExpr.mk.injEq, true_and] at h2
  rw [e, h2]
theorem eqTrees (es : List TreeExpr) (hl : es.length ≤ 140737488355328) (h : okEs es) : n68 es es = some true := by
  have := eq_ok _ (okE_kids hl h)
  rw [n31_eq] at this
  simp only [decide_true, Bool.true_eq_false, if_false] at this
  obtain ⟨v, e, h2⟩ := Option.bind_eq_some_iff.1 this
  cases v with
  | false => simp at h2
  | true => exact e
-- texts
theorem WC_S (s : ByteArray) : WC s = s.size := by unfold WC; rw [cel_S]; simp [wtL, wt]
theorem okC_S (s : ByteArray) : okC s ↔ s.size ≤ 140737488355328 := by unfold okC; rw [cel_S, okL_cons, okD_s]; simp [okL]
theorem szTxt (xs : List ByteArray) (hl : xs.length ≤ 140737488355328) (hok : okLC xs) (t : Int) (h0 : 0 ≤ t) (h1 : t ≤ 1048576) : n71 xs t = some (less t (xs.length + WLC xs)) := by
  rw [n71_eq]
  refine left_step (LeftP.of_len h0 h1 hl) (K := fun v => l71_5 xs t v 0) fun h => ?_
  exact sz_list xs (fun v i => l71_5 xs t v i) hl (fun v => by rw [l71_5_eq, if_neg (by omega)])
    (fun i y v e1 e2 hi h0 h1 => ⟨_, by rw [WC_S]; exact LeftP.of_text h0 h1 ((okC_S y).1 (okLC_mem hok y (List.mem_of_getElem? e1))), by rw [l71_5_eq, if_pos (by omega), e2, Option.bind_some, wrN (by omega)]⟩) _ h (by omega)
theorem toTxt (xs : List ByteArray) (hl : xs.length ≤ 1048576) : n76 xs = some xs := by
  rw [n76_eq, if_pos ⟨by omega, by omega, by omega⟩]
  refine to_list xs (fun i r => l76_3 xs i r) (fun r => by rw [l76_3_eq, if_neg (by omega)]) (fun i y r e1 e2 hi hr => ?_) _ (by simp)
  have hri : i < r.length := by omega
  have g1 : getI r (i : Int) = some r[i] := by unfold getI; rw [if_pos (by omega), Int.toNat_natCast, List.getElem?_eq_getElem hri]
  rw [l76_3_eq, if_pos (by omega), e2, Option.bind_some, g1, Option.bind_some, Int.toNat_natCast, List.getElem?_eq_getElem hri, Option.bind_some, wrN (by omega)]
theorem eqTxt (xs : List ByteArray) (hl : xs.length ≤ 140737488355328) : n81 xs xs = some true := by
  rw [n81_eq]
  simp only [decide_true, Bool.true_eq_false, if_false]
  refine eq_list xs (fun i => l81_4 xs xs i) (by rw [l81_4_eq, if_neg (by omega)]) (fun i y e1 e2 hi => ?_)
  rw [l81_4_eq, if_pos (by omega), e2, Option.bind_some, Option.bind_some, if_neg (by simp), wrN (by omega)]
-- parameters
theorem WC_A (a : TreeArg) : WC a = a.name.size := by unfold WC; rw [cel_TreeArg]; simp [enc_S, enc_I, wtL, wt]
theorem okC_A (a : TreeArg) : okC a ↔ a.name.size ≤ 140737488355328 ∧ -9223372036854775808 ≤ a.type ∧ a.type < 9223372036854775808 := by
  unfold okC; rw [cel_TreeArg]; simp only [enc_S, enc_I, okL_cons, okD_s, okD_i, okL_nil, and_true]
theorem szArgs (xs : List TreeArg) (hl : xs.length ≤ 140737488355328) (hok : okLC xs) (t : Int) (h0 : 0 ≤ t) (h1 : t ≤ 1048576) : n146 xs t = some (less t (xs.length + WLC xs)) := by
  rw [n146_eq]
  refine left_step (LeftP.of_len h0 h1 hl) (K := fun v => l146_5 xs t v 0) fun h => ?_
  refine sz_list xs (fun v i => l146_5 xs t v i) hl (fun v => by rw [l146_5_eq, if_neg (by omega)]) (fun i y v e1 e2 hi h0 h1 => ?_) _ h (by omega)
  have hy := ((okC_A y).1 (okLC_mem hok y (List.mem_of_getElem? e1))).1
  have hp := LeftP.of_text h0 h1 hy
  have e164 : n164 y v = some (less v y.name.size) := by
    rw [n164_eq]
    exact left_step (K := fun v => some v) hp fun h => left_end _ h
  refine ⟨less v y.name.size, by rw [WC_A]; exact LeftP.of_less _ h0, ?_⟩
  rw [l146_5_eq, if_pos (by omega), e2, Option.bind_some, e164, Option.bind_some, wrN (by omega)]
theorem toArgs (xs : List TreeArg) (hl : xs.length ≤ 1048576) : n147 xs = some xs := by
  rw [n147_eq, if_pos ⟨by omega, by omega, by omega⟩]
  refine to_list xs (fun i r => l147_3 xs i r) (fun r => by rw [l147_3_eq, if_neg (by omega)]) (fun i y r e1 e2 hi hr => ?_) _ (by simp)
  have hri : i < r.length := by omega
  have g1 : getI r (i : Int) = some r[i] := by unfold getI; rw [if_pos (by omega), Int.toNat_natCast, List.getElem?_eq_getElem hri]
  rw [l147_3_eq, if_pos (by omega), e2, Option.bind_some, n165_eq, Option.bind_some, g1, Option.bind_some, Int.toNat_natCast, List.getElem?_eq_getElem hri, Option.bind_some, wrN (by omega)]
theorem eqArgs (xs : List TreeArg) (hl : xs.length ≤ 140737488355328) : n150 xs xs = some true := by
  rw [n150_eq]
  simp only [decide_true, Bool.true_eq_false, if_false]
  refine eq_list xs (fun i => l150_4 xs xs i) (by rw [l150_4_eq, if_neg (by omega)]) (fun i y e1 e2 hi => ?_)
  rw [l150_4_eq, if_pos (by omega), e2, Option.bind_some, Option.bind_some, n167_eq]
  simp only [decide_true, Bool.true_eq_false, if_false, Option.bind_some, wrN (n := i) (by omega)]
-- functions
theorem WC_F (f : TreeFun) : WC f = f.name.size + ((f.args.length + WLC f.args) + W f.body) := by
  unfold WC WLC W; rw [cel_TreeFun, wtL_app]; simp only [enc_S, enc_I, enc_B, enc_L, wtL, wt, List.length_map]; omega
theorem okC_F (f : TreeFun) : okC f ↔ f.name.size ≤ 140737488355328 ∧ (f.args.length ≤ 140737488355328 ∧ okLC f.args) ∧ (-9223372036854775808 ≤ f.type ∧ f.type < 9223372036854775808) ∧ okE f.body := by
  unfold okC okLC okE; rw [cel_TreeFun, okL_app]; simp only [enc_S, enc_I, enc_B, enc_L, okL_cons, okD_s, okD_i, okD_b, okD_l, okL_nil, and_true, true_and, List.length_map, and_assoc]
theorem szFuns (xs : List TreeFun) (hl : xs.length ≤ 140737488355328) (hok : okLC xs) (t : Int) (h0 : 0 ≤ t) (h1 : t ≤ 1048576) : n72 xs t = some (less t (xs.length + WLC xs)) := by
  rw [n72_eq]
  refine left_step (LeftP.of_len h0 h1 hl) (K := fun v => l72_5 xs t v 0) fun h => ?_
  refine sz_list xs (fun v i => l72_5 xs t v i) hl (fun v => by rw [l72_5_eq, if_neg (by omega)]) (fun i y v e1 e2 hi h0 h1 => ?_) _ h (by omega)
  obtain ⟨k1, k2, _, k3⟩ := (okC_F y).1 (okLC_mem hok y (List.mem_of_getElem? e1))
  have e110 : n110 y v = some (less v (WC y)) := by
    rw [n110_eq, WC_F]
    refine left_step (K := fun v => (n146 y.args v).bind fun y0 => if y0 < 0 then some (-1) else (n27 y.body y0).bind fun y1 => if y1 < 0 then some (-1) else some y1) (LeftP.of_text h0 h1 k1) fun h => ?_
    refine left_call (K := fun v => (n27 y.body v).bind fun y1 => if y1 < 0 then some (-1) else some y1) h (szArgs _ k2.1 k2.2 _ h (by omega)) fun h' => ?_
    have := left_call (K := fun v => some v) (rest := 0) h' (sz_ok y.body k3 _ h' (by omega)) fun h => left_end _ h
    rw [Nat.add_zero] at this
    exact this
  refine ⟨less v (WC y), LeftP.of_less _ h0, ?_⟩
  rw [l72_5_eq, if_pos (by omega), e2, Option.bind_some, e110, Option.bind_some, wrN (by omega)]
theorem toFuns (xs : List TreeFun) (hw : xs.length + WLC xs ≤ 1048576) : n77 xs = some xs := by
  rw [n77_eq, if_pos ⟨by omega, by omega, by omega⟩]
  refine to_list xs (fun i r => l77_3 xs i r) (fun r => by rw [l77_3_eq, if_neg (by omega)]) (fun i y r e1 e2 hi hr => ?_) _ (by simp)
  have hri : i < r.length := by omega
  have g1 : getI r (i : Int) = some r[i] := by unfold getI; rw [if_pos (by omega), Int.toNat_natCast, List.getElem?_eq_getElem hri]
  have hwy := WLC_mem (xs := xs) y (List.mem_of_getElem? e1)
  rw [WC_F] at hwy
  have e114 : n114 y = some y := by
    rw [n114_eq, toArgs _ (by omega), Option.bind_some, to_ok y.body (by omega), Option.bind_some]
  rw [l77_3_eq, if_pos (by omega), e2, Option.bind_some, e114, Option.bind_some, g1, Option.bind_some, Int.toNat_natCast, List.getElem?_eq_getElem hri, Option.bind_some, wrN (by omega)]
theorem eqFuns (xs : List TreeFun) (hl : xs.length ≤ 140737488355328) (hok : okLC xs) : n82 xs xs = some true := by
  rw [n82_eq]
  simp only [decide_true, Bool.true_eq_false, if_false]
  refine eq_list xs (fun i => l82_4 xs xs i) (by rw [l82_4_eq, if_neg (by omega)]) (fun i y e1 e2 hi => ?_)
  obtain ⟨k1, k2, _, k3⟩ := (okC_F y).1 (okLC_mem hok y (List.mem_of_getElem? e1))
  rw [l82_4_eq, if_pos (by omega), e2, Option.bind_some, Option.bind_some, n121_eq]
  simp only [decide_true, Bool.true_eq_false, if_false, beq_self_eq_true, eqArgs _ k2.1, eq_ok _ k3, Option.bind_some, wrN (n := i) (by omega)]
-- modules
def WM (m : TreeMod) : Nat := wtL (cel m)
def okM (m : TreeMod) : Prop := okL (cel m) = true
theorem WM_eq (m : TreeMod) : WM m = (m.uses.length + WLC m.uses) + ((m.funs.length + WLC m.funs) + (m.main.length + WL m.main)) := by
  unfold WM WLC WL; rw [cel_TreeMod]; simp only [enc_L, wtL, wt, List.length_map]; omega
theorem okM_iff (m : TreeMod) : okM m ↔ (m.uses.length ≤ 140737488355328 ∧ okLC m.uses) ∧ (m.funs.length ≤ 140737488355328 ∧ okLC m.funs) ∧ (m.main.length ≤ 140737488355328 ∧ okEs m.main) := by
  unfold okM okLC okEs; rw [cel_TreeMod]; simp only [enc_L, okL_cons, okD_l, okL_nil, and_true, List.length_map]
theorem szMod (m : TreeMod) (hok : okM m) (t : Int) (h0 : 0 ≤ t) (h1 : t ≤ 1048576) : n34 m t = some (less t (WM m)) := by
  obtain ⟨k1, k2, k3⟩ := (okM_iff m).1 hok
  rw [n34_eq, WM_eq]
  refine left_call (K := fun v => (n72 m.funs v).bind fun y1 => if y1 < 0 then some (-1) else (n62 m.main y1).bind fun y2 => if y2 < 0 then some (-1) else some y2) h0 (szTxt _ k1.1 k1.2 _ h0 h1) fun h => ?_
  refine left_call (K := fun v => (n62 m.main v).bind fun y2 => if y2 < 0 then some (-1) else some y2) h (szFuns _ k2.1 k2.2 _ h (by omega)) fun h' => ?_
  have := left_callP (K := fun v => some v) (rest := 0) (szTrees m.main k3.1 k3.2 _ h' (by omega)) fun h => left_end _ h
  rw [Nat.add_zero] at this
  exact this
theorem toMod (m : TreeMod) (hw : WM m ≤ 1048576) : n36 m = some m := by
  rw [WM_eq] at hw
  rw [n36_eq, toTxt _ (by omega), Option.bind_some, toFuns _ (by omega), Option.bind_some, toTrees _ (by omega), Option.bind_some]
theorem eqMod (m : TreeMod) (hok : okM m) : n38 m m = some true := by
  obtain ⟨k1, k2, k3⟩ := (okM_iff m).1 hok
  rw [n38_eq]
  simp only [eqTxt _ k1.1, eqFuns _ k2.1 k2.2, eqTrees _ k3.1 k3.2, Option.bind_some, Bool.true_eq_false, if_false]
end Go.Fs.Se

set_option linter.unusedVariables false
set_option linter.unusedSimpArgs false
set_option maxRecDepth 40000
set_option maxHeartbeats 4000000
open Go.RowKit
namespace Go.Fs.Se
open Cel (cel unc)
open Dat (enc dec)
open Arg (ea da)
/-! loop.example/smithy/spec.TreeNodes -/
noncomputable def l101_4 (a0 : TreeExpr) (t4 : Int) (t5 : Int) (t6 : Int) : Option (Int × Int) := evRAt (envOf M .x) (lvT 101) cd101 [true, true, true, false, true, false] (endK (β := Int × Int) M 101 .x Go.Proofs.Try.f101.results.toList) (stL 35 [(1, AV.a 500000 0), (4, AV.d (D.i IntKind.i64 t4)), (5, AV.d (D.i IntKind.i64 t5)), (6, AV.d (D.i IntKind.i64 t6))] [(500000, some (Ob.box [AV.d (D.i IntKind.i64 a0.kind), AV.d (D.i IntKind.i64 a0.num), AV.d (D.s a0.name), AV.d (D.s a0.mod), AV.d (D.l 5 (List.map cel a0.kids))]))])
theorem n101_eq (a0 : TreeExpr) : n101 a0 = l101_4 a0 1 0 0 := by
  rw [n101, fnO_code h101 rfl Go.Proofs.Try.func101 (c := cd101) rfl (a0, ()) rfl]
  simp (maxSteps := 60000000) (disch := first | (intros; rename_i h; cases h; done) | decide +kernel) only [evS, seS, List.map_replicate, Nat.reduceDiv, Nat.reduceMod, Nat.reduceEqDiff, reduceCtorEq, ↓reduceIte, Nat.reduceLT, Nat.reduceAdd, Nat.reduceMul, Nat.reduceSub, Nat.reduceLeDiff, Nat.reduceBEq, Int.reduceEq, Int.reduceNeg, Int.reduceToNat, Int.reduceLE, Int.reduceLT, cd101, Go.Proofs.Try.f101, h101.r, m101, lv_pl, pl101, c101, lv101_4, l101_4]
  all_goals try simp only [rnS, seS, Nat.reduceEqDiff, reduceCtorEq, ↓reduceIte, Nat.reduceAdd, Nat.reduceLeDiff, Nat.reduceBEq, Nat.reduceMul, lv101_4]
theorem l101_4_eq (a0 : TreeExpr) (t4 : Int) (t5 : Int) (t6 : Int) : l101_4 a0 t4 t5 t6 = if t6 < (↑a0.kids.length : Int) then (getI a0.kids t6).bind fun y0 => (n101 y0).bind fun y1 => if t5 < y1.snd then l101_4 a0 (IntKind.i64.wrap (t4 + y1.fst)) y1.snd (IntKind.i64.wrap (t6 + 1)) else l101_4 a0 (IntKind.i64.wrap (t4 + y1.fst)) t5 (IntKind.i64.wrap (t6 + 1)) else some (t4, IntKind.i64.wrap (t5 + 1)) := by
  rw [l101_4]
  simp only [evRAt, locS, cd101, Go.Proofs.Try.f101]
  rw [evR_eq]
  simp (maxSteps := 60000000) (disch := first | (intros; rename_i h; cases h; done) | decide +kernel) only [evS, seS, List.map_replicate, Nat.reduceDiv, Nat.reduceMod, Nat.reduceEqDiff, reduceCtorEq, ↓reduceIte, Nat.reduceLT, Nat.reduceAdd, Nat.reduceMul, Nat.reduceSub, Nat.reduceLeDiff, Nat.reduceBEq, Int.reduceEq, Int.reduceNeg, Int.reduceToNat, Int.reduceLE, Int.reduceLT, cd101, Go.Proofs.Try.f101, h101.r, m101, lv_pl, pl101, c101, lv101_4, l101_4]
  all_goals try simp only [rnS, seS, Nat.reduceEqDiff, reduceCtorEq, ↓reduceIte, Nat.reduceAdd, Nat.reduceLeDiff, Nat.reduceBEq, Nat.reduceMul, lv101_4]
  all_goals try simp only [bindN_eq]
end Go.Fs.Se

set_option linter.unusedVariables false
set_option linter.unusedSimpArgs false
set_option maxRecDepth 40000
set_option maxHeartbeats 4000000
open Go.RowKit
namespace Go.Fs.Se
open Cel (cel unc)
open Dat (enc dec)
open Arg (ea da)
/-! loop.example/smithy/impl.TreeNodes -/
noncomputable def l107_3 (a0 : TreeExpr) (t4 : Int) (t5 : Int) (t13 : Int) : Option (Int × Int) := evRAt (envOf M .x) (lvT 107) cd107 [true, true, false, true, false] (endK (β := Int × Int) M 107 .x Go.Proofs.Try.f107.results.toList) (stL 32 [(4, AV.d (D.i IntKind.i64 t4)), (5, AV.d (D.i IntKind.i64 t5)), (11, AV.d (D.l 5 (List.map cel a0.kids))), (12, AV.d (D.i IntKind.i64 (↑a0.kids.length : Int))), (13, AV.d (D.i IntKind.i64 t13))] [])
theorem n107_eq (a0 : TreeExpr) : n107 a0 = l107_3 a0 1 0 0 := by
  rw [n107, fnO_code h107 rfl Go.Proofs.Try.func107 (c := cd107) rfl (a0, ()) rfl]
  simp (maxSteps := 60000000) (disch := first | (intros; rename_i h; cases h; done) | decide +kernel) only [evS, seS, List.map_replicate, Nat.reduceDiv, Nat.reduceMod, Nat.reduceEqDiff, reduceCtorEq, ↓reduceIte, Nat.reduceLT, Nat.reduceAdd, Nat.reduceMul, Nat.reduceSub, Nat.reduceLeDiff, Nat.reduceBEq, Int.reduceEq, Int.reduceNeg, Int.reduceToNat, Int.reduceLE, Int.reduceLT, cd107, Go.Proofs.Try.f107, h107.r, m107, lv_pl, pl107, c107, lv107_3, l107_3]
  all_goals try simp only [rnS, seS, Nat.reduceEqDiff, reduceCtorEq, ↓reduceIte, Nat.reduceAdd, Nat.reduceLeDiff, Nat.reduceBEq, Nat.reduceMul, lv107_3]
theorem l107_3_eq (a0 : TreeExpr) (t4 : Int) (t5 : Int) (t13 : Int) : l107_3 a0 t4 t5 t13 = if t13 < (↑a0.kids.length : Int) then (getI a0.kids t13).bind fun y0 => (n107 y0).bind fun y1 => l107_3 a0 (IntKind.i64.wrap (t4 + y1.fst)) (max t5 y1.snd) (IntKind.i64.wrap (t13 + 1)) else some (t4, IntKind.i64.wrap (t5 + 1)) := by
  rw [l107_3]
  simp only [evRAt, locS, cd107, Go.Proofs.Try.f107]
  rw [evR_eq]
  simp (maxSteps := 60000000) (disch := first | (intros; rename_i h; cases h; done) | decide +kernel) only [evS, seS, List.map_replicate, Nat.reduceDiv, Nat.reduceMod, Nat.reduceEqDiff, reduceCtorEq, ↓reduceIte, Nat.reduceLT, Nat.reduceAdd, Nat.reduceMul, Nat.reduceSub, Nat.reduceLeDiff, Nat.reduceBEq, Int.reduceEq, Int.reduceNeg, Int.reduceToNat, Int.reduceLE, Int.reduceLT, cd107, Go.Proofs.Try.f107, h107.r, m107, lv_pl, pl107, c107, lv107_3, l107_3]
  all_goals try simp only [rnS, seS, Nat.reduceEqDiff, reduceCtorEq, ↓reduceIte, Nat.reduceAdd, Nat.reduceLeDiff, Nat.reduceBEq, Nat.reduceMul, lv107_3]
  all_goals try simp only [bindN_eq]
end Go.Fs.Se

set_option linter.unusedVariables false
set_option linter.unusedSimpArgs false
set_option maxRecDepth 40000
set_option maxHeartbeats 4000000
open Go.RowKit
namespace Go.Fs.Se
open Cel (cel unc)
open Dat (enc dec)
open Arg (ea da)
/-! loop.example/smithy/spec.LexName -/
noncomputable def l85_4 (a0 : ByteArray) (t3 : Int) : Option (Bool) := evRAt (envOf M .x) (lvT 85) cd85 [true, true, false, true, false] (endK (β := Bool) M 85 .x Go.Proofs.Try.f85.results.toList) (stL 32 [(0, AV.d (D.s a0)), (3, AV.d (D.i IntKind.i64 t3))] [])
theorem n85_eq (a0 : ByteArray) : n85 a0 = bindB (if (↑a0.size : Int) < 1 ∨ 8 < (↑a0.size : Int) then some true else n124 a0) fun y0 => if y0 = true then some false else l85_4 a0 0 := by
  rw [n85, fnO_code h85 rfl Go.Proofs.Try.func85 (c := cd85) rfl (a0, ()) rfl]
  simp (maxSteps := 60000000) (disch := first | (intros; rename_i h; cases h; done) | decide +kernel) only [evS, seS, List.map_replicate, Nat.reduceDiv, Nat.reduceMod, Nat.reduceEqDiff, reduceCtorEq, ↓reduceIte, Nat.reduceLT, Nat.reduceAdd, Nat.reduceMul, Nat.reduceSub, Nat.reduceLeDiff, Nat.reduceBEq, Int.reduceEq, Int.reduceNeg, Int.reduceToNat, Int.reduceLE, Int.reduceLT, cd85, Go.Proofs.Try.f85, h85.r, m85, lv_pl, pl85, c124, lv85_4, l85_4]
  all_goals try simp only [rnS, seS, Nat.reduceEqDiff, reduceCtorEq, ↓reduceIte, Nat.reduceAdd, Nat.reduceLeDiff, Nat.reduceBEq, Nat.reduceMul, lv85_4]
theorem l85_4_eq (a0 : ByteArray) (t3 : Int) : l85_4 a0 t3 = if t3 < (↑a0.size : Int) then bindB (if 0 ≤ t3 ∧ t3 < (↑a0.size : Int) then if byteAt a0 t3 < 97 then some true else if 0 ≤ t3 ∧ t3 < (↑a0.size : Int) then some (decide (122 < byteAt a0 t3)) else none else none) fun y0 => if y0 = true then some false else l85_4 a0 (IntKind.i64.wrap (t3 + 1)) else some true := by
  rw [l85_4]
  simp only [evRAt, locS, cd85, Go.Proofs.Try.f85]
  rw [evR_eq]
  simp (maxSteps := 60000000) (disch := first | (intros; rename_i h; cases h; done) | decide +kernel) only [evS, seS, List.map_replicate, Nat.reduceDiv, Nat.reduceMod, Nat.reduceEqDiff, reduceCtorEq, ↓reduceIte, Nat.reduceLT, Nat.reduceAdd, Nat.reduceMul, Nat.reduceSub, Nat.reduceLeDiff, Nat.reduceBEq, Int.reduceEq, Int.reduceNeg, Int.reduceToNat, Int.reduceLE, Int.reduceLT, cd85, Go.Proofs.Try.f85, h85.r, m85, lv_pl, pl85, c124, lv85_4, l85_4]
  all_goals try simp only [rnS, seS, Nat.reduceEqDiff, reduceCtorEq, ↓reduceIte, Nat.reduceAdd, Nat.reduceLeDiff, Nat.reduceBEq, Nat.reduceMul, lv85_4]
end Go.Fs.Se

set_option linter.unusedVariables false
set_option linter.unusedSimpArgs false
set_option maxRecDepth 40000
set_option maxHeartbeats 4000000
open Go.RowKit
namespace Go.Fs.Se
open Cel (cel unc)
open Dat (enc dec)
open Arg (ea da)
/-! loop.example/smithy/spec.l1Kept -/
noncomputable def l124_3 (a0 : ByteArray) (t4 : Int) (r0 : List ByteArray) : Option (Bool) := evRAt (envOf M .x) (lvT 124) cd124 [true, true, false, true, false] (endK (β := Bool) M 124 .x Go.Proofs.Try.f124.results.toList) (stL 18 [(0, AV.d (D.s a0)), (3, AV.r 500000), (4, AV.d (D.i IntKind.i64 t4))] [(500000, some (Ob.row 1 (List.map cel r0) true false 0))])
theorem n124_eq (a0 : ByteArray) : n124 a0 = l124_3 a0 0 [ByteArray.mk #[117, 115, 101], ByteArray.mk #[102, 117, 110], ByteArray.mk #[112, 117, 98], ByteArray.mk #[109, 97, 105, 110], ByteArray.mk #[105, 110, 116], ByteArray.mk #[98, 111, 111, 108], ByteArray.mk #[114, 111, 119], ByteArray.mk #[105, 102], ByteArray.mk #[108, 101, 116], ByteArray.mk #[116, 114, 117, 101], ByteArray.mk #[102, 97, 108, 115, 101], ByteArray.mk #[97, 110, 100], ByteArray.mk #[111, 114], ByteArray.mk #[110, 111, 116], ByteArray.mk #[97, 116], ByteArray.mk #[108, 101, 110], ByteArray.mk #[112, 117, 116], ByteArray.mk #[106, 111, 105, 110], ByteArray.mk #[112, 114, 105, 110, 116]] := by
  rw [n124, fnO_code h124 rfl Go.Proofs.Try.func124 (c := cd124) rfl (a0, ()) rfl]
  simp (maxSteps := 60000000) (disch := first | (intros; rename_i h; cases h; done) | decide +kernel) only [evS, seS, List.map_replicate, Nat.reduceDiv, Nat.reduceMod, Nat.reduceEqDiff, reduceCtorEq, ↓reduceIte, Nat.reduceLT, Nat.reduceAdd, Nat.reduceMul, Nat.reduceSub, Nat.reduceLeDiff, Nat.reduceBEq, Int.reduceEq, Int.reduceNeg, Int.reduceToNat, Int.reduceLE, Int.reduceLT, cd124, Go.Proofs.Try.f124, h124.r, m124, lv_pl, pl124, lv124_3, l124_3]
  all_goals try simp only [rnS, seS, Nat.reduceEqDiff, reduceCtorEq, ↓reduceIte, Nat.reduceAdd, Nat.reduceLeDiff, Nat.reduceBEq, Nat.reduceMul, lv124_3]
theorem l124_3_eq (a0 : ByteArray) (t4 : Int) (r0 : List ByteArray) : l124_3 a0 t4 r0 = if t4 < (↑r0.length : Int) then (getI r0 t4).bind fun y0 => r0[t4.toNat]?.bind fun y3 => if y3 = a0 then some true else l124_3 a0 (IntKind.i64.wrap (t4 + 1)) r0 else some false := by
  rw [l124_3]
  simp only [evRAt, locS, cd124, Go.Proofs.Try.f124]
  rw [evR_eq]
  simp (maxSteps := 60000000) (disch := first | (intros; rename_i h; cases h; done) | decide +kernel) only [evS, seS, List.map_replicate, Nat.reduceDiv, Nat.reduceMod, Nat.reduceEqDiff, reduceCtorEq, ↓reduceIte, Nat.reduceLT, Nat.reduceAdd, Nat.reduceMul, Nat.reduceSub, Nat.reduceLeDiff, Nat.reduceBEq, Int.reduceEq, Int.reduceNeg, Int.reduceToNat, Int.reduceLE, Int.reduceLT, cd124, Go.Proofs.Try.f124, h124.r, m124, lv_pl, pl124, lv124_3, l124_3]
  all_goals try simp only [rnS, seS, Nat.reduceEqDiff, reduceCtorEq, ↓reduceIte, Nat.reduceAdd, Nat.reduceLeDiff, Nat.reduceBEq, Nat.reduceMul, lv124_3]
  all_goals try simp only [bindN_eq]
end Go.Fs.Se

set_option linter.unusedVariables false
set_option linter.unusedSimpArgs false
set_option maxRecDepth 40000
set_option maxHeartbeats 4000000
open Go.RowKit
namespace Go.Fs.Se
open Cel (cel unc)
open Dat (enc dec)
open Arg (ea da)
/-! loop.example/smithy/impl.LexName -/
noncomputable def l88_2 (a0 : ByteArray) (t6 : Int) : Option (Bool) := evRAt (envOf M .x) (lvT 88) cd88 [true, false, true, false] (endK (β := Bool) M 88 .x Go.Proofs.Try.f88.results.toList) (stL 28 [(0, AV.d (D.s a0)), (5, AV.d (D.i IntKind.i64 (↑a0.size : Int))), (6, AV.d (D.i IntKind.i64 t6))] [])
theorem n88_eq (a0 : ByteArray) : n88 a0 = l88_2 a0 0 := by
  rw [n88, fnO_code h88 rfl Go.Proofs.Try.func88 (c := cd88) rfl (a0, ()) rfl]
  simp (maxSteps := 60000000) (disch := first | (intros; rename_i h; cases h; done) | decide +kernel) only [evS, seS, List.map_replicate, Nat.reduceDiv, Nat.reduceMod, Nat.reduceEqDiff, reduceCtorEq, ↓reduceIte, Nat.reduceLT, Nat.reduceAdd, Nat.reduceMul, Nat.reduceSub, Nat.reduceLeDiff, Nat.reduceBEq, Int.reduceEq, Int.reduceNeg, Int.reduceToNat, Int.reduceLE, Int.reduceLT, cd88, Go.Proofs.Try.f88, h88.r, m88, lv_pl, pl88, c99, c129, lv88_2, l88_2]
  all_goals try simp only [rnS, seS, Nat.reduceEqDiff, reduceCtorEq, ↓reduceIte, Nat.reduceAdd, Nat.reduceLeDiff, Nat.reduceBEq, Nat.reduceMul, lv88_2]
theorem l88_2_eq (a0 : ByteArray) (t6 : Int) : l88_2 a0 t6 = if t6 < (↑a0.size : Int) then bindB (if 0 ≤ t6 ∧ t6 < (↑a0.size : Int) then if byteAt a0 t6 < 97 then some true else if 0 ≤ t6 ∧ t6 < (↑a0.size : Int) then some (decide (122 < byteAt a0 t6)) else none else none) fun y0 => if y0 = true then some false else l88_2 a0 (IntKind.i64.wrap (t6 + 1)) else (n99 (↑a0.size : Int) 1 8).bind fun y1 => if y1 = true then (n129 a0).bind fun y2 => some !y2 else some false := by
  rw [l88_2]
  simp only [evRAt, locS, cd88, Go.Proofs.Try.f88]
  rw [evR_eq]
  simp (maxSteps := 60000000) (disch := first | (intros; rename_i h; cases h; done) | decide +kernel) only [evS, seS, List.map_replicate, Nat.reduceDiv, Nat.reduceMod, Nat.reduceEqDiff, reduceCtorEq, ↓reduceIte, Nat.reduceLT, Nat.reduceAdd, Nat.reduceMul, Nat.reduceSub, Nat.reduceLeDiff, Nat.reduceBEq, Int.reduceEq, Int.reduceNeg, Int.reduceToNat, Int.reduceLE, Int.reduceLT, cd88, Go.Proofs.Try.f88, h88.r, m88, lv_pl, pl88, c99, c129, lv88_2, l88_2]
  all_goals try simp only [rnS, seS, Nat.reduceEqDiff, reduceCtorEq, ↓reduceIte, Nat.reduceAdd, Nat.reduceLeDiff, Nat.reduceBEq, Nat.reduceMul, lv88_2]
  all_goals try simp only [bindN_eq]
end Go.Fs.Se

set_option linter.unusedVariables false
set_option linter.unusedSimpArgs false
set_option maxRecDepth 40000
set_option maxHeartbeats 4000000
open Go.RowKit
namespace Go.Fs.Se
open Cel (cel unc)
open Dat (enc dec)
open Arg (ea da)
/-! loop.example/smithy/impl.isOwn -/
theorem n129_eq (a0 : ByteArray) : n129 a0 = n148 [ByteArray.mk #[117, 115, 101], ByteArray.mk #[102, 117, 110], ByteArray.mk #[112, 117, 98], ByteArray.mk #[109, 97, 105, 110], ByteArray.mk #[105, 110, 116], ByteArray.mk #[98, 111, 111, 108], ByteArray.mk #[114, 111, 119], ByteArray.mk #[105, 102], ByteArray.mk #[108, 101, 116], ByteArray.mk #[116, 114, 117, 101], ByteArray.mk #[102, 97, 108, 115, 101], ByteArray.mk #[97, 110, 100], ByteArray.mk #[111, 114], ByteArray.mk #[110, 111, 116], ByteArray.mk #[97, 116], ByteArray.mk #[108, 101, 110], ByteArray.mk #[112, 117, 116], ByteArray.mk #[106, 111, 105, 110], ByteArray.mk #[112, 114, 105, 110, 116]] a0 := by
  rw [n129, fnO_code h129 rfl Go.Proofs.Try.func129 (c := cd129) rfl (a0, ()) rfl]
  simp (maxSteps := 60000000) (disch := first | (intros; rename_i h; cases h; done) | decide +kernel) only [evS, seS, List.map_replicate, Nat.reduceDiv, Nat.reduceMod, Nat.reduceEqDiff, reduceCtorEq, ↓reduceIte, Nat.reduceLT, Nat.reduceAdd, Nat.reduceMul, Nat.reduceSub, Nat.reduceLeDiff, Nat.reduceBEq, Int.reduceEq, Int.reduceNeg, Int.reduceToNat, Int.reduceLE, Int.reduceLT, cd129, Go.Proofs.Try.f129, h129.r, m129, lv_pl, pl129, c148]
end Go.Fs.Se

set_option linter.unusedVariables false
set_option linter.unusedSimpArgs false
set_option maxRecDepth 40000
set_option maxHeartbeats 4000000
open Go.RowKit
namespace Go.Fs.Se
open Cel (cel unc)
open Dat (enc dec)
open Arg (ea da)
/-! slices.Contains[[]string,string] -/
theorem n148_eq (a0 : (List ByteArray)) (a1 : ByteArray) : n148 a0 a1 = (n166 a0 a1).bind fun y0 => some (decide (0 ≤ y0)) := by
  rw [n148, fnO_code h148 rfl Go.Proofs.Try.func148 (c := cd148) rfl (a0, a1, ()) rfl]
  simp (maxSteps := 60000000) (disch := first | (intros; rename_i h; cases h; done) | decide +kernel) only [evS, seS, List.map_replicate, Nat.reduceDiv, Nat.reduceMod, Nat.reduceEqDiff, reduceCtorEq, ↓reduceIte, Nat.reduceLT, Nat.reduceAdd, Nat.reduceMul, Nat.reduceSub, Nat.reduceLeDiff, Nat.reduceBEq, Int.reduceEq, Int.reduceNeg, Int.reduceToNat, Int.reduceLE, Int.reduceLT, cd148, Go.Proofs.Try.f148, h148.r, m148, lv_pl, pl148, c166]
  all_goals try simp only [bindN_eq]
end Go.Fs.Se

set_option linter.unusedVariables false
set_option linter.unusedSimpArgs false
set_option maxRecDepth 40000
set_option maxHeartbeats 4000000
open Go.RowKit
namespace Go.Fs.Se
open Cel (cel unc)
open Dat (enc dec)
open Arg (ea da)
/-! slices.Index[[]string,string] -/
noncomputable def l166_2 (a0 : (List ByteArray)) (a1 : ByteArray) (t8 : Int) : Option (Int) := evRAt (envOf M .x) (lvT 166) cd166 [true, false, true, false] (endK (β := Int) M 166 .x Go.Proofs.Try.f166.results.toList) (stL 19 [(0, AV.d (D.l 1 (List.map cel a0))), (1, AV.d (D.s a1)), (7, AV.d (D.i IntKind.i64 (↑a0.length : Int))), (8, AV.d (D.i IntKind.i64 t8))] [])
theorem n166_eq (a0 : (List ByteArray)) (a1 : ByteArray) : n166 a0 a1 = l166_2 a0 a1 0 := by
  rw [n166, fnO_code h166 rfl Go.Proofs.Try.func166 (c := cd166) rfl (a0, a1, ()) rfl]
  simp (maxSteps := 60000000) (disch := first | (intros; rename_i h; cases h; done) | decide +kernel) only [evS, seS, List.map_replicate, Nat.reduceDiv, Nat.reduceMod, Nat.reduceEqDiff, reduceCtorEq, ↓reduceIte, Nat.reduceLT, Nat.reduceAdd, Nat.reduceMul, Nat.reduceSub, Nat.reduceLeDiff, Nat.reduceBEq, Int.reduceEq, Int.reduceNeg, Int.reduceToNat, Int.reduceLE, Int.reduceLT, cd166, Go.Proofs.Try.f166, h166.r, m166, lv_pl, pl166, lv166_2, l166_2]
  all_goals try simp only [rnS, seS, Nat.reduceEqDiff, reduceCtorEq, ↓reduceIte, Nat.reduceAdd, Nat.reduceLeDiff, Nat.reduceBEq, Nat.reduceMul, lv166_2]
theorem l166_2_eq (a0 : (List ByteArray)) (a1 : ByteArray) (t8 : Int) : l166_2 a0 a1 t8 = if t8 < (↑a0.length : Int) then (getI a0 t8).bind fun y0 => if a1 = y0 then some t8 else l166_2 a0 a1 (IntKind.i64.wrap (t8 + 1)) else some (-1) := by
  rw [l166_2]
  simp only [evRAt, locS, cd166, Go.Proofs.Try.f166]
  rw [evR_eq]
  simp (maxSteps := 60000000) (disch := first | (intros; rename_i h; cases h; done) | decide +kernel) only [evS, seS, List.map_replicate, Nat.reduceDiv, Nat.reduceMod, Nat.reduceEqDiff, reduceCtorEq, ↓reduceIte, Nat.reduceLT, Nat.reduceAdd, Nat.reduceMul, Nat.reduceSub, Nat.reduceLeDiff, Nat.reduceBEq, Int.reduceEq, Int.reduceNeg, Int.reduceToNat, Int.reduceLE, Int.reduceLT, cd166, Go.Proofs.Try.f166, h166.r, m166, lv_pl, pl166, lv166_2, l166_2]
  all_goals try simp only [rnS, seS, Nat.reduceEqDiff, reduceCtorEq, ↓reduceIte, Nat.reduceAdd, Nat.reduceLeDiff, Nat.reduceBEq, Nat.reduceMul, lv166_2]
  all_goals try simp only [bindN_eq]
end Go.Fs.Se

set_option linter.unusedVariables false
set_option linter.unusedSimpArgs false
set_option maxRecDepth 40000
set_option maxHeartbeats 4000000
open Go.RowKit
namespace Go.Fs.Se
open Cel (cel unc)
open Dat (enc dec)
open Arg (ea da)
/-! loop.example/smithy/impl.inRange -/
theorem n99_eq (a0 : Int) (a1 : Int) (a2 : Int) : n99 a0 a1 a2 = some (decide (a1 ≤ a0) && decide (a0 ≤ a2)) := by
  rw [n99, fnO_code h99 rfl Go.Proofs.Try.func99 (c := cd99) rfl (a0, a1, a2, ()) rfl]
  simp (maxSteps := 60000000) (disch := first | (intros; rename_i h; cases h; done) | decide +kernel) only [evS, seS, List.map_replicate, Nat.reduceDiv, Nat.reduceMod, Nat.reduceEqDiff, reduceCtorEq, ↓reduceIte, Nat.reduceLT, Nat.reduceAdd, Nat.reduceMul, Nat.reduceSub, Nat.reduceLeDiff, Nat.reduceBEq, Int.reduceEq, Int.reduceNeg, Int.reduceToNat, Int.reduceLE, Int.reduceLT, cd99, Go.Proofs.Try.f99, h99.r, m99, lv_pl, pl99]
end Go.Fs.Se

set_option linter.unusedVariables false
set_option linter.unusedSimpArgs false
set_option maxRecDepth 40000
set_option maxHeartbeats 4000000
open Go.RowKit
namespace Go.Fs.Se
open Cel (cel unc)
open Dat (enc dec)
open Arg (ea da)
/-! loop.example/smithy/impl.isShort -/
theorem n132_eq (a0 : Int) : n132 a0 = n99 a0 (-99999999999999999) 99999999999999999 := by
  rw [n132, fnO_code h132 rfl Go.Proofs.Try.func132 (c := cd132) rfl (a0, ()) rfl]
  simp (maxSteps := 60000000) (disch := first | (intros; rename_i h; cases h; done) | decide +kernel) only [evS, seS, List.map_replicate, Nat.reduceDiv, Nat.reduceMod, Nat.reduceEqDiff, reduceCtorEq, ↓reduceIte, Nat.reduceLT, Nat.reduceAdd, Nat.reduceMul, Nat.reduceSub, Nat.reduceLeDiff, Nat.reduceBEq, Int.reduceEq, Int.reduceNeg, Int.reduceToNat, Int.reduceLE, Int.reduceLT, cd132, Go.Proofs.Try.f132, h132.r, m132, lv_pl, pl132, c99]
end Go.Fs.Se

set_option linter.unusedVariables false
set_option linter.unusedSimpArgs false
set_option maxRecDepth 40000
set_option maxHeartbeats 4000000
open Go.RowKit
namespace Go.Fs.Se
open Cel (cel unc)
open Dat (enc dec)
open Arg (ea da)
/-! loop.example/smithy/spec.l2Prim -/
noncomputable def l103_3 (a0 : ByteArray) (t4 : Int) (r0 : List ByteArray) : Option (Int) := evRAt (envOf M .x) (lvT 103) cd103 [true, true, false, true, false] (endK (β := Int) M 103 .x Go.Proofs.Try.f103.results.toList) (stL 20 [(0, AV.d (D.s a0)), (3, AV.r 500000), (4, AV.d (D.i IntKind.i64 t4))] [(500000, some (Ob.row 1 (List.map cel r0) true false 0))])
theorem n103_eq (a0 : ByteArray) : n103 a0 = n136.bind fun y0 => l103_3 a0 0 y0 := by
  rw [n103, fnO_code h103 rfl Go.Proofs.Try.func103 (c := cd103) rfl (a0, ()) rfl]
  simp (maxSteps := 60000000) (disch := first | (intros; rename_i h; cases h; done) | decide +kernel) only [evS, seS, List.map_replicate, Nat.reduceDiv, Nat.reduceMod, Nat.reduceEqDiff, reduceCtorEq, ↓reduceIte, Nat.reduceLT, Nat.reduceAdd, Nat.reduceMul, Nat.reduceSub, Nat.reduceLeDiff, Nat.reduceBEq, Int.reduceEq, Int.reduceNeg, Int.reduceToNat, Int.reduceLE, Int.reduceLT, cd103, Go.Proofs.Try.f103, h103.r, m103, lv_pl, pl103, c136, lv103_3, l103_3]
  all_goals try simp only [rnS, seS, Nat.reduceEqDiff, reduceCtorEq, ↓reduceIte, Nat.reduceAdd, Nat.reduceLeDiff, Nat.reduceBEq, Nat.reduceMul, lv103_3]
  all_goals try simp only [bindN_eq]
theorem l103_3_eq (a0 : ByteArray) (t4 : Int) (r0 : List ByteArray) : l103_3 a0 t4 r0 = if t4 < (↑r0.length : Int) then (getI r0 t4).bind fun y0 => r0[t4.toNat]?.bind fun y3 => if y3 = a0 then some (IntKind.i64.wrap (t4 + 1)) else l103_3 a0 (IntKind.i64.wrap (t4 + 1)) r0 else some 0 := by
  rw [l103_3]
  simp only [evRAt, locS, cd103, Go.Proofs.Try.f103]
  rw [evR_eq]
  simp (maxSteps := 60000000) (disch := first | (intros; rename_i h; cases h; done) | decide +kernel) only [evS, seS, List.map_replicate, Nat.reduceDiv, Nat.reduceMod, Nat.reduceEqDiff, reduceCtorEq, ↓reduceIte, Nat.reduceLT, Nat.reduceAdd, Nat.reduceMul, Nat.reduceSub, Nat.reduceLeDiff, Nat.reduceBEq, Int.reduceEq, Int.reduceNeg, Int.reduceToNat, Int.reduceLE, Int.reduceLT, cd103, Go.Proofs.Try.f103, h103.r, m103, lv_pl, pl103, c136, lv103_3, l103_3]
  all_goals try simp only [rnS, seS, Nat.reduceEqDiff, reduceCtorEq, ↓reduceIte, Nat.reduceAdd, Nat.reduceLeDiff, Nat.reduceBEq, Nat.reduceMul, lv103_3]
  all_goals try simp only [bindN_eq]
end Go.Fs.Se

set_option linter.unusedVariables false
set_option linter.unusedSimpArgs false
set_option maxRecDepth 40000
set_option maxHeartbeats 4000000
open Go.RowKit
namespace Go.Fs.Se
open Cel (cel unc)
open Dat (enc dec)
open Arg (ea da)
/-! loop.example/smithy/spec.l2Prims -/
theorem n136_eq : n136 = some [ByteArray.mk #[43], ByteArray.mk #[45], ByteArray.mk #[42], ByteArray.mk #[47], ByteArray.mk #[37], ByteArray.mk #[60], ByteArray.mk #[60, 61], ByteArray.mk #[61], ByteArray.mk #[110, 111, 116], ByteArray.mk #[97, 116], ByteArray.mk #[108, 101, 110], ByteArray.mk #[112, 117, 116], ByteArray.mk #[106, 111, 105, 110], ByteArray.mk #[112, 114, 105, 110, 116], ByteArray.mk #[97, 110, 100], ByteArray.mk #[111, 114]] := by
  rw [n136, fnO_code h136 rfl Go.Proofs.Try.func136 (c := cd136) rfl (()) rfl]
  simp (maxSteps := 60000000) (disch := first | (intros; rename_i h; cases h; done) | decide +kernel) only [evS, seS, List.map_replicate, Nat.reduceDiv, Nat.reduceMod, Nat.reduceEqDiff, reduceCtorEq, ↓reduceIte, Nat.reduceLT, Nat.reduceAdd, Nat.reduceMul, Nat.reduceSub, Nat.reduceLeDiff, Nat.reduceBEq, Int.reduceEq, Int.reduceNeg, Int.reduceToNat, Int.reduceLE, Int.reduceLT, cd136, Go.Proofs.Try.f136, h136.r, m136, lv_pl, pl136]
end Go.Fs.Se

set_option linter.unusedVariables false
set_option linter.unusedSimpArgs false
set_option maxRecDepth 40000
set_option maxHeartbeats 4000000
open Go.RowKit
namespace Go.Fs.Se
open Cel (cel unc)
open Dat (enc dec)
open Arg (ea da)
/-! loop.example/smithy/spec.TreeArity -/
theorem n155_eq (a0 : ByteArray) : n155 a0 = (n103 a0).bind fun y0 => if y0 = 0 then some (-1) else if y0 = 9 then some 1 else if y0 = 11 then some 1 else if y0 = 14 then some 1 else if y0 = 12 then some 3 else some 2 := by
  rw [n155, fnO_code h155 rfl Go.Proofs.Try.func155 (c := cd155) rfl (a0, ()) rfl]
  simp (maxSteps := 60000000) (disch := first | (intros; rename_i h; cases h; done) | decide +kernel) only [evS, seS, List.map_replicate, Nat.reduceDiv, Nat.reduceMod, Nat.reduceEqDiff, reduceCtorEq, ↓reduceIte, Nat.reduceLT, Nat.reduceAdd, Nat.reduceMul, Nat.reduceSub, Nat.reduceLeDiff, Nat.reduceBEq, Int.reduceEq, Int.reduceNeg, Int.reduceToNat, Int.reduceLE, Int.reduceLT, cd155, Go.Proofs.Try.f155, h155.r, m155, lv_pl, pl155, c103]
  all_goals try simp only [bindN_eq]
end Go.Fs.Se

set_option linter.unusedVariables false
set_option linter.unusedSimpArgs false
set_option maxRecDepth 40000
set_option maxHeartbeats 4000000
open Go.RowKit
namespace Go.Fs.Se
open Cel (cel unc)
open Dat (enc dec)
open Arg (ea da)
/-! loop.example/smithy/impl.TreeArity -/
theorem n159_eq (a0 : ByteArray) : n159 a0 = if a0 = ByteArray.mk #[110, 111, 116] then some 1 else if a0 = ByteArray.mk #[108, 101, 110] then some 1 else if a0 = ByteArray.mk #[112, 114, 105, 110, 116] then some 1 else if a0 = ByteArray.mk #[112, 117, 116] then some 3 else if a0 = ByteArray.mk #[43] then some 2 else if a0 = ByteArray.mk #[45] then some 2 else if a0 = ByteArray.mk #[42] then some 2 else if a0 = ByteArray.mk #[47] then some 2 else if a0 = ByteArray.mk #[37] then some 2 else if a0 = ByteArray.mk #[60] then some 2 else if a0 = ByteArray.mk #[60, 61] then some 2 else if a0 = ByteArray.mk #[61] then some 2 else if a0 = ByteArray.mk #[97, 116] then some 2 else if a0 = ByteArray.mk #[106, 111, 105, 110] then some 2 else if a0 = ByteArray.mk #[97, 110, 100] then some 2 else if a0 = ByteArray.mk #[111, 114] then some 2 else some (-1) := by
  rw [n159, fnO_code h159 rfl Go.Proofs.Try.func159 (c := cd159) rfl (a0, ()) rfl]
  simp (maxSteps := 60000000) (disch := first | (intros; rename_i h; cases h; done) | decide +kernel) only [evS, seS, List.map_replicate, Nat.reduceDiv, Nat.reduceMod, Nat.reduceEqDiff, reduceCtorEq, ↓reduceIte, Nat.reduceLT, Nat.reduceAdd, Nat.reduceMul, Nat.reduceSub, Nat.reduceLeDiff, Nat.reduceBEq, Int.reduceEq, Int.reduceNeg, Int.reduceToNat, Int.reduceLE, Int.reduceLT, cd159, Go.Proofs.Try.f159, h159.r, m159, lv_pl, pl159]
end Go.Fs.Se

set_option linter.unusedVariables false
set_option linter.unusedSimpArgs false
set_option maxRecDepth 40000
set_option maxHeartbeats 4000000
open Go.RowKit
namespace Go.Fs.Se
open Cel (cel unc)
open Dat (enc dec)
open Arg (ea da)
/-! loop.example/smithy/spec.l2Node -/
theorem n135_eq (a0 : TreeExpr) : n135 a0 = if a0.kind = 1 then bindB (if (↑a0.kids.length : Int) = 0 then n154 a0 true false false else some false) fun y0 => some (decide (y0 = true ∧ a0.num < 100000000000000000) && decide (-100000000000000000 < a0.num)) else if a0.kind = 2 then bindB (if (↑a0.kids.length : Int) = 0 then n154 a0 true false false else some false) fun y1 => some (decide (y1 = true) && (decide (a0.num = 0) || decide (a0.num = 1))) else if a0.kind = 3 then bindB (if (↑a0.kids.length : Int) = 0 then n154 a0 false true false else some false) fun y2 => if y2 = true then n85 a0.name else some false else if a0.kind = 4 then (n154 a0 false true false).bind fun y3 => if y3 = true then (n155 a0.name).bind fun y4 => some (decide ((↑a0.kids.length : Int) = y4)) else some false else if a0.kind = 5 then if (↑a0.kids.length : Int) = 3 then n154 a0 false false false else some false else if a0.kind = 6 then bindB (if (↑a0.kids.length : Int) = 2 then n154 a0 false true false else some false) fun y5 => if y5 = true then n85 a0.name else some false else if a0.kind = 7 then bindB (if (↑a0.kids.length : Int) ≤ 4 then n154 a0 false true true else some false) fun y6 => bindB (if y6 = true then n85 a0.name else some false) fun y7 => if y7 = true then if a0.mod = ByteArray.mk #[] then some true else n85 a0.mod else some false else if a0.kind = 8 then if (↑a0.kids.length : Int) ≤ 8 then n154 a0 false false false else some false else some false := by
  rw [n135, fnO_code h135 rfl Go.Proofs.Try.func135 (c := cd135) rfl (a0, ()) rfl]
  simp (maxSteps := 60000000) (disch := first | (intros; rename_i h; cases h; done) | decide +kernel) only [evS, seS, List.map_replicate, Nat.reduceDiv, Nat.reduceMod, Nat.reduceEqDiff, reduceCtorEq, ↓reduceIte, Nat.reduceLT, Nat.reduceAdd, Nat.reduceMul, Nat.reduceSub, Nat.reduceLeDiff, Nat.reduceBEq, Int.reduceEq, Int.reduceNeg, Int.reduceToNat, Int.reduceLE, Int.reduceLT, cd135, Go.Proofs.Try.f135, h135.r, m135, lv_pl, pl135, c85, c154, c155]
  all_goals try simp only [bindN_eq]
end Go.Fs.Se

set_option linter.unusedVariables false
set_option linter.unusedSimpArgs false
set_option maxRecDepth 40000
set_option maxHeartbeats 4000000
open Go.RowKit
namespace Go.Fs.Se
open Cel (cel unc)
open Dat (enc dec)
open Arg (ea da)
/-! loop.example/smithy/spec.l2Plain -/
theorem n154_eq (a0 : TreeExpr) (a1 : Bool) (a2 : Bool) (a3 : Bool) : n154 a0 a1 a2 a3 = some (decide ((a1 = true ∨ a0.num = 0) ∧ (a2 = true ∨ a0.name = ByteArray.mk #[])) && (decide (a3 = true) || decide (a0.mod = ByteArray.mk #[]))) := by
  rw [n154, fnO_code h154 rfl Go.Proofs.Try.func154 (c := cd154) rfl (a0, a1, a2, a3, ()) rfl]
  simp (maxSteps := 60000000) (disch := first | (intros; rename_i h; cases h; done) | decide +kernel) only [evS, seS, List.map_replicate, Nat.reduceDiv, Nat.reduceMod, Nat.reduceEqDiff, reduceCtorEq, ↓reduceIte, Nat.reduceLT, Nat.reduceAdd, Nat.reduceMul, Nat.reduceSub, Nat.reduceLeDiff, Nat.reduceBEq, Int.reduceEq, Int.reduceNeg, Int.reduceToNat, Int.reduceLE, Int.reduceLT, cd154, Go.Proofs.Try.f154, h154.r, m154, lv_pl, pl154]
end Go.Fs.Se

set_option linter.unusedVariables false
set_option linter.unusedSimpArgs false
set_option maxRecDepth 40000
set_option maxHeartbeats 4000000
open Go.RowKit
namespace Go.Fs.Se
open Cel (cel unc)
open Dat (enc dec)
open Arg (ea da)
/-! (loop.example/smithy/impl.TreeExpr).partsOk -/
theorem n142_eq (a0 : TreeExpr) : n142 a0 = if a0.kind = 1 then bindB (if a0.name = ByteArray.mk #[] ∧ a0.mod = ByteArray.mk #[] then n132 a0.num else some false) fun y0 => some (decide (y0 = true) && decide ((↑a0.kids.length : Int) = 0)) else if a0.kind = 2 then bindB (if a0.name = ByteArray.mk #[] ∧ a0.mod = ByteArray.mk #[] then n99 a0.num 0 1 else some false) fun y1 => some (decide (y1 = true) && decide ((↑a0.kids.length : Int) = 0)) else if decide (a0.num = 0) = false then some false else if a0.kind = 3 then (n88 a0.name).bind fun y2 => some (decide (y2 = true ∧ a0.mod = ByteArray.mk #[]) && decide ((↑a0.kids.length : Int) = 0)) else if a0.kind = 4 then if a0.mod = ByteArray.mk #[] then (n159 a0.name).bind fun y3 => some (decide ((↑a0.kids.length : Int) = y3)) else some false else if a0.kind = 5 then some (decide (a0.name = ByteArray.mk #[] ∧ a0.mod = ByteArray.mk #[]) && decide ((↑a0.kids.length : Int) = 3)) else if a0.kind = 6 then (n88 a0.name).bind fun y4 => some (decide (y4 = true ∧ a0.mod = ByteArray.mk #[]) && decide ((↑a0.kids.length : Int) = 2)) else if a0.kind = 7 then bindB ((n88 a0.name).bind fun y5 => if y5 = true then if a0.mod = ByteArray.mk #[] then some true else n88 a0.mod else some false) fun y6 => some (decide (y6 = true) && decide ((↑a0.kids.length : Int) ≤ 4)) else some (decide (a0.kind = 8 ∧ a0.name = ByteArray.mk #[] ∧ a0.mod = ByteArray.mk #[]) && decide ((↑a0.kids.length : Int) ≤ 8)) := by
  rw [n142, fnO_code h142 rfl Go.Proofs.Try.func142 (c := cd142) rfl (a0, ()) rfl]
  simp (maxSteps := 60000000) (disch := first | (intros; rename_i h; cases h; done) | decide +kernel) only [evS, seS, List.map_replicate, Nat.reduceDiv, Nat.reduceMod, Nat.reduceEqDiff, reduceCtorEq, ↓reduceIte, Nat.reduceLT, Nat.reduceAdd, Nat.reduceMul, Nat.reduceSub, Nat.reduceLeDiff, Nat.reduceBEq, Int.reduceEq, Int.reduceNeg, Int.reduceToNat, Int.reduceLE, Int.reduceLT, cd142, Go.Proofs.Try.f142, h142.r, m142, lv_pl, pl142, c88, c99, c132, c159]
  all_goals try simp only [bindN_eq]
end Go.Fs.Se

set_option linter.unusedVariables false
set_option linter.unusedSimpArgs false
set_option maxRecDepth 40000
set_option maxHeartbeats 4000000
open Go.RowKit
namespace Go.Fs.Se
open Cel (cel unc)
open Dat (enc dec)
open Arg (ea da)
/-! loop.example/smithy/spec.l2Expr -/
noncomputable def l102_4 (a0 : TreeExpr) (t3 : Int) : Option (Bool) := evRAt (envOf M .x) (lvT 102) cd102 [true, true, false, true, false] (endK (β := Bool) M 102 .x Go.Proofs.Try.f102.results.toList) (stL 21 [(1, AV.a 500000 0), (3, AV.d (D.i IntKind.i64 t3))] [(500000, some (Ob.box [AV.d (D.i IntKind.i64 a0.kind), AV.d (D.i IntKind.i64 a0.num), AV.d (D.s a0.name), AV.d (D.s a0.mod), AV.d (D.l 5 (List.map cel a0.kids))]))])
theorem n102_eq (a0 : TreeExpr) : n102 a0 = (n135 a0).bind fun y0 => if y0 = false then some false else l102_4 a0 0 := by
  rw [n102, fnO_code h102 rfl Go.Proofs.Try.func102 (c := cd102) rfl (a0, ()) rfl]
  simp (maxSteps := 60000000) (disch := first | (intros; rename_i h; cases h; done) | decide +kernel) only [evS, seS, List.map_replicate, Nat.reduceDiv, Nat.reduceMod, Nat.reduceEqDiff, reduceCtorEq, ↓reduceIte, Nat.reduceLT, Nat.reduceAdd, Nat.reduceMul, Nat.reduceSub, Nat.reduceLeDiff, Nat.reduceBEq, Int.reduceEq, Int.reduceNeg, Int.reduceToNat, Int.reduceLE, Int.reduceLT, cd102, Go.Proofs.Try.f102, h102.r, m102, lv_pl, pl102, c102, c135, lv102_4, l102_4]
  all_goals try simp only [rnS, seS, Nat.reduceEqDiff, reduceCtorEq, ↓reduceIte, Nat.reduceAdd, Nat.reduceLeDiff, Nat.reduceBEq, Nat.reduceMul, lv102_4]
  all_goals try simp only [bindN_eq]
theorem l102_4_eq (a0 : TreeExpr) (t3 : Int) : l102_4 a0 t3 = if t3 < (↑a0.kids.length : Int) then (getI a0.kids t3).bind fun y0 => (n102 y0).bind fun y1 => if y1 = false then some false else l102_4 a0 (IntKind.i64.wrap (t3 + 1)) else some true := by
  rw [l102_4]
  simp only [evRAt, locS, cd102, Go.Proofs.Try.f102]
  rw [evR_eq]
  simp (maxSteps := 60000000) (disch := first | (intros; rename_i h; cases h; done) | decide +kernel) only [evS, seS, List.map_replicate, Nat.reduceDiv, Nat.reduceMod, Nat.reduceEqDiff, reduceCtorEq, ↓reduceIte, Nat.reduceLT, Nat.reduceAdd, Nat.reduceMul, Nat.reduceSub, Nat.reduceLeDiff, Nat.reduceBEq, Int.reduceEq, Int.reduceNeg, Int.reduceToNat, Int.reduceLE, Int.reduceLT, cd102, Go.Proofs.Try.f102, h102.r, m102, lv_pl, pl102, c102, c135, lv102_4, l102_4]
  all_goals try simp only [rnS, seS, Nat.reduceEqDiff, reduceCtorEq, ↓reduceIte, Nat.reduceAdd, Nat.reduceLeDiff, Nat.reduceBEq, Nat.reduceMul, lv102_4]
  all_goals try simp only [bindN_eq]
end Go.Fs.Se

set_option linter.unusedVariables false
set_option linter.unusedSimpArgs false
set_option maxRecDepth 40000
set_option maxHeartbeats 4000000
open Go.RowKit
namespace Go.Fs.Se
open Cel (cel unc)
open Dat (enc dec)
open Arg (ea da)
/-! (loop.example/smithy/impl.TreeExpr).isRight -/
theorem n108_eq (a0 : TreeExpr) : n108 a0 = (n142 a0).bind fun y0 => if y0 = true then (n143 a0.kids (Fv.mk (D.f 144 []))).bind fun y1 => some !y1 else some false := by
  rw [n108, fnO_code h108 rfl Go.Proofs.Try.func108 (c := cd108) rfl (a0, ()) rfl]
  simp (maxSteps := 60000000) (disch := first | (intros; rename_i h; cases h; done) | decide +kernel) only [evS, seS, List.map_replicate, Nat.reduceDiv, Nat.reduceMod, Nat.reduceEqDiff, reduceCtorEq, ↓reduceIte, Nat.reduceLT, Nat.reduceAdd, Nat.reduceMul, Nat.reduceSub, Nat.reduceLeDiff, Nat.reduceBEq, Int.reduceEq, Int.reduceNeg, Int.reduceToNat, Int.reduceLE, Int.reduceLT, cd108, Go.Proofs.Try.f108, h108.r, m108, lv_pl, pl108, c142, c143, c144]
  all_goals try simp only [bindN_eq]
end Go.Fs.Se

set_option linter.unusedVariables false
set_option linter.unusedSimpArgs false
set_option maxRecDepth 40000
set_option maxHeartbeats 4000000
open Go.RowKit
namespace Go.Fs.Se
open Cel (cel unc)
open Dat (enc dec)
open Arg (ea da)
/-! slices.ContainsFunc[[]loop.example/smithy/impl.TreeExpr,loop.example/smithy/impl.TreeExpr] -/
theorem n143_144_eq (a0 : (List TreeExpr)) : n143 a0 (Fv.mk (D.f 144 [])) = (n160 a0 (Fv.mk (D.f 144 []))).bind fun y0 => some (decide (0 ≤ y0)) := by
  rw [n143, fnO_code h143 rfl Go.Proofs.Try.func143 (c := cd143) rfl (a0, (Fv.mk (D.f 144 [])), ()) rfl]
  simp (maxSteps := 60000000) (disch := first | (intros; rename_i h; cases h; done) | decide +kernel) only [evS, seS, List.map_replicate, Nat.reduceDiv, Nat.reduceMod, Nat.reduceEqDiff, reduceCtorEq, ↓reduceIte, Nat.reduceLT, Nat.reduceAdd, Nat.reduceMul, Nat.reduceSub, Nat.reduceLeDiff, Nat.reduceBEq, Int.reduceEq, Int.reduceNeg, Int.reduceToNat, Int.reduceLE, Int.reduceLT, cd143, Go.Proofs.Try.f143, h143.r, m143, lv_pl, pl143, c160, c144]
  all_goals try simp only [bindN_eq]
end Go.Fs.Se

set_option linter.unusedVariables false
set_option linter.unusedSimpArgs false
set_option maxRecDepth 40000
set_option maxHeartbeats 4000000
open Go.RowKit
namespace Go.Fs.Se
open Cel (cel unc)
open Dat (enc dec)
open Arg (ea da)
/-! slices.IndexFunc[[]loop.example/smithy/impl.TreeExpr,loop.example/smithy/impl.TreeExpr] -/
noncomputable def l160_144_2 (a0 : (List TreeExpr)) (t8 : Int) : Option (Int) := evRAt (envOf M .x) (lvT 160) cd160 [true, false, true, false] (endK (β := Int) M 160 .x Go.Proofs.Try.f160.results.toList) (stL 19 [(0, AV.d (D.l 5 (List.map cel a0))), (1, AV.d (D.f 144 [])), (7, AV.d (D.i IntKind.i64 (↑a0.length : Int))), (8, AV.d (D.i IntKind.i64 t8))] [])
theorem n160_144_eq (a0 : (List TreeExpr)) : n160 a0 (Fv.mk (D.f 144 [])) = l160_144_2 a0 0 := by
  rw [n160, fnO_code h160 rfl Go.Proofs.Try.func160 (c := cd160) rfl (a0, (Fv.mk (D.f 144 [])), ()) rfl]
  simp (maxSteps := 60000000) (disch := first | (intros; rename_i h; cases h; done) | decide +kernel) only [evS, seS, List.map_replicate, Nat.reduceDiv, Nat.reduceMod, Nat.reduceEqDiff, reduceCtorEq, ↓reduceIte, Nat.reduceLT, Nat.reduceAdd, Nat.reduceMul, Nat.reduceSub, Nat.reduceLeDiff, Nat.reduceBEq, Int.reduceEq, Int.reduceNeg, Int.reduceToNat, Int.reduceLE, Int.reduceLT, cd160, Go.Proofs.Try.f160, h160.r, m160, lv_pl, pl160, c144, lv160_2, l160_144_2]
  all_goals try simp only [rnS, seS, Nat.reduceEqDiff, reduceCtorEq, ↓reduceIte, Nat.reduceAdd, Nat.reduceLeDiff, Nat.reduceBEq, Nat.reduceMul, lv160_2]
theorem l160_144_2_eq (a0 : (List TreeExpr)) (t8 : Int) : l160_144_2 a0 t8 = if t8 < (↑a0.length : Int) then (getI a0 t8).bind fun y0 => (n144 y0).bind fun y1 => if y1 = true then some t8 else l160_144_2 a0 (IntKind.i64.wrap (t8 + 1)) else some (-1) := by
  rw [l160_144_2]
  simp only [evRAt, locS, cd160, Go.Proofs.Try.f160]
  rw [evR_eq]
  simp (maxSteps := 60000000) (disch := first | (intros; rename_i h; cases h; done) | decide +kernel) only [evS, seS, List.map_replicate, Nat.reduceDiv, Nat.reduceMod, Nat.reduceEqDiff, reduceCtorEq, ↓reduceIte, Nat.reduceLT, Nat.reduceAdd, Nat.reduceMul, Nat.reduceSub, Nat.reduceLeDiff, Nat.reduceBEq, Int.reduceEq, Int.reduceNeg, Int.reduceToNat, Int.reduceLE, Int.reduceLT, cd160, Go.Proofs.Try.f160, h160.r, m160, lv_pl, pl160, c144, lv160_2, l160_144_2]
  all_goals try simp only [rnS, seS, Nat.reduceEqDiff, reduceCtorEq, ↓reduceIte, Nat.reduceAdd, Nat.reduceLeDiff, Nat.reduceBEq, Nat.reduceMul, lv160_2]
  all_goals try simp only [bindN_eq]
end Go.Fs.Se

set_option linter.unusedVariables false
set_option linter.unusedSimpArgs false
set_option maxRecDepth 40000
set_option maxHeartbeats 4000000
open Go.RowKit
namespace Go.Fs.Se
open Cel (cel unc)
open Dat (enc dec)
open Arg (ea da)
/-! (loop.example/smithy/impl.TreeExpr).isRight$1 -/
theorem n144_eq (a0 : TreeExpr) : n144 a0 = (n108 a0).bind fun y0 => some !y0 := by
  rw [n144, fnO_code h144 rfl Go.Proofs.Try.func144 (c := cd144) rfl (a0, ()) rfl]
  simp (maxSteps := 60000000) (disch := first | (intros; rename_i h; cases h; done) | decide +kernel) only [evS, seS, List.map_replicate, Nat.reduceDiv, Nat.reduceMod, Nat.reduceEqDiff, reduceCtorEq, ↓reduceIte, Nat.reduceLT, Nat.reduceAdd, Nat.reduceMul, Nat.reduceSub, Nat.reduceLeDiff, Nat.reduceBEq, Int.reduceEq, Int.reduceNeg, Int.reduceToNat, Int.reduceLE, Int.reduceLT, cd144, Go.Proofs.Try.f144, h144.r, m144, lv_pl, pl144, c108]
  all_goals try simp only [bindN_eq]
end Go.Fs.Se
