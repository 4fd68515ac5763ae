/- A part of the proof: an evaluator of the program's code over plain data, proved sound, and walks of the program's functions by it. No conditions beyond those in the theorems. -/
import Derived.Test.YtbgbnmghhmfihaaLawFp13
import Derived.Test.YtbgbnmghhmfihaaLawFp16
import Derived.Test.YtbgbnmghhmfihaaLawFp9
set_option linter.unusedVariables false
set_option linter.unusedSimpArgs false
set_option linter.constructorNameAsVariable false
set_option linter.unusedSectionVars false
set_option linter.defProp false
set_option linter.unusedVariables false
set_option linter.unusedSimpArgs false
set_option maxRecDepth 40000
set_option maxHeartbeats 4000000
open Go.RowKit
namespace Go.Fs.Se
open Cel (cel unc)
open Dat (enc dec)
open Arg (ea da)
/-! loop.example/smithy/laws.szTreeExpr -/
theorem n27_eq (a0 : TreeExpr) (a1 : Int) : n27 a0 a1 = if IntKind.i64.wrap (a1 - (↑a0.name.size : Int)) < 0 then some (-1) else if IntKind.i64.wrap (IntKind.i64.wrap (a1 - (↑a0.name.size : Int)) - (↑a0.mod.size : Int)) < 0 then some (-1) else (n62 a0.kids (IntKind.i64.wrap (IntKind.i64.wrap (a1 - (↑a0.name.size : Int)) - (↑a0.mod.size : Int)))).bind fun y0 => if y0 < 0 then some (-1) else some y0 := by
  rw [n27, fnO_code h27 rfl Go.Proofs.Try.func27 (c := cd27) rfl (a0, a1, ()) rfl]
  simp (maxSteps := 60000000) (disch := first | (intros; rename_i h; cases h; done) | decide +kernel) only [evS, seS, List.map_replicate, Nat.reduceDiv, Nat.reduceMod, Nat.reduceEqDiff, reduceCtorEq, ↓reduceIte, Nat.reduceLT, Nat.reduceAdd, Nat.reduceMul, Nat.reduceSub, Nat.reduceLeDiff, Nat.reduceBEq, Int.reduceEq, Int.reduceNeg, Int.reduceToNat, Int.reduceLE, Int.reduceLT, cd27, Go.Proofs.Try.f27, h27.r, m27, lv_pl, pl27, c62]
  all_goals try simp only [bindN_eq]
end Go.Fs.Se

set_option linter.unusedVariables false
set_option linter.unusedSimpArgs false
set_option maxRecDepth 40000
set_option maxHeartbeats 4000000
open Go.RowKit
namespace Go.Fs.Se
open Cel (cel unc)
open Dat (enc dec)
open Arg (ea da)
/-! loop.example/smithy/laws.szTreeExprS -/
noncomputable def l62_5 (a0 : (List TreeExpr)) (a1 : Int) (t1 : Int) (t5 : Int) : Option (Int) := evRAt (envOf M .x) (lvT 62) cd62 [true, true, true, false, true, false] (endK (β := Int) M 62 .x Go.Proofs.Try.f62.results.toList) (stL 27 [(0, AV.d (D.l 5 (List.map cel a0))), (1, AV.d (D.i IntKind.i64 t1)), (5, AV.d (D.i IntKind.i64 t5))] [])
theorem n62_eq (a0 : (List TreeExpr)) (a1 : Int) : n62 a0 a1 = if IntKind.i64.wrap (a1 - (↑a0.length : Int)) < 0 then some (-1) else l62_5 a0 a1 (IntKind.i64.wrap (a1 - (↑a0.length : Int))) 0 := by
  rw [n62, fnO_code h62 rfl Go.Proofs.Try.func62 (c := cd62) rfl (a0, a1, ()) rfl]
  simp (maxSteps := 60000000) (disch := first | (intros; rename_i h; cases h; done) | decide +kernel) only [evS, seS, List.map_replicate, Nat.reduceDiv, Nat.reduceMod, Nat.reduceEqDiff, reduceCtorEq, ↓reduceIte, Nat.reduceLT, Nat.reduceAdd, Nat.reduceMul, Nat.reduceSub, Nat.reduceLeDiff, Nat.reduceBEq, Int.reduceEq, Int.reduceNeg, Int.reduceToNat, Int.reduceLE, Int.reduceLT, cd62, Go.Proofs.Try.f62, h62.r, m62, lv_pl, pl62, c27, lv62_5, l62_5]
  all_goals try simp only [rnS, seS, Nat.reduceEqDiff, reduceCtorEq, ↓reduceIte, Nat.reduceAdd, Nat.reduceLeDiff, Nat.reduceBEq, Nat.reduceMul, lv62_5]
theorem l62_5_eq (a0 : (List TreeExpr)) (a1 : Int) (t1 : Int) (t5 : Int) : l62_5 a0 a1 t1 t5 = if t5 < (↑a0.length : Int) then (getI a0 t5).bind fun y0 => (n27 y0 t1).bind fun y1 => if y1 < 0 then some (-1) else l62_5 a0 a1 y1 (IntKind.i64.wrap (t5 + 1)) else some t1 := by
  rw [l62_5]
  simp only [evRAt, locS, cd62, Go.Proofs.Try.f62]
  rw [evR_eq]
  simp (maxSteps := 60000000) (disch := first | (intros; rename_i h; cases h; done) | decide +kernel) only [evS, seS, List.map_replicate, Nat.reduceDiv, Nat.reduceMod, Nat.reduceEqDiff, reduceCtorEq, ↓reduceIte, Nat.reduceLT, Nat.reduceAdd, Nat.reduceMul, Nat.reduceSub, Nat.reduceLeDiff, Nat.reduceBEq, Int.reduceEq, Int.reduceNeg, Int.reduceToNat, Int.reduceLE, Int.reduceLT, cd62, Go.Proofs.Try.f62, h62.r, m62, lv_pl, pl62, c27, lv62_5, l62_5]
  all_goals try simp only [rnS, seS, Nat.reduceEqDiff, reduceCtorEq, ↓reduceIte, Nat.reduceAdd, Nat.reduceLeDiff, Nat.reduceBEq, Nat.reduceMul, lv62_5]
  all_goals try simp only [bindN_eq]
end Go.Fs.Se

set_option linter.unusedVariables false
set_option linter.unusedSimpArgs false
set_option maxRecDepth 40000
set_option maxHeartbeats 4000000
open Go.RowKit
namespace Go.Fs.Se
open Cel (cel unc)
open Dat (enc dec)
open Arg (ea da)
/-! loop.example/smithy/laws.toTreeExpr -/
theorem n29_eq (a0 : TreeExpr) : n29 a0 = (n65 a0.kids).bind fun y0 => some (TreeExpr.mk a0.kind a0.num a0.name a0.mod y0) := by
  rw [n29, fnO_code h29 rfl Go.Proofs.Try.func29 (c := cd29) rfl (a0, ()) rfl]
  simp (maxSteps := 60000000) (disch := first | (intros; rename_i h; cases h; done) | decide +kernel) only [evS, seS, List.map_replicate, Nat.reduceDiv, Nat.reduceMod, Nat.reduceEqDiff, reduceCtorEq, ↓reduceIte, Nat.reduceLT, Nat.reduceAdd, Nat.reduceMul, Nat.reduceSub, Nat.reduceLeDiff, Nat.reduceBEq, Int.reduceEq, Int.reduceNeg, Int.reduceToNat, Int.reduceLE, Int.reduceLT, cd29, Go.Proofs.Try.f29, h29.r, m29, lv_pl, pl29, c65]
  all_goals try simp only [bindN_eq]
end Go.Fs.Se

set_option linter.unusedVariables false
set_option linter.unusedSimpArgs false
set_option maxRecDepth 40000
set_option maxHeartbeats 4000000
open Go.RowKit
namespace Go.Fs.Se
open Cel (cel unc)
open Dat (enc dec)
open Arg (ea da)
/-! loop.example/smithy/laws.toTreeExprS -/
noncomputable def l65_3 (a0 : (List TreeExpr)) (t4 : Int) (r0 : List TreeExpr) : Option ((List TreeExpr)) := evRAt (envOf M .x) (lvT 65) cd65 [true, true, false, true, false] (endK (β := (List TreeExpr)) M 65 .x Go.Proofs.Try.f65.results.toList) (stL 23 [(0, AV.d (D.l 5 (List.map cel a0))), (3, AV.r 500000), (4, AV.d (D.i IntKind.i64 t4))] [(500000, some (Ob.row 5 (List.map cel r0) true false 0))])
theorem n65_eq (a0 : (List TreeExpr)) : n65 a0 = if 0 ≤ (↑a0.length : Int) ∧ (↑a0.length : Int) * 72 ≤ 140737488355328 ∧ (↑a0.length : Int) ≤ 140737488355328 then l65_3 a0 0 (List.replicate a0.length (TreeExpr.mk 0 0 ByteArray.empty ByteArray.empty [])) else none := by
  rw [n65, fnO_code h65 rfl Go.Proofs.Try.func65 (c := cd65) rfl (a0, ()) rfl]
  simp (maxSteps := 60000000) (disch := first | (intros; rename_i h; cases h; done) | decide +kernel) only [evS, seS, List.map_replicate, Nat.reduceDiv, Nat.reduceMod, Nat.reduceEqDiff, reduceCtorEq, ↓reduceIte, Nat.reduceLT, Nat.reduceAdd, Nat.reduceMul, Nat.reduceSub, Nat.reduceLeDiff, Nat.reduceBEq, Int.reduceEq, Int.reduceNeg, Int.reduceToNat, Int.reduceLE, Int.reduceLT, cd65, Go.Proofs.Try.f65, h65.r, m65, lv_pl, pl65, c29, lv65_3, l65_3]
  all_goals try simp only [rnS, seS, Nat.reduceEqDiff, reduceCtorEq, ↓reduceIte, Nat.reduceAdd, Nat.reduceLeDiff, Nat.reduceBEq, Nat.reduceMul, lv65_3]
theorem l65_3_eq (a0 : (List TreeExpr)) (t4 : Int) (r0 : List TreeExpr) : l65_3 a0 t4 r0 = if t4 < (↑a0.length : Int) then (getI a0 t4).bind fun y0 => (n29 y0).bind fun y1 => (getI r0 t4).bind fun y2 => r0[t4.toNat]?.bind fun y5 => l65_3 a0 (IntKind.i64.wrap (t4 + 1)) (r0.set t4.toNat y1) else some r0 := by
  rw [l65_3]
  simp only [evRAt, locS, cd65, Go.Proofs.Try.f65]
  rw [evR_eq]
  simp (maxSteps := 60000000) (disch := first | (intros; rename_i h; cases h; done) | decide +kernel) only [evS, seS, List.map_replicate, Nat.reduceDiv, Nat.reduceMod, Nat.reduceEqDiff, reduceCtorEq, ↓reduceIte, Nat.reduceLT, Nat.reduceAdd, Nat.reduceMul, Nat.reduceSub, Nat.reduceLeDiff, Nat.reduceBEq, Int.reduceEq, Int.reduceNeg, Int.reduceToNat, Int.reduceLE, Int.reduceLT, cd65, Go.Proofs.Try.f65, h65.r, m65, lv_pl, pl65, c29, lv65_3, l65_3]
  all_goals try simp only [rnS, seS, Nat.reduceEqDiff, reduceCtorEq, ↓reduceIte, Nat.reduceAdd, Nat.reduceLeDiff, Nat.reduceBEq, Nat.reduceMul, lv65_3]
  all_goals try simp only [bindN_eq]
end Go.Fs.Se

set_option linter.unusedVariables false
set_option linter.unusedSimpArgs false
set_option maxRecDepth 40000
set_option maxHeartbeats 4000000
open Go.RowKit
namespace Go.Fs.Se
open Cel (cel unc)
open Dat (enc dec)
open Arg (ea da)
/-! loop.example/smithy/laws.eqTreeExpr -/
theorem n31_eq (a0 : TreeExpr) (a1 : TreeExpr) : n31 a0 a1 = if decide (a0.kind = a1.kind) = false then some false else if decide (a0.num = a1.num) = false then some false else if decide (a0.name = a1.name) = false then some false else if decide (a0.mod = a1.mod) = false then some false else (n68 a0.kids a1.kids).bind fun y0 => if y0 = false then some false else some true := by
  rw [n31, fnO_code h31 rfl Go.Proofs.Try.func31 (c := cd31) rfl (a0, a1, ()) rfl]
  simp (maxSteps := 60000000) (disch := first | (intros; rename_i h; cases h; done) | decide +kernel) only [evS, seS, List.map_replicate, Nat.reduceDiv, Nat.reduceMod, Nat.reduceEqDiff, reduceCtorEq, ↓reduceIte, Nat.reduceLT, Nat.reduceAdd, Nat.reduceMul, Nat.reduceSub, Nat.reduceLeDiff, Nat.reduceBEq, Int.reduceEq, Int.reduceNeg, Int.reduceToNat, Int.reduceLE, Int.reduceLT, cd31, Go.Proofs.Try.f31, h31.r, m31, lv_pl, pl31, c68]
  all_goals try simp only [bindN_eq]
end Go.Fs.Se

set_option linter.unusedVariables false
set_option linter.unusedSimpArgs false
set_option maxRecDepth 40000
set_option maxHeartbeats 4000000
open Go.RowKit
namespace Go.Fs.Se
open Cel (cel unc)
open Dat (enc dec)
open Arg (ea da)
/-! loop.example/smithy/laws.eqTreeExprS -/
noncomputable def l68_4 (a0 : (List TreeExpr)) (a1 : (List TreeExpr)) (t5 : Int) : Option (Bool) := evRAt (envOf M .x) (lvT 68) cd68 [true, true, false, true, false] (endK (β := Bool) M 68 .x Go.Proofs.Try.f68.results.toList) (stL 27 [(0, AV.d (D.l 5 (List.map cel a0))), (1, AV.d (D.l 5 (List.map cel a1))), (5, AV.d (D.i IntKind.i64 t5))] [])
theorem n68_eq (a0 : (List TreeExpr)) (a1 : (List TreeExpr)) : n68 a0 a1 = if decide ((↑a0.length : Int) = (↑a1.length : Int)) = false then some false else l68_4 a0 a1 0 := by
  rw [n68, fnO_code h68 rfl Go.Proofs.Try.func68 (c := cd68) rfl (a0, a1, ()) rfl]
  simp (maxSteps := 60000000) (disch := first | (intros; rename_i h; cases h; done) | decide +kernel) only [evS, seS, List.map_replicate, Nat.reduceDiv, Nat.reduceMod, Nat.reduceEqDiff, reduceCtorEq, ↓reduceIte, Nat.reduceLT, Nat.reduceAdd, Nat.reduceMul, Nat.reduceSub, Nat.reduceLeDiff, Nat.reduceBEq, Int.reduceEq, Int.reduceNeg, Int.reduceToNat, Int.reduceLE, Int.reduceLT, cd68, Go.Proofs.Try.f68, h68.r, m68, lv_pl, pl68, c31, lv68_4, l68_4]
  all_goals try simp only [rnS, seS, Nat.reduceEqDiff, reduceCtorEq, ↓reduceIte, Nat.reduceAdd, Nat.reduceLeDiff, Nat.reduceBEq, Nat.reduceMul, lv68_4]
theorem l68_4_eq (a0 : (List TreeExpr)) (a1 : (List TreeExpr)) (t5 : Int) : l68_4 a0 a1 t5 = if t5 < (↑a0.length : Int) then (getI a0 t5).bind fun y0 => (getI a1 t5).bind fun y1 => (n31 y0 y1).bind fun y2 => if y2 = false then some false else l68_4 a0 a1 (IntKind.i64.wrap (t5 + 1)) else some true := by
  rw [l68_4]
  simp only [evRAt, locS, cd68, Go.Proofs.Try.f68]
  rw [evR_eq]
  simp (maxSteps := 60000000) (disch := first | (intros; rename_i h; cases h; done) | decide +kernel) only [evS, seS, List.map_replicate, Nat.reduceDiv, Nat.reduceMod, Nat.reduceEqDiff, reduceCtorEq, ↓reduceIte, Nat.reduceLT, Nat.reduceAdd, Nat.reduceMul, Nat.reduceSub, Nat.reduceLeDiff, Nat.reduceBEq, Int.reduceEq, Int.reduceNeg, Int.reduceToNat, Int.reduceLE, Int.reduceLT, cd68, Go.Proofs.Try.f68, h68.r, m68, lv_pl, pl68, c31, lv68_4, l68_4]
  all_goals try simp only [rnS, seS, Nat.reduceEqDiff, reduceCtorEq, ↓reduceIte, Nat.reduceAdd, Nat.reduceLeDiff, Nat.reduceBEq, Nat.reduceMul, lv68_4]
  all_goals try simp only [bindN_eq]
end Go.Fs.Se

set_option linter.unusedVariables false
namespace Go.Fs.Se
open Cel (cel unc)
open Dat (enc dec)
open Arg (ea da)
/-! ### lists by place -/
theorem dropAt {α : Type} {xs : List α} {i : Nat} {y : α} {ys : List α} (h : xs.drop i = y :: ys) : i < xs.length ∧ getI xs (i : Int) = some y ∧ xs[i]? = some y ∧ xs.drop (i + 1) = ys := by
  have hi : i < xs.length := by
    rcases Nat.lt_or_ge i xs.length with h1 | h1
    · exact h1
    · rw [List.drop_eq_nil_of_le h1] at h; cases h
  rw [List.drop_eq_getElem_cons hi] at h
  simp only [List.cons.injEq] at h
  have e : xs[i]? = some y := by rw [List.getElem?_eq_getElem hi, h.1]
  refine ⟨hi, ?_, e, h.2⟩
  unfold getI
  rw [if_pos (by omega), Int.toNat_natCast, e]
theorem dropEnd {α : Type} {xs : List α} {i : Nat} (h : xs.drop i = []) : xs.length ≤ i := List.drop_eq_nil_iff.1 h
theorem wrN {n : Nat} (h : n ≤ 4611686018427387904) : IntKind.i64.wrap ((n : Int) + 1) = ((n + 1 : Nat) : Int) := by
  rw [wrap64 (by omega) (by omega)]; rfl
theorem getI_set' {α : Type} (xs : List α) (i : Nat) (v : α) (h : i < xs.length) : getI (xs.set i v) (i : Int) = some v := by
  unfold getI
  rw [if_pos (by omega), Int.toNat_natCast, List.getElem?_set_self h]

/-! ### trees -/
theorem tree_ind {P : TreeExpr → Prop} (h : ∀ e, (∀ k ∈ e.kids, P k) → P e) : ∀ e, P e := by
  have key : ∀ (n : Nat) (e : TreeExpr), SizeOf.sizeOf e < n → P e := by
    intro n
    induction n with
    | zero => intro e h; omega
    | succ n ih =>
      intro e he
      refine h e fun k hk => ih k ?_
      have h1 := List.sizeOf_lt_of_mem hk
      have h2 : SizeOf.sizeOf e.kids < SizeOf.sizeOf e := by cases e; simp; omega
      omega
  exact fun e => key _ e (Nat.lt_succ_self _)
/-- How much a tree holds. -/
def W (e : TreeExpr) : Nat := wtL (cel e)
def WL (es : List TreeExpr) : Nat := wtLL (es.map cel)
def okE (e : TreeExpr) : Prop := okL (cel e) = true
def okEs (es : List TreeExpr) : Prop := okLL (es.map cel) = true
theorem W_eq (e : TreeExpr) : W e = e.name.size + (e.mod.size + (e.kids.length + WL e.kids)) := by
  unfold W WL
  rw [cel_TreeExpr]
  simp only [enc_I, enc_S, enc_L, wtL, wt, List.length_map, Nat.zero_add, Nat.add_zero]
theorem WL_nil : WL [] = 0 := rfl
theorem WL_cons (e : TreeExpr) (es : List TreeExpr) : WL (e :: es) = W e + WL es := rfl
theorem okE_iff (e : TreeExpr) : okE e ↔ (-9223372036854775808 ≤ e.kind ∧ e.kind < 9223372036854775808) ∧ (-9223372036854775808 ≤ e.num ∧ e.num < 9223372036854775808) ∧ e.name.size ≤ 140737488355328 ∧ e.mod.size ≤ 140737488355328 ∧ e.kids.length ≤ 140737488355328 ∧ okEs e.kids := by
  unfold okE okEs
  rw [cel_TreeExpr]
  simp only [enc_I, enc_S, enc_L, okL_cons, okD_i, okD_s, okD_l, okL_nil, List.length_map, and_true]
theorem okEs_cons (e : TreeExpr) (es : List TreeExpr) : okEs (e :: es) ↔ okE e ∧ okEs es := by
  unfold okEs okE
  rw [List.map_cons, okLL_cons]
theorem okEs_mem {es : List TreeExpr} (h : okEs es) : ∀ k ∈ es, okE k := by
  induction es with
  | nil => intro k hk; cases hk
  | cons e es ih =>
    rw [okEs_cons] at h
    intro k hk
    cases hk with
    | head => exact h.1
    | tail _ hk => exact ih h.2 k hk
theorem WL_mem {es : List TreeExpr} : ∀ k ∈ es, W k ≤ WL es := by
  induction es with
  | nil => intro k hk; cases hk
  | cons e es ih =>
    intro k hk
    rw [WL_cons]
    cases hk with
    | head => omega
    | tail _ hk => have := ih k hk; omega
theorem less_ge {l : Int} (w : Nat) (h : -1 ≤ l) : -1 ≤ less l w ∧ (l ≤ 1048576 → less l w ≤ 1048576) := by unfold less; split <;> omega

/-! ### what is left behind a tree -/
theorem sz_ok : ∀ (e : TreeExpr), okE e → ∀ l : Int, 0 ≤ l → l ≤ 1048576 → n27 e l = some (less l (W e)) := by
  intro e
  induction e using tree_ind with
  | h e ih =>
    intro hok l h0 h1
    obtain ⟨_, _, k3, k4, k5, k6⟩ := (okE_iff e).1 hok
    have loop : ∀ (ys : List TreeExpr) (i : Nat) (a1 t : Int), e.kids.drop i = ys → i ≤ e.kids.length → 0 ≤ t → t ≤ 1048576 → l62_5 e.kids a1 t (i : Int) = some (less t (WL ys)) := by
      intro ys
      induction ys with
      | nil =>
        intro i a1 t hd hi ht ht'
        have := dropEnd hd
        rw [l62_5_eq, if_neg (by omega), WL_nil, less_pos (by omega)]
        simp
      | cons y ys ihy =>
        intro i a1 t hd hi ht ht'
        obtain ⟨d1, d2, _, d4⟩ := dropAt hd
        have hy : y ∈ e.kids := by
          have : y ∈ e.kids.drop i := by rw [hd]; exact .head _
          exact List.mem_of_mem_drop this
        rw [l62_5_eq, if_pos (by omega), d2, Option.bind_some, ih y hy (okEs_mem k6 y hy) t ht ht', Option.bind_some]
        have e0 : WL (y :: ys) = W y + WL ys := rfl
        by_cases hneg : t < (W y : Int)
        · rw [less_neg hneg, if_pos (by omega), e0, less_neg (by omega)]
        · rw [less_pos (by omega), if_neg (by omega), wrN (by omega), ihy (i + 1) a1 _ d4 (by omega) (by omega) (by omega), e0, ← less_pos (w := W y) (n := t) (by omega), less_less]
    have hkids : ∀ t : Int, 0 ≤ t → t ≤ 1048576 → n62 e.kids t = some (less t (e.kids.length + WL e.kids)) := by
      intro t ht ht'
      rw [n62_eq, wrap64 (by omega) (by omega)]
      by_cases hneg : t < (e.kids.length : Int)
      · rw [if_pos (by omega), less_neg (by omega)]
      · rw [if_neg (by omega)]
        have := loop e.kids 0 t (t - (e.kids.length : Int)) rfl (by omega) (by omega) (by omega)
        rw [show ((0 : Nat) : Int) = 0 from rfl] at this
        rw [this, ← less_pos (w := e.kids.length) (n := t) (by omega), less_less]
    rw [n27_eq, wrap64 (n := l - _) (by omega) (by omega), W_eq]
    by_cases n1 : l < (e.name.size : Int)
    · rw [if_pos (by omega), less_neg (by omega)]
    rw [if_neg (by omega), wrap64 (n := l - _ - _) (by omega) (by omega)]
    by_cases n2 : l - e.name.size < (e.mod.size : Int)
    · rw [if_pos (by omega), less_neg (by omega)]
    rw [if_neg (by omega), hkids _ (by omega) (by omega), Option.bind_some]
    by_cases n3 : l - e.name.size - e.mod.size < ((e.kids.length + WL e.kids : Nat) : Int)
    · rw [less_neg n3, if_pos (by omega), less_neg (by omega)]
    · rw [less_pos (by omega), if_neg (by omega), less_pos (by omega)]
      congr 1; omega

/-! ### a copy -/
theorem to_ok : ∀ (e : TreeExpr), W e ≤ 1048576 → n29 e = some e := by
  intro e
  induction e using tree_ind with
  | h e ih =>
    intro hw
    rw [W_eq] at hw
    have loop : ∀ (ys : List TreeExpr) (i : Nat) (r : List TreeExpr), e.kids.drop i = ys → i ≤ e.kids.length → r.length = e.kids.length → r.take i = e.kids.take i → l65_3 e.kids (i : Int) r = some e.kids := by
      intro ys
      induction ys with
      | nil =>
        intro i r hd hi hr ht
        have := dropEnd hd
        rw [l65_3_eq, if_neg (by omega)]
        have h1 : i = e.kids.length := by omega
        subst h1
        rw [List.take_length] at ht
        rw [← ht, ← hr, List.take_length]
      | cons y ys ihy =>
        intro i r hd hi hr ht
        obtain ⟨d1, d2, d3, d4⟩ := dropAt hd
        have hy : y ∈ e.kids := by
          have : y ∈ e.kids.drop i := by rw [hd]; exact .head _
          exact List.mem_of_mem_drop this
        have hwy := WL_mem (es := e.kids) y hy
        have hri : i < r.length := by omega
        have g1 : getI r (i : Int) = some r[i] := by
          unfold getI; rw [if_pos (by omega), Int.toNat_natCast, List.getElem?_eq_getElem hri]
        rw [l65_3_eq, if_pos (by omega), d2, Option.bind_some, ih y hy (by omega), Option.bind_some, g1, Option.bind_some, Int.toNat_natCast, List.getElem?_eq_getElem hri, Option.bind_some, wrN (by omega)]
        refine ihy (i + 1) _ d4 (by omega) (by rw [List.length_set]; exact hr) ?_
        have hl : e.kids[i]? = some y := d3
        rw [List.take_add_one, List.take_add_one, List.getElem?_set_self hri, hl, List.take_set_of_le (Nat.le_refl i), ht]
    rw [n29_eq, n65_eq, if_pos ⟨by omega, by omega, by omega⟩]
    have := loop e.kids 0 (List.replicate e.kids.length (TreeExpr.mk 0 0 ByteArray.empty ByteArray.empty [])) rfl (by omega) (by simp) (by simp)
    rw [show ((0 : Nat) : Int) = 0 from rfl] at this
    rw [this, Option.bind_some]
    exact congrArg some (eta_TreeExpr e)

/-! ### equality of one with itself -/
theorem eq_ok : ∀ (e : TreeExpr), okE e → n31 e e = some true := by
  intro e
  induction e using tree_ind with
  | h e ih =>
    intro hok
    obtain ⟨_, _, k3, k4, k5, k6⟩ := (okE_iff e).1 hok
    have loop : ∀ (ys : List TreeExpr) (i : Nat), e.kids.drop i = ys → i ≤ e.kids.length → l68_4 e.kids e.kids (i : Int) = some true := by
      intro ys
      induction ys with
      | nil =>
        intro i hd hi
        have := dropEnd hd
        rw [l68_4_eq, if_neg (by omega)]
      | cons y ys ihy =>
        intro i hd hi
        obtain ⟨d1, d2, d3, d4⟩ := dropAt hd
        have hy : y ∈ e.kids := by
          have : y ∈ e.kids.drop i := by rw [hd]; exact .head _
          exact List.mem_of_mem_drop this
        rw [l68_4_eq, if_pos (by omega), d2, Option.bind_some, Option.bind_some, ih y hy (okEs_mem k6 y hy), Option.bind_some, if_neg (by decide), wrN (by omega)]
        exact ihy (i + 1) d4 (by omega)
    have := loop e.kids 0 rfl (by omega)
    rw [show ((0 : Nat) : Int) = 0 from rfl] at this
    rw [n31_eq, n68_eq]
    simp only [decide_true, Bool.true_eq_false, if_false, this, Option.bind_some]
end Go.Fs.Se

set_option linter.unusedVariables false
set_option linter.unusedSimpArgs false
set_option maxRecDepth 40000
set_option maxHeartbeats 4000000
open Go.RowKit
namespace Go.Fs.Se
open Cel (cel unc)
open Dat (enc dec)
open Arg (ea da)
/-! loop.example/smithy/laws.markText -/
noncomputable def l44_4 (a0 : Int) (t0 : Int) (t3 : ByteArray) : Option (ByteArray) := evRAt (envOf M .x) (lvT 44) cd44 [true, true, true, false, false] (endK (β := ByteArray) M 44 .x Go.Proofs.Try.f44.results.toList) (stL 20 [(0, AV.d (D.i IntKind.i64 t0)), (3, AV.d (D.s t3))] [])
theorem n44_eq (a0 : Int) : n44 a0 = if a0 ≤ 0 then some (ByteArray.mk #[109, 48]) else l44_4 a0 a0 (ByteArray.mk #[]) := by
  rw [n44, fnO_code h44 rfl Go.Proofs.Try.func44 (c := cd44) rfl (a0, ()) rfl]
  simp (maxSteps := 60000000) (disch := first | (intros; rename_i h; cases h; done) | decide +kernel) only [evS, seS, List.map_replicate, Nat.reduceDiv, Nat.reduceMod, Nat.reduceEqDiff, reduceCtorEq, ↓reduceIte, Nat.reduceLT, Nat.reduceAdd, Nat.reduceMul, Nat.reduceSub, Nat.reduceLeDiff, Nat.reduceBEq, Int.reduceEq, Int.reduceNeg, Int.reduceToNat, Int.reduceLE, Int.reduceLT, cd44, Go.Proofs.Try.f44, h44.r, m44, lv_pl, pl44, lv44_4, l44_4]
  all_goals try simp only [rnS, seS, Nat.reduceEqDiff, reduceCtorEq, ↓reduceIte, Nat.reduceAdd, Nat.reduceLeDiff, Nat.reduceBEq, Nat.reduceMul, lv44_4]
theorem l44_4_eq (a0 : Int) (t0 : Int) (t3 : ByteArray) : l44_4 a0 t0 t3 = if 0 < t0 then if (bytesS [IntKind.u8.wrap (IntKind.i64.wrap (48 + t0.tmod 10))]).size + t3.size ≤ 9223372036854775807 then l44_4 a0 (IntKind.i64.wrap (t0.tdiv 10)) (bytesS [IntKind.u8.wrap (IntKind.i64.wrap (48 + t0.tmod 10))] ++ t3) else none else if (ByteArray.mk #[109]).size + t3.size ≤ 9223372036854775807 then some (ByteArray.mk #[109] ++ t3) else none := by
  rw [l44_4]
  simp only [evRAt, locS, cd44, Go.Proofs.Try.f44]
  rw [evR_eq]
  simp (maxSteps := 60000000) (disch := first | (intros; rename_i h; cases h; done) | decide +kernel) only [evS, seS, List.map_replicate, Nat.reduceDiv, Nat.reduceMod, Nat.reduceEqDiff, reduceCtorEq, ↓reduceIte, Nat.reduceLT, Nat.reduceAdd, Nat.reduceMul, Nat.reduceSub, Nat.reduceLeDiff, Nat.reduceBEq, Int.reduceEq, Int.reduceNeg, Int.reduceToNat, Int.reduceLE, Int.reduceLT, cd44, Go.Proofs.Try.f44, h44.r, m44, lv_pl, pl44, lv44_4, l44_4]
  all_goals try simp only [rnS, seS, Nat.reduceEqDiff, reduceCtorEq, ↓reduceIte, Nat.reduceAdd, Nat.reduceLeDiff, Nat.reduceBEq, Nat.reduceMul, lv44_4]
end Go.Fs.Se

set_option linter.unusedVariables false
set_option linter.unusedSimpArgs false
set_option maxRecDepth 40000
set_option maxHeartbeats 4000000
open Go.RowKit
namespace Go.Fs.Se
open Cel (cel unc)
open Dat (enc dec)
open Arg (ea da)
/-! loop.example/smithy/laws.markTreeExprS -/
noncomputable def l69_2 (a0 : (List TreeExpr)) (a1 : Int) (t1 : Int) (t5 : Int) (z0 : List TreeExpr) : Option (Int × (List TreeExpr)) := evRAt (envOf M (inAV (.io (enc a0)))) (lvT 69) cd69 [true, false, true, false] (endI (α := (List TreeExpr)) (β := Int) M 69 (inAV (.io (enc a0))) Go.Proofs.Try.f69.results.toList) (stL 50 [(0, AV.r 900000), (1, AV.d (D.i IntKind.i64 t1)), (5, AV.d (D.i IntKind.i64 t5))] [(900000, some (Ob.row 5 (List.map cel z0) true false 0))])
theorem n69_eq (a0 : (List TreeExpr)) (a1 : Int) : n69 a0 a1 = l69_2 a0 a1 a1 0 a0 := by
  rw [n69, fnI_code h69 Go.Proofs.Try.func69 (c := cd69) rfl (a0, a1, ()) rfl]
  simp (maxSteps := 60000000) (disch := first | (intros; rename_i h; cases h; done) | decide +kernel) only [evS, seS, List.map_replicate, Nat.reduceDiv, Nat.reduceMod, Nat.reduceEqDiff, reduceCtorEq, ↓reduceIte, Nat.reduceLT, Nat.reduceAdd, Nat.reduceMul, Nat.reduceSub, Nat.reduceLeDiff, Nat.reduceBEq, Int.reduceEq, Int.reduceNeg, Int.reduceToNat, Int.reduceLE, Int.reduceLT, cd69, Go.Proofs.Try.f69, h69.r, m69, lv_pl, pl69, c44, c69, lv69_2, l69_2]
  all_goals try simp only [rnS, seS, Nat.reduceEqDiff, reduceCtorEq, ↓reduceIte, Nat.reduceAdd, Nat.reduceLeDiff, Nat.reduceBEq, Nat.reduceMul, lv69_2]
theorem l69_2_eq (a0 : (List TreeExpr)) (a1 : Int) (t1 : Int) (t5 : Int) (z0 : List TreeExpr) : l69_2 a0 a1 t1 t5 z0 = if t5 < (↑z0.length : Int) then (getI z0 t5).bind fun y0 => z0[t5.toNat]?.bind fun y3 => (getI z0 t5).bind fun y4 => z0[t5.toNat]?.bind fun y7 => (n44 (IntKind.i64.wrap (IntKind.i64.wrap (t1 + 1) + 1))).bind fun y8 => (getI z0 t5).bind fun y9 => z0[t5.toNat]?.bind fun y12 => (n44 (IntKind.i64.wrap (IntKind.i64.wrap (IntKind.i64.wrap (t1 + 1) + 1) + 1))).bind fun y13 => (getI z0 t5).bind fun y14 => z0[t5.toNat]?.bind fun y17 => (getI z0 t5).bind fun y18 => z0[t5.toNat]?.bind fun y21 => z0[t5.toNat]?.bind fun y24 => (n69 y3.kids (IntKind.i64.wrap (IntKind.i64.wrap (IntKind.i64.wrap (IntKind.i64.wrap (t1 + 1) + 1) + 1) + 1))).bind fun y25 => l69_2 a0 a1 y25.fst (IntKind.i64.wrap (t5 + 1)) (z0.set t5.toNat (TreeExpr.mk t1 (IntKind.i64.wrap (t1 + 1)) y8 y13 y25.snd)) else some (t1, z0) := by
  rw [l69_2]
  simp only [evRAt, locS, cd69, Go.Proofs.Try.f69]
  rw [evR_eq]
  simp (maxSteps := 60000000) (disch := first | (intros; rename_i h; cases h; done) | decide +kernel) only [evS, seS, List.map_replicate, Nat.reduceDiv, Nat.reduceMod, Nat.reduceEqDiff, reduceCtorEq, ↓reduceIte, Nat.reduceLT, Nat.reduceAdd, Nat.reduceMul, Nat.reduceSub, Nat.reduceLeDiff, Nat.reduceBEq, Int.reduceEq, Int.reduceNeg, Int.reduceToNat, Int.reduceLE, Int.reduceLT, cd69, Go.Proofs.Try.f69, h69.r, m69, lv_pl, pl69, c44, c69, lv69_2, l69_2]
  all_goals try simp only [rnS, seS, Nat.reduceEqDiff, reduceCtorEq, ↓reduceIte, Nat.reduceAdd, Nat.reduceLeDiff, Nat.reduceBEq, Nat.reduceMul, lv69_2]
  all_goals try simp only [bindN_eq]
end Go.Fs.Se

set_option linter.unusedVariables false
set_option linter.unusedSimpArgs false
set_option maxRecDepth 40000
set_option maxHeartbeats 4000000
open Go.RowKit
namespace Go.Fs.Se
open Cel (cel unc)
open Dat (enc dec)
open Arg (ea da)
/-! loop.example/smithy/laws.heldTreeExprS -/
noncomputable def l70_2 (a0 : (List TreeExpr)) (a1 : Int) (t1 : Int) (t5 : Int) : Option (Int) := evRAt (envOf M .x) (lvT 70) cd70 [true, false, true, false] (endK (β := Int) M 70 .x Go.Proofs.Try.f70.results.toList) (stL 60 [(0, AV.d (D.l 5 (List.map cel a0))), (1, AV.d (D.i IntKind.i64 t1)), (5, AV.d (D.i IntKind.i64 t5))] [])
theorem n70_eq (a0 : (List TreeExpr)) (a1 : Int) : n70 a0 a1 = l70_2 a0 a1 a1 0 := by
  rw [n70, fnO_code h70 rfl Go.Proofs.Try.func70 (c := cd70) rfl (a0, a1, ()) rfl]
  simp (maxSteps := 60000000) (disch := first | (intros; rename_i h; cases h; done) | decide +kernel) only [evS, seS, List.map_replicate, Nat.reduceDiv, Nat.reduceMod, Nat.reduceEqDiff, reduceCtorEq, ↓reduceIte, Nat.reduceLT, Nat.reduceAdd, Nat.reduceMul, Nat.reduceSub, Nat.reduceLeDiff, Nat.reduceBEq, Int.reduceEq, Int.reduceNeg, Int.reduceToNat, Int.reduceLE, Int.reduceLT, cd70, Go.Proofs.Try.f70, h70.r, m70, lv_pl, pl70, c44, c70, lv70_2, l70_2]
  all_goals try simp only [rnS, seS, Nat.reduceEqDiff, reduceCtorEq, ↓reduceIte, Nat.reduceAdd, Nat.reduceLeDiff, Nat.reduceBEq, Nat.reduceMul, lv70_2]
theorem l70_2_eq (a0 : (List TreeExpr)) (a1 : Int) (t1 : Int) (t5 : Int) : l70_2 a0 a1 t1 t5 = if t5 < (↑a0.length : Int) then (getI a0 t5).bind fun y0 => if decide (y0.kind = t1) = false then some (-1) else (getI a0 t5).bind fun y1 => if decide (y1.num = IntKind.i64.wrap (t1 + 1)) = false then some (-1) else (getI a0 t5).bind fun y2 => (n44 (IntKind.i64.wrap (IntKind.i64.wrap (t1 + 1) + 1))).bind fun y3 => if decide (y2.name = y3) = false then some (-1) else (getI a0 t5).bind fun y4 => (n44 (IntKind.i64.wrap (IntKind.i64.wrap (IntKind.i64.wrap (t1 + 1) + 1) + 1))).bind fun y5 => if decide (y4.mod = y5) = false then some (-1) else (getI a0 t5).bind fun y6 => (n70 y6.kids (IntKind.i64.wrap (IntKind.i64.wrap (IntKind.i64.wrap (IntKind.i64.wrap (t1 + 1) + 1) + 1) + 1))).bind fun y7 => if y7 < 0 then some (-1) else l70_2 a0 a1 y7 (IntKind.i64.wrap (t5 + 1)) else some t1 := by
  rw [l70_2]
  simp only [evRAt, locS, cd70, Go.Proofs.Try.f70]
  rw [evR_eq]
  simp (maxSteps := 60000000) (disch := first | (intros; rename_i h; cases h; done) | decide +kernel) only [evS, seS, List.map_replicate, Nat.reduceDiv, Nat.reduceMod, Nat.reduceEqDiff, reduceCtorEq, ↓reduceIte, Nat.reduceLT, Nat.reduceAdd, Nat.reduceMul, Nat.reduceSub, Nat.reduceLeDiff, Nat.reduceBEq, Int.reduceEq, Int.reduceNeg, Int.reduceToNat, Int.reduceLE, Int.reduceLT, cd70, Go.Proofs.Try.f70, h70.r, m70, lv_pl, pl70, c44, c70, lv70_2, l70_2]
  all_goals try simp only [rnS, seS, Nat.reduceEqDiff, reduceCtorEq, ↓reduceIte, Nat.reduceAdd, Nat.reduceLeDiff, Nat.reduceBEq, Nat.reduceMul, lv70_2]
  all_goals try simp only [bindN_eq]
end Go.Fs.Se

set_option linter.unusedVariables false
set_option linter.unusedSimpArgs false
set_option maxRecDepth 40000
set_option maxHeartbeats 4000000
open Go.RowKit
namespace Go.Fs.Se
open Cel (cel unc)
open Dat (enc dec)
open Arg (ea da)
/-! loop.example/smithy/laws.markTreeExpr -/
theorem n32_eq (a0 : TreeExpr) (a1 : Int) : n32 a0 a1 = (n69 a0.kids a1).bind fun y0 => some (y0.fst, TreeExpr.mk a0.kind a0.num a0.name a0.mod y0.snd) := by
  rw [n32, fnI_code h32 Go.Proofs.Try.func32 (c := cd32) rfl (a0, a1, ()) rfl]
  simp (maxSteps := 60000000) (disch := first | (intros; rename_i h; cases h; done) | decide +kernel) only [evS, seS, List.map_replicate, Nat.reduceDiv, Nat.reduceMod, Nat.reduceEqDiff, reduceCtorEq, ↓reduceIte, Nat.reduceLT, Nat.reduceAdd, Nat.reduceMul, Nat.reduceSub, Nat.reduceLeDiff, Nat.reduceBEq, Int.reduceEq, Int.reduceNeg, Int.reduceToNat, Int.reduceLE, Int.reduceLT, cd32, Go.Proofs.Try.f32, h32.r, m32, lv_pl, pl32, c69]
  all_goals try simp only [bindN_eq]
end Go.Fs.Se

set_option linter.unusedVariables false
set_option linter.unusedSimpArgs false
set_option maxRecDepth 40000
set_option maxHeartbeats 4000000
open Go.RowKit
namespace Go.Fs.Se
open Cel (cel unc)
open Dat (enc dec)
open Arg (ea da)
/-! loop.example/smithy/laws.heldTreeExpr -/
theorem n33_eq (a0 : TreeExpr) (a1 : Int) : n33 a0 a1 = (n70 a0.kids a1).bind fun y0 => if y0 < 0 then some (-1) else some y0 := by
  rw [n33, fnO_code h33 rfl Go.Proofs.Try.func33 (c := cd33) rfl (a0, a1, ()) rfl]
  simp (maxSteps := 60000000) (disch := first | (intros; rename_i h; cases h; done) | decide +kernel) only [evS, seS, List.map_replicate, Nat.reduceDiv, Nat.reduceMod, Nat.reduceEqDiff, reduceCtorEq, ↓reduceIte, Nat.reduceLT, Nat.reduceAdd, Nat.reduceMul, Nat.reduceSub, Nat.reduceLeDiff, Nat.reduceBEq, Int.reduceEq, Int.reduceNeg, Int.reduceToNat, Int.reduceLE, Int.reduceLT, cd33, Go.Proofs.Try.f33, h33.r, m33, lv_pl, pl33, c70]
  all_goals try simp only [bindN_eq]
end Go.Fs.Se

set_option linter.unusedVariables false
namespace Go.Fs.Se
open Cel (cel unc)
open Dat (enc dec)
open Arg (ea da)
/-! ### marks -/
/-- How many places of trees are marked. -/
def CL (es : List TreeExpr) : Nat := lvLL (es.map cel)
theorem CL_nil : CL [] = 0 := rfl
theorem CL_cons (e : TreeExpr) (es : List TreeExpr) : CL (e :: es) = 4 + CL e.kids + CL es := by
  unfold CL
  rw [List.map_cons, lvLL, cel_TreeExpr]
  simp only [enc_I, enc_S, enc_L, lvL, lv]
  omega
theorem CL_le : ∀ (e : TreeExpr), CL e.kids ≤ 4 * W e := by
  intro e
  induction e using tree_ind with
  | h e ih =>
    have key : ∀ es : List TreeExpr, (∀ k ∈ es, CL k.kids ≤ 4 * W k) → CL es ≤ 4 * (es.length + WL es) := by
      intro es
      induction es with
      | nil => intro _; simp [CL_nil]
      | cons x es ihs =>
        intro h
        have h1 := h x (.head _)
        have h2 := ihs fun k hk => h k (.tail _ hk)
        rw [CL_cons, WL_cons, List.length_cons]
        omega
    have := key e.kids ih
    rw [W_eq]
    omega
theorem mt_some : ∀ (n : Nat) (t3 : ByteArray), t3.size + n ≤ 9000000000000000000 → ∀ t0 : Int, 0 ≤ t0 → t0 ≤ 4611686018427387904 → t0.toNat < 10 ^ n → ∀ a, ∃ s, l44_4 a t0 t3 = some s := by
  intro n
  induction n with
  | zero =>
    intro t3 h3 t0 h0 h1 h2 a
    have : t0 = 0 := by omega
    subst this
    rw [l44_4_eq, if_neg (by omega), if_pos (by
      have : (ByteArray.mk #[109]).size = 1 := rfl
      omega)]
    exact ⟨_, rfl⟩
  | succ n ih =>
    intro t3 h3 t0 h0 h1 h2 a
    rw [l44_4_eq]
    by_cases hp : 0 < t0
    · have hb : ∀ x, (bytesS [x]).size = 1 := fun _ => rfl
      rw [if_pos hp, hb, if_pos (by omega)]
      have hd : t0.tdiv 10 = t0 / 10 := Int.tdiv_eq_ediv_of_nonneg h0
      rw [hd, wrap64 (by omega) (by omega)]
      refine ih _ (by rw [ByteArray.size_append, hb]; omega) _ (by omega) (by omega) ?_ a
      rw [Nat.pow_succ] at h2
      omega
    · rw [if_neg hp, if_pos (by
        have : (ByteArray.mk #[109]).size = 1 := rfl
        omega)]
      exact ⟨_, rfl⟩
theorem n44_some (k : Int) (h : k ≤ 4611686018427387904) : ∃ s, n44 k = some s := by
  rw [n44_eq]
  split
  · exact ⟨_, rfl⟩
  · exact mt_some 19 _ (by decide) k (by omega) h (by omega) k
theorem mk_kids (a b : Int) (c d : ByteArray) (es : List TreeExpr) : (TreeExpr.mk a b c d es).kids = es := rfl
theorem mark_ok : ∀ (e : TreeExpr), okE e → ∀ k : Int, 0 < k → k + CL e.kids ≤ 2305843009213693952 → ∃ es', n69 e.kids k = some (k + CL e.kids, es') ∧ n70 es' k = some (k + CL e.kids) := by
  intro e
  induction e using tree_ind with
  | h e ih =>
    intro hok k hk hb
    obtain ⟨_, _, k3, k4, k5, k6⟩ := (okE_iff e).1 hok
    have loop : ∀ (ys : List TreeExpr) (i : Nat) (a0 : List TreeExpr) (a1 t : Int) (z : List TreeExpr), z.drop i = ys → (∀ y ∈ ys, y ∈ e.kids) → i ≤ z.length → z.length ≤ 140737488355328 → 0 < t → t + CL ys ≤ 2305843009213693952 →
        ∃ z', l69_2 a0 a1 t (i : Int) z = some (t + CL ys, z') ∧ z'.length = z.length ∧ z'.take i = z.take i ∧ ∀ b1, l70_2 z' b1 t (i : Int) = some (t + CL ys) := by
      intro ys
      induction ys with
      | nil =>
        intro i a0 a1 t z hd hm hi hz ht hb
        have := dropEnd hd
        refine ⟨z, ?_, rfl, rfl, fun b1 => ?_⟩
        · rw [l69_2_eq, if_neg (by omega), CL_nil]; simp
        · rw [l70_2_eq, if_neg (by omega), CL_nil]; simp
      | cons y ys ihy =>
        intro i a0 a1 t z hd hm hi hz ht hb
        obtain ⟨d1, d2, d3, d4⟩ := dropAt hd
        rw [CL_cons] at hb
        have hy := hm y (.head _)
        have w1 : IntKind.i64.wrap (t + 1) = t + 1 := wrap64 (by omega) (by omega)
        have w2 : IntKind.i64.wrap (t + 1 + 1) = t + 2 := by rw [wrap64 (by omega) (by omega)]; omega
        have w3 : IntKind.i64.wrap (t + 2 + 1) = t + 3 := by rw [wrap64 (by omega) (by omega)]; omega
        have w4 : IntKind.i64.wrap (t + 3 + 1) = t + 4 := by rw [wrap64 (by omega) (by omega)]; omega
        obtain ⟨s1, hs1⟩ := n44_some (t + 2) (by omega)
        obtain ⟨s2, hs2⟩ := n44_some (t + 3) (by omega)
        obtain ⟨ks, hk1, hk2⟩ := ih y hy (okEs_mem k6 y hy) (t + 4) (by omega) (by omega)
        have hdr : (z.set i (TreeExpr.mk t (t + 1) s1 s2 ks)).drop (i + 1) = ys := by
          rw [List.drop_set_of_lt (by omega)]; exact d4
        obtain ⟨z', r1, r2, r3, r4⟩ := ihy (i + 1) a0 a1 (t + 4 + CL y.kids) (z.set i (TreeExpr.mk t (t + 1) s1 s2 ks)) hdr (fun x hx => hm x (.tail _ hx)) (by rw [List.length_set]; omega) (by rw [List.length_set]; exact hz) (by omega) (by omega)
        rw [List.length_set] at r2
        have hget : z'[i]? = some (TreeExpr.mk t (t + 1) s1 s2 ks) := by
          have h1 : (z'.take (i + 1))[i]? = z'[i]? := by rw [List.getElem?_take, if_pos (by omega)]
          rw [← h1, r3, List.getElem?_take, if_pos (by omega), List.getElem?_set_self d1]
        have hgetI : getI z' (i : Int) = some (TreeExpr.mk t (t + 1) s1 s2 ks) := by
          unfold getI; rw [if_pos (by omega), Int.toNat_natCast, hget]
        have hsum : t + 4 + CL y.kids + CL ys = t + ((4 + CL y.kids + CL ys : Nat) : Int) := by omega
        refine ⟨z', ?_, r2, ?_, fun b1 => ?_⟩
        · rw [l69_2_eq, if_pos (by omega), CL_cons]
          simp only [d2, d3, Option.bind_some, Int.toNat_natCast, w1, w2, w3, w4, hs1, hs2, hk1, wrN (n := i) (by omega)]
          rw [r1, hsum]
        · have := congrArg (List.take i) r3
          rw [List.take_take, List.take_take, Nat.min_eq_left (by omega), List.take_set_of_le (Nat.le_refl i)] at this
          exact this
        · rw [l70_2_eq, if_pos (by omega), CL_cons]
          simp only [hgetI, Option.bind_some, w1, w2, w3, w4, hs1, hs2, hk2, decide_true, Bool.true_eq_false, if_false, wrN (n := i) (by omega)]
          rw [if_neg (by omega), r4, hsum]
    obtain ⟨z', r1, _, _, r4⟩ := loop e.kids 0 e.kids k k e.kids rfl (fun y hy => hy) (by omega) k5 hk hb
    refine ⟨z', ?_, ?_⟩
    · rw [n69_eq]; exact r1
    · rw [n70_eq]; exact r4 k
end Go.Fs.Se

set_option linter.unusedVariables false
set_option linter.unusedSimpArgs false
set_option maxRecDepth 40000
set_option maxHeartbeats 4000000
open Go.RowKit
namespace Go.Fs.Se
open Cel (cel unc)
open Dat (enc dec)
open Arg (ea da)
/-! loop.example/smithy/spec.TreeNodes -/
noncomputable def l101_4 (a0 : TreeExpr) (t4 : Int) (t5 : Int) (t6 : Int) : Option (Int × Int) := evRAt (envOf M .x) (lvT 101) cd101 [true, true, true, false, true, false] (endK (β := Int × Int) M 101 .x Go.Proofs.Try.f101.results.toList) (stL 35 [(1, AV.a 500000 0), (4, AV.d (D.i IntKind.i64 t4)), (5, AV.d (D.i IntKind.i64 t5)), (6, AV.d (D.i IntKind.i64 t6))] [(500000, some (Ob.box [AV.d (D.i IntKind.i64 a0.kind), AV.d (D.i IntKind.i64 a0.num), AV.d (D.s a0.name), AV.d (D.s a0.mod), AV.d (D.l 5 (List.map cel a0.kids))]))])
theorem n101_eq (a0 : TreeExpr) : n101 a0 = l101_4 a0 1 0 0 := by
  rw [n101, fnO_code h101 rfl Go.Proofs.Try.func101 (c := cd101) rfl (a0, ()) rfl]
  simp (maxSteps := 60000000) (disch := first | (intros; rename_i h; cases h; done) | decide +kernel) only [evS, seS, List.map_replicate, Nat.reduceDiv, Nat.reduceMod, Nat.reduceEqDiff, reduceCtorEq, ↓reduceIte, Nat.reduceLT, Nat.reduceAdd, Nat.reduceMul, Nat.reduceSub, Nat.reduceLeDiff, Nat.reduceBEq, Int.reduceEq, Int.reduceNeg, Int.reduceToNat, Int.reduceLE, Int.reduceLT, cd101, Go.Proofs.Try.f101, h101.r, m101, lv_pl, pl101, c101, lv101_4, l101_4]
  all_goals try simp only [rnS, seS, Nat.reduceEqDiff, reduceCtorEq, ↓reduceIte, Nat.reduceAdd, Nat.reduceLeDiff, Nat.reduceBEq, Nat.reduceMul, lv101_4]
theorem l101_4_eq (a0 : TreeExpr) (t4 : Int) (t5 : Int) (t6 : Int) : l101_4 a0 t4 t5 t6 = if t6 < (↑a0.kids.length : Int) then (getI a0.kids t6).bind fun y0 => (n101 y0).bind fun y1 => if t5 < y1.snd then l101_4 a0 (IntKind.i64.wrap (t4 + y1.fst)) y1.snd (IntKind.i64.wrap (t6 + 1)) else l101_4 a0 (IntKind.i64.wrap (t4 + y1.fst)) t5 (IntKind.i64.wrap (t6 + 1)) else some (t4, IntKind.i64.wrap (t5 + 1)) := by
  rw [l101_4]
  simp only [evRAt, locS, cd101, Go.Proofs.Try.f101]
  rw [evR_eq]
  simp (maxSteps := 60000000) (disch := first | (intros; rename_i h; cases h; done) | decide +kernel) only [evS, seS, List.map_replicate, Nat.reduceDiv, Nat.reduceMod, Nat.reduceEqDiff, reduceCtorEq, ↓reduceIte, Nat.reduceLT, Nat.reduceAdd, Nat.reduceMul, Nat.reduceSub, Nat.reduceLeDiff, Nat.reduceBEq, Int.reduceEq, Int.reduceNeg, Int.reduceToNat, Int.reduceLE, Int.reduceLT, cd101, Go.Proofs.Try.f101, h101.r, m101, lv_pl, pl101, c101, lv101_4, l101_4]
  all_goals try simp only [rnS, seS, Nat.reduceEqDiff, reduceCtorEq, ↓reduceIte, Nat.reduceAdd, Nat.reduceLeDiff, Nat.reduceBEq, Nat.reduceMul, lv101_4]
  all_goals try simp only [bindN_eq]
end Go.Fs.Se

set_option linter.unusedVariables false
set_option linter.unusedSimpArgs false
set_option maxRecDepth 40000
set_option maxHeartbeats 4000000
open Go.RowKit
namespace Go.Fs.Se
open Cel (cel unc)
open Dat (enc dec)
open Arg (ea da)
/-! loop.example/smithy/impl.TreeNodes -/
noncomputable def l107_3 (a0 : TreeExpr) (t4 : Int) (t5 : Int) (t13 : Int) : Option (Int × Int) := evRAt (envOf M .x) (lvT 107) cd107 [true, true, false, true, false] (endK (β := Int × Int) M 107 .x Go.Proofs.Try.f107.results.toList) (stL 32 [(4, AV.d (D.i IntKind.i64 t4)), (5, AV.d (D.i IntKind.i64 t5)), (11, AV.d (D.l 5 (List.map cel a0.kids))), (12, AV.d (D.i IntKind.i64 (↑a0.kids.length : Int))), (13, AV.d (D.i IntKind.i64 t13))] [])
theorem n107_eq (a0 : TreeExpr) : n107 a0 = l107_3 a0 1 0 0 := by
  rw [n107, fnO_code h107 rfl Go.Proofs.Try.func107 (c := cd107) rfl (a0, ()) rfl]
  simp (maxSteps := 60000000) (disch := first | (intros; rename_i h; cases h; done) | decide +kernel) only [evS, seS, List.map_replicate, Nat.reduceDiv, Nat.reduceMod, Nat.reduceEqDiff, reduceCtorEq, ↓reduceIte, Nat.reduceLT, Nat.reduceAdd, Nat.reduceMul, Nat.reduceSub, Nat.reduceLeDiff, Nat.reduceBEq, Int.reduceEq, Int.reduceNeg, Int.reduceToNat, Int.reduceLE, Int.reduceLT, cd107, Go.Proofs.Try.f107, h107.r, m107, lv_pl, pl107, c107, lv107_3, l107_3]
  all_goals try simp only [rnS, seS, Nat.reduceEqDiff, reduceCtorEq, ↓reduceIte, Nat.reduceAdd, Nat.reduceLeDiff, Nat.reduceBEq, Nat.reduceMul, lv107_3]
theorem l107_3_eq (a0 : TreeExpr) (t4 : Int) (t5 : Int) (t13 : Int) : l107_3 a0 t4 t5 t13 = if t13 < (↑a0.kids.length : Int) then (getI a0.kids t13).bind fun y0 => (n107 y0).bind fun y1 => l107_3 a0 (IntKind.i64.wrap (t4 + y1.fst)) (max t5 y1.snd) (IntKind.i64.wrap (t13 + 1)) else some (t4, IntKind.i64.wrap (t5 + 1)) := by
  rw [l107_3]
  simp only [evRAt, locS, cd107, Go.Proofs.Try.f107]
  rw [evR_eq]
  simp (maxSteps := 60000000) (disch := first | (intros; rename_i h; cases h; done) | decide +kernel) only [evS, seS, List.map_replicate, Nat.reduceDiv, Nat.reduceMod, Nat.reduceEqDiff, reduceCtorEq, ↓reduceIte, Nat.reduceLT, Nat.reduceAdd, Nat.reduceMul, Nat.reduceSub, Nat.reduceLeDiff, Nat.reduceBEq, Int.reduceEq, Int.reduceNeg, Int.reduceToNat, Int.reduceLE, Int.reduceLT, cd107, Go.Proofs.Try.f107, h107.r, m107, lv_pl, pl107, c107, lv107_3, l107_3]
  all_goals try simp only [rnS, seS, Nat.reduceEqDiff, reduceCtorEq, ↓reduceIte, Nat.reduceAdd, Nat.reduceLeDiff, Nat.reduceBEq, Nat.reduceMul, lv107_3]
  all_goals try simp only [bindN_eq]
end Go.Fs.Se

set_option linter.unusedVariables false
set_option linter.unusedSimpArgs false
set_option maxRecDepth 40000
set_option maxHeartbeats 4000000
open Go.RowKit
namespace Go.Fs.Se
open Cel (cel unc)
open Dat (enc dec)
open Arg (ea da)
/-! loop.example/smithy/spec.LexName -/
noncomputable def l85_4 (a0 : ByteArray) (t3 : Int) : Option (Bool) := evRAt (envOf M .x) (lvT 85) cd85 [true, true, false, true, false] (endK (β := Bool) M 85 .x Go.Proofs.Try.f85.results.toList) (stL 32 [(0, AV.d (D.s a0)), (3, AV.d (D.i IntKind.i64 t3))] [])
theorem n85_eq (a0 : ByteArray) : n85 a0 = bindB (if (↑a0.size : Int) < 1 ∨ 8 < (↑a0.size : Int) then some true else n124 a0) fun y0 => if y0 = true then some false else l85_4 a0 0 := by
  rw [n85, fnO_code h85 rfl Go.Proofs.Try.func85 (c := cd85) rfl (a0, ()) rfl]
  simp (maxSteps := 60000000) (disch := first | (intros; rename_i h; cases h; done) | decide +kernel) only [evS, seS, List.map_replicate, Nat.reduceDiv, Nat.reduceMod, Nat.reduceEqDiff, reduceCtorEq, ↓reduceIte, Nat.reduceLT, Nat.reduceAdd, Nat.reduceMul, Nat.reduceSub, Nat.reduceLeDiff, Nat.reduceBEq, Int.reduceEq, Int.reduceNeg, Int.reduceToNat, Int.reduceLE, Int.reduceLT, cd85, Go.Proofs.Try.f85, h85.r, m85, lv_pl, pl85, c124, lv85_4, l85_4]
  all_goals try simp only [rnS, seS, Nat.reduceEqDiff, reduceCtorEq, ↓reduceIte, Nat.reduceAdd, Nat.reduceLeDiff, Nat.reduceBEq, Nat.reduceMul, lv85_4]
theorem l85_4_eq (a0 : ByteArray) (t3 : Int) : l85_4 a0 t3 = if t3 < (↑a0.size : Int) then bindB (if 0 ≤ t3 ∧ t3 < (↑a0.size : Int) then if byteAt a0 t3 < 97 then some true else if 0 ≤ t3 ∧ t3 < (↑a0.size : Int) then some (decide (122 < byteAt a0 t3)) else none else none) fun y0 => if y0 = true then some false else l85_4 a0 (IntKind.i64.wrap (t3 + 1)) else some true := by
  rw [l85_4]
  simp only [evRAt, locS, cd85, Go.Proofs.Try.f85]
  rw [evR_eq]
  simp (maxSteps := 60000000) (disch := first | (intros; rename_i h; cases h; done) | decide +kernel) only [evS, seS, List.map_replicate, Nat.reduceDiv, Nat.reduceMod, Nat.reduceEqDiff, reduceCtorEq, ↓reduceIte, Nat.reduceLT, Nat.reduceAdd, Nat.reduceMul, Nat.reduceSub, Nat.reduceLeDiff, Nat.reduceBEq, Int.reduceEq, Int.reduceNeg, Int.reduceToNat, Int.reduceLE, Int.reduceLT, cd85, Go.Proofs.Try.f85, h85.r, m85, lv_pl, pl85, c124, lv85_4, l85_4]
  all_goals try simp only [rnS, seS, Nat.reduceEqDiff, reduceCtorEq, ↓reduceIte, Nat.reduceAdd, Nat.reduceLeDiff, Nat.reduceBEq, Nat.reduceMul, lv85_4]
end Go.Fs.Se

set_option linter.unusedVariables false
set_option linter.unusedSimpArgs false
set_option maxRecDepth 40000
set_option maxHeartbeats 4000000
open Go.RowKit
namespace Go.Fs.Se
open Cel (cel unc)
open Dat (enc dec)
open Arg (ea da)
/-! loop.example/smithy/spec.l1Kept -/
noncomputable def l124_3 (a0 : ByteArray) (t4 : Int) (r0 : List ByteArray) : Option (Bool) := evRAt (envOf M .x) (lvT 124) cd124 [true, true, false, true, false] (endK (β := Bool) M 124 .x Go.Proofs.Try.f124.results.toList) (stL 18 [(0, AV.d (D.s a0)), (3, AV.r 500000), (4, AV.d (D.i IntKind.i64 t4))] [(500000, some (Ob.row 1 (List.map cel r0) true false 0))])
theorem n124_eq (a0 : ByteArray) : n124 a0 = l124_3 a0 0 [ByteArray.mk #[117, 115, 101], ByteArray.mk #[102, 117, 110], ByteArray.mk #[112, 117, 98], ByteArray.mk #[109, 97, 105, 110], ByteArray.mk #[105, 110, 116], ByteArray.mk #[98, 111, 111, 108], ByteArray.mk #[114, 111, 119], ByteArray.mk #[105, 102], ByteArray.mk #[108, 101, 116], ByteArray.mk #[116, 114, 117, 101], ByteArray.mk #[102, 97, 108, 115, 101], ByteArray.mk #[97, 110, 100], ByteArray.mk #[111, 114], ByteArray.mk #[110, 111, 116], ByteArray.mk #[97, 116], ByteArray.mk #[108, 101, 110], ByteArray.mk #[112, 117, 116], ByteArray.mk #[106, 111, 105, 110], ByteArray.mk #[112, 114, 105, 110, 116]] := by
  rw [n124, fnO_code h124 rfl Go.Proofs.Try.func124 (c := cd124) rfl (a0, ()) rfl]
  simp (maxSteps := 60000000) (disch := first | (intros; rename_i h; cases h; done) | decide +kernel) only [evS, seS, List.map_replicate, Nat.reduceDiv, Nat.reduceMod, Nat.reduceEqDiff, reduceCtorEq, ↓reduceIte, Nat.reduceLT, Nat.reduceAdd, Nat.reduceMul, Nat.reduceSub, Nat.reduceLeDiff, Nat.reduceBEq, Int.reduceEq, Int.reduceNeg, Int.reduceToNat, Int.reduceLE, Int.reduceLT, cd124, Go.Proofs.Try.f124, h124.r, m124, lv_pl, pl124, lv124_3, l124_3]
  all_goals try simp only [rnS, seS, Nat.reduceEqDiff, reduceCtorEq, ↓reduceIte, Nat.reduceAdd, Nat.reduceLeDiff, Nat.reduceBEq, Nat.reduceMul, lv124_3]
theorem l124_3_eq (a0 : ByteArray) (t4 : Int) (r0 : List ByteArray) : l124_3 a0 t4 r0 = if t4 < (↑r0.length : Int) then (getI r0 t4).bind fun y0 => r0[t4.toNat]?.bind fun y3 => if y3 = a0 then some true else l124_3 a0 (IntKind.i64.wrap (t4 + 1)) r0 else some false := by
  rw [l124_3]
  simp only [evRAt, locS, cd124, Go.Proofs.Try.f124]
  rw [evR_eq]
  simp (maxSteps := 60000000) (disch := first | (intros; rename_i h; cases h; done) | decide +kernel) only [evS, seS, List.map_replicate, Nat.reduceDiv, Nat.reduceMod, Nat.reduceEqDiff, reduceCtorEq, ↓reduceIte, Nat.reduceLT, Nat.reduceAdd, Nat.reduceMul, Nat.reduceSub, Nat.reduceLeDiff, Nat.reduceBEq, Int.reduceEq, Int.reduceNeg, Int.reduceToNat, Int.reduceLE, Int.reduceLT, cd124, Go.Proofs.Try.f124, h124.r, m124, lv_pl, pl124, lv124_3, l124_3]
  all_goals try simp only [rnS, seS, Nat.reduceEqDiff, reduceCtorEq, ↓reduceIte, Nat.reduceAdd, Nat.reduceLeDiff, Nat.reduceBEq, Nat.reduceMul, lv124_3]
  all_goals try simp only [bindN_eq]
end Go.Fs.Se

set_option linter.unusedVariables false
set_option linter.unusedSimpArgs false
set_option maxRecDepth 40000
set_option maxHeartbeats 4000000
open Go.RowKit
namespace Go.Fs.Se
open Cel (cel unc)
open Dat (enc dec)
open Arg (ea da)
/-! loop.example/smithy/impl.LexName -/
noncomputable def l88_2 (a0 : ByteArray) (t6 : Int) : Option (Bool) := evRAt (envOf M .x) (lvT 88) cd88 [true, false, true, false] (endK (β := Bool) M 88 .x Go.Proofs.Try.f88.results.toList) (stL 28 [(0, AV.d (D.s a0)), (5, AV.d (D.i IntKind.i64 (↑a0.size : Int))), (6, AV.d (D.i IntKind.i64 t6))] [])
theorem n88_eq (a0 : ByteArray) : n88 a0 = l88_2 a0 0 := by
  rw [n88, fnO_code h88 rfl Go.Proofs.Try.func88 (c := cd88) rfl (a0, ()) rfl]
  simp (maxSteps := 60000000) (disch := first | (intros; rename_i h; cases h; done) | decide +kernel) only [evS, seS, List.map_replicate, Nat.reduceDiv, Nat.reduceMod, Nat.reduceEqDiff, reduceCtorEq, ↓reduceIte, Nat.reduceLT, Nat.reduceAdd, Nat.reduceMul, Nat.reduceSub, Nat.reduceLeDiff, Nat.reduceBEq, Int.reduceEq, Int.reduceNeg, Int.reduceToNat, Int.reduceLE, Int.reduceLT, cd88, Go.Proofs.Try.f88, h88.r, m88, lv_pl, pl88, c99, c129, lv88_2, l88_2]
  all_goals try simp only [rnS, seS, Nat.reduceEqDiff, reduceCtorEq, ↓reduceIte, Nat.reduceAdd, Nat.reduceLeDiff, Nat.reduceBEq, Nat.reduceMul, lv88_2]
theorem l88_2_eq (a0 : ByteArray) (t6 : Int) : l88_2 a0 t6 = if t6 < (↑a0.size : Int) then bindB (if 0 ≤ t6 ∧ t6 < (↑a0.size : Int) then if byteAt a0 t6 < 97 then some true else if 0 ≤ t6 ∧ t6 < (↑a0.size : Int) then some (decide (122 < byteAt a0 t6)) else none else none) fun y0 => if y0 = true then some false else l88_2 a0 (IntKind.i64.wrap (t6 + 1)) else (n99 (↑a0.size : Int) 1 8).bind fun y1 => if y1 = true then (n129 a0).bind fun y2 => some !y2 else some false := by
  rw [l88_2]
  simp only [evRAt, locS, cd88, Go.Proofs.Try.f88]
  rw [evR_eq]
  simp (maxSteps := 60000000) (disch := first | (intros; rename_i h; cases h; done) | decide +kernel) only [evS, seS, List.map_replicate, Nat.reduceDiv, Nat.reduceMod, Nat.reduceEqDiff, reduceCtorEq, ↓reduceIte, Nat.reduceLT, Nat.reduceAdd, Nat.reduceMul, Nat.reduceSub, Nat.reduceLeDiff, Nat.reduceBEq, Int.reduceEq, Int.reduceNeg, Int.reduceToNat, Int.reduceLE, Int.reduceLT, cd88, Go.Proofs.Try.f88, h88.r, m88, lv_pl, pl88, c99, c129, lv88_2, l88_2]
  all_goals try simp only [rnS, seS, Nat.reduceEqDiff, reduceCtorEq, ↓reduceIte, Nat.reduceAdd, Nat.reduceLeDiff, Nat.reduceBEq, Nat.reduceMul, lv88_2]
  all_goals try simp only [bindN_eq]
end Go.Fs.Se

set_option linter.unusedVariables false
set_option linter.unusedSimpArgs false
set_option maxRecDepth 40000
set_option maxHeartbeats 4000000
open Go.RowKit
namespace Go.Fs.Se
open Cel (cel unc)
open Dat (enc dec)
open Arg (ea da)
/-! loop.example/smithy/impl.isOwn -/
theorem n129_eq (a0 : ByteArray) : n129 a0 = n148 [ByteArray.mk #[117, 115, 101], ByteArray.mk #[102, 117, 110], ByteArray.mk #[112, 117, 98], ByteArray.mk #[109, 97, 105, 110], ByteArray.mk #[105, 110, 116], ByteArray.mk #[98, 111, 111, 108], ByteArray.mk #[114, 111, 119], ByteArray.mk #[105, 102], ByteArray.mk #[108, 101, 116], ByteArray.mk #[116, 114, 117, 101], ByteArray.mk #[102, 97, 108, 115, 101], ByteArray.mk #[97, 110, 100], ByteArray.mk #[111, 114], ByteArray.mk #[110, 111, 116], ByteArray.mk #[97, 116], ByteArray.mk #[108, 101, 110], ByteArray.mk #[112, 117, 116], ByteArray.mk #[106, 111, 105, 110], ByteArray.mk #[112, 114, 105, 110, 116]] a0 := by
  rw [n129, fnO_code h129 rfl Go.Proofs.Try.func129 (c := cd129) rfl (a0, ()) rfl]
  simp (maxSteps := 60000000) (disch := first | (intros; rename_i h; cases h; done) | decide +kernel) only [evS, seS, List.map_replicate, Nat.reduceDiv, Nat.reduceMod, Nat.reduceEqDiff, reduceCtorEq, ↓reduceIte, Nat.reduceLT, Nat.reduceAdd, Nat.reduceMul, Nat.reduceSub, Nat.reduceLeDiff, Nat.reduceBEq, Int.reduceEq, Int.reduceNeg, Int.reduceToNat, Int.reduceLE, Int.reduceLT, cd129, Go.Proofs.Try.f129, h129.r, m129, lv_pl, pl129, c148]
end Go.Fs.Se

set_option linter.unusedVariables false
set_option linter.unusedSimpArgs false
set_option maxRecDepth 40000
set_option maxHeartbeats 4000000
open Go.RowKit
namespace Go.Fs.Se
open Cel (cel unc)
open Dat (enc dec)
open Arg (ea da)
/-! slices.Contains[[]string,string] -/
theorem n148_eq (a0 : (List ByteArray)) (a1 : ByteArray) : n148 a0 a1 = (n166 a0 a1).bind fun y0 => some (decide (0 ≤ y0)) := by
  rw [n148, fnO_code h148 rfl Go.Proofs.Try.func148 (c := cd148) rfl (a0, a1, ()) rfl]
  simp (maxSteps := 60000000) (disch := first | (intros; rename_i h; cases h; done) | decide +kernel) only [evS, seS, List.map_replicate, Nat.reduceDiv, Nat.reduceMod, Nat.reduceEqDiff, reduceCtorEq, ↓reduceIte, Nat.reduceLT, Nat.reduceAdd, Nat.reduceMul, Nat.reduceSub, Nat.reduceLeDiff, Nat.reduceBEq, Int.reduceEq, Int.reduceNeg, Int.reduceToNat, Int.reduceLE, Int.reduceLT, cd148, Go.Proofs.Try.f148, h148.r, m148, lv_pl, pl148, c166]
  all_goals try simp only [bindN_eq]
end Go.Fs.Se

set_option linter.unusedVariables false
set_option linter.unusedSimpArgs false
set_option maxRecDepth 40000
set_option maxHeartbeats 4000000
open Go.RowKit
namespace Go.Fs.Se
open Cel (cel unc)
open Dat (enc dec)
open Arg (ea da)
/-! slices.Index[[]string,string] -/
noncomputable def l166_2 (a0 : (List ByteArray)) (a1 : ByteArray) (t8 : Int) : Option (Int) := evRAt (envOf M .x) (lvT 166) cd166 [true, false, true, false] (endK (β := Int) M 166 .x Go.Proofs.Try.f166.results.toList) (stL 19 [(0, AV.d (D.l 1 (List.map cel a0))), (1, AV.d (D.s a1)), (7, AV.d (D.i IntKind.i64 (↑a0.length : Int))), (8, AV.d (D.i IntKind.i64 t8))] [])
theorem n166_eq (a0 : (List ByteArray)) (a1 : ByteArray) : n166 a0 a1 = l166_2 a0 a1 0 := by
  rw [n166, fnO_code h166 rfl Go.Proofs.Try.func166 (c := cd166) rfl (a0, a1, ()) rfl]
  simp (maxSteps := 60000000) (disch := first | (intros; rename_i h; cases h; done) | decide +kernel) only [evS, seS, List.map_replicate, Nat.reduceDiv, Nat.reduceMod, Nat.reduceEqDiff, reduceCtorEq, ↓reduceIte, Nat.reduceLT, Nat.reduceAdd, Nat.reduceMul, Nat.reduceSub, Nat.reduceLeDiff, Nat.reduceBEq, Int.reduceEq, Int.reduceNeg, Int.reduceToNat, Int.reduceLE, Int.reduceLT, cd166, Go.Proofs.Try.f166, h166.r, m166, lv_pl, pl166, lv166_2, l166_2]
  all_goals try simp only [rnS, seS, Nat.reduceEqDiff, reduceCtorEq, ↓reduceIte, Nat.reduceAdd, Nat.reduceLeDiff, Nat.reduceBEq, Nat.reduceMul, lv166_2]
theorem l166_2_eq (a0 : (List ByteArray)) (a1 : ByteArray) (t8 : Int) : l166_2 a0 a1 t8 = if t8 < (↑a0.length : Int) then (getI a0 t8).bind fun y0 => if a1 = y0 then some t8 else l166_2 a0 a1 (IntKind.i64.wrap (t8 + 1)) else some (-1) := by
  rw [l166_2]
  simp only [evRAt, locS, cd166, Go.Proofs.Try.f166]
  rw [evR_eq]
  simp (maxSteps := 60000000) (disch := first | (intros; rename_i h; cases h; done) | decide +kernel) only [evS, seS, List.map_replicate, Nat.reduceDiv, Nat.reduceMod, Nat.reduceEqDiff, reduceCtorEq, ↓reduceIte, Nat.reduceLT, Nat.reduceAdd, Nat.reduceMul, Nat.reduceSub, Nat.reduceLeDiff, Nat.reduceBEq, Int.reduceEq, Int.reduceNeg, Int.reduceToNat, Int.reduceLE, Int.reduceLT, cd166, Go.Proofs.Try.f166, h166.r, m166, lv_pl, pl166, lv166_2, l166_2]
  all_goals try simp only [rnS, seS, Nat.reduceEqDiff, reduceCtorEq, ↓reduceIte, Nat.reduceAdd, Nat.reduceLeDiff, Nat.reduceBEq, Nat.reduceMul, lv166_2]
  all_goals try simp only [bindN_eq]
end Go.Fs.Se

set_option linter.unusedVariables false
set_option linter.unusedSimpArgs false
set_option maxRecDepth 40000
set_option maxHeartbeats 4000000
open Go.RowKit
namespace Go.Fs.Se
open Cel (cel unc)
open Dat (enc dec)
open Arg (ea da)
/-! loop.example/smithy/impl.inRange -/
theorem n99_eq (a0 : Int) (a1 : Int) (a2 : Int) : n99 a0 a1 a2 = some (decide (a1 ≤ a0) && decide (a0 ≤ a2)) := by
  rw [n99, fnO_code h99 rfl Go.Proofs.Try.func99 (c := cd99) rfl (a0, a1, a2, ()) rfl]
  simp (maxSteps := 60000000) (disch := first | (intros; rename_i h; cases h; done) | decide +kernel) only [evS, seS, List.map_replicate, Nat.reduceDiv, Nat.reduceMod, Nat.reduceEqDiff, reduceCtorEq, ↓reduceIte, Nat.reduceLT, Nat.reduceAdd, Nat.reduceMul, Nat.reduceSub, Nat.reduceLeDiff, Nat.reduceBEq, Int.reduceEq, Int.reduceNeg, Int.reduceToNat, Int.reduceLE, Int.reduceLT, cd99, Go.Proofs.Try.f99, h99.r, m99, lv_pl, pl99]
end Go.Fs.Se

set_option linter.unusedVariables false
set_option linter.unusedSimpArgs false
set_option maxRecDepth 40000
set_option maxHeartbeats 4000000
open Go.RowKit
namespace Go.Fs.Se
open Cel (cel unc)
open Dat (enc dec)
open Arg (ea da)
/-! loop.example/smithy/impl.isShort -/
theorem n132_eq (a0 : Int) : n132 a0 = n99 a0 (-99999999999999999) 99999999999999999 := by
  rw [n132, fnO_code h132 rfl Go.Proofs.Try.func132 (c := cd132) rfl (a0, ()) rfl]
  simp (maxSteps := 60000000) (disch := first | (intros; rename_i h; cases h; done) | decide +kernel) only [evS, seS, List.map_replicate, Nat.reduceDiv, Nat.reduceMod, Nat.reduceEqDiff, reduceCtorEq, ↓reduceIte, Nat.reduceLT, Nat.reduceAdd, Nat.reduceMul, Nat.reduceSub, Nat.reduceLeDiff, Nat.reduceBEq, Int.reduceEq, Int.reduceNeg, Int.reduceToNat, Int.reduceLE, Int.reduceLT, cd132, Go.Proofs.Try.f132, h132.r, m132, lv_pl, pl132, c99]
end Go.Fs.Se

set_option linter.unusedVariables false
set_option linter.unusedSimpArgs false
set_option maxRecDepth 40000
set_option maxHeartbeats 4000000
open Go.RowKit
namespace Go.Fs.Se
open Cel (cel unc)
open Dat (enc dec)
open Arg (ea da)
/-! loop.example/smithy/spec.l2Prim -/
noncomputable def l103_3 (a0 : ByteArray) (t4 : Int) (r0 : List ByteArray) : Option (Int) := evRAt (envOf M .x) (lvT 103) cd103 [true, true, false, true, false] (endK (β := Int) M 103 .x Go.Proofs.Try.f103.results.toList) (stL 20 [(0, AV.d (D.s a0)), (3, AV.r 500000), (4, AV.d (D.i IntKind.i64 t4))] [(500000, some (Ob.row 1 (List.map cel r0) true false 0))])
theorem n103_eq (a0 : ByteArray) : n103 a0 = n136.bind fun y0 => l103_3 a0 0 y0 := by
  rw [n103, fnO_code h103 rfl Go.Proofs.Try.func103 (c := cd103) rfl (a0, ()) rfl]
  simp (maxSteps := 60000000) (disch := first | (intros; rename_i h; cases h; done) | decide +kernel) only [evS, seS, List.map_replicate, Nat.reduceDiv, Nat.reduceMod, Nat.reduceEqDiff, reduceCtorEq, ↓reduceIte, Nat.reduceLT, Nat.reduceAdd, Nat.reduceMul, Nat.reduceSub, Nat.reduceLeDiff, Nat.reduceBEq, Int.reduceEq, Int.reduceNeg, Int.reduceToNat, Int.reduceLE, Int.reduceLT, cd103, Go.Proofs.Try.f103, h103.r, m103, lv_pl, pl103, c136, lv103_3, l103_3]
  all_goals try simp only [rnS, seS, Nat.reduceEqDiff, reduceCtorEq, ↓reduceIte, Nat.reduceAdd, Nat.reduceLeDiff, Nat.reduceBEq, Nat.reduceMul, lv103_3]
  all_goals try simp only [bindN_eq]
theorem l103_3_eq (a0 : ByteArray) (t4 : Int) (r0 : List ByteArray) : l103_3 a0 t4 r0 = if t4 < (↑r0.length : Int) then (getI r0 t4).bind fun y0 => r0[t4.toNat]?.bind fun y3 => if y3 = a0 then some (IntKind.i64.wrap (t4 + 1)) else l103_3 a0 (IntKind.i64.wrap (t4 + 1)) r0 else some 0 := by
  rw [l103_3]
  simp only [evRAt, locS, cd103, Go.Proofs.Try.f103]
  rw [evR_eq]
  simp (maxSteps := 60000000) (disch := first | (intros; rename_i h; cases h; done) | decide +kernel) only [evS, seS, List.map_replicate, Nat.reduceDiv, Nat.reduceMod, Nat.reduceEqDiff, reduceCtorEq, ↓reduceIte, Nat.reduceLT, Nat.reduceAdd, Nat.reduceMul, Nat.reduceSub, Nat.reduceLeDiff, Nat.reduceBEq, Int.reduceEq, Int.reduceNeg, Int.reduceToNat, Int.reduceLE, Int.reduceLT, cd103, Go.Proofs.Try.f103, h103.r, m103, lv_pl, pl103, c136, lv103_3, l103_3]
  all_goals try simp only [rnS, seS, Nat.reduceEqDiff, reduceCtorEq, ↓reduceIte, Nat.reduceAdd, Nat.reduceLeDiff, Nat.reduceBEq, Nat.reduceMul, lv103_3]
  all_goals try simp only [bindN_eq]
end Go.Fs.Se

set_option linter.unusedVariables false
set_option linter.unusedSimpArgs false
set_option maxRecDepth 40000
set_option maxHeartbeats 4000000
open Go.RowKit
namespace Go.Fs.Se
open Cel (cel unc)
open Dat (enc dec)
open Arg (ea da)
/-! loop.example/smithy/spec.l2Prims -/
theorem n136_eq : n136 = some [ByteArray.mk #[43], ByteArray.mk #[45], ByteArray.mk #[42], ByteArray.mk #[47], ByteArray.mk #[37], ByteArray.mk #[60], ByteArray.mk #[60, 61], ByteArray.mk #[61], ByteArray.mk #[110, 111, 116], ByteArray.mk #[97, 116], ByteArray.mk #[108, 101, 110], ByteArray.mk #[112, 117, 116], ByteArray.mk #[106, 111, 105, 110], ByteArray.mk #[112, 114, 105, 110, 116], ByteArray.mk #[97, 110, 100], ByteArray.mk #[111, 114]] := by
  rw [n136, fnO_code h136 rfl Go.Proofs.Try.func136 (c := cd136) rfl (()) rfl]
  simp (maxSteps := 60000000) (disch := first | (intros; rename_i h; cases h; done) | decide +kernel) only [evS, seS, List.map_replicate, Nat.reduceDiv, Nat.reduceMod, Nat.reduceEqDiff, reduceCtorEq, ↓reduceIte, Nat.reduceLT, Nat.reduceAdd, Nat.reduceMul, Nat.reduceSub, Nat.reduceLeDiff, Nat.reduceBEq, Int.reduceEq, Int.reduceNeg, Int.reduceToNat, Int.reduceLE, Int.reduceLT, cd136, Go.Proofs.Try.f136, h136.r, m136, lv_pl, pl136]
end Go.Fs.Se

set_option linter.unusedVariables false
set_option linter.unusedSimpArgs false
set_option maxRecDepth 40000
set_option maxHeartbeats 4000000
open Go.RowKit
namespace Go.Fs.Se
open Cel (cel unc)
open Dat (enc dec)
open Arg (ea da)
/-! loop.example/smithy/spec.TreeArity -/
theorem n155_eq (a0 : ByteArray) : n155 a0 = (n103 a0).bind fun y0 => if y0 = 0 then some (-1) else if y0 = 9 then some 1 else if y0 = 11 then some 1 else if y0 = 14 then some 1 else if y0 = 12 then some 3 else some 2 := by
  rw [n155, fnO_code h155 rfl Go.Proofs.Try.func155 (c := cd155) rfl (a0, ()) rfl]
  simp (maxSteps := 60000000) (disch := first | (intros; rename_i h; cases h; done) | decide +kernel) only [evS, seS, List.map_replicate, Nat.reduceDiv, Nat.reduceMod, Nat.reduceEqDiff, reduceCtorEq, ↓reduceIte, Nat.reduceLT, Nat.reduceAdd, Nat.reduceMul, Nat.reduceSub, Nat.reduceLeDiff, Nat.reduceBEq, Int.reduceEq, Int.reduceNeg, Int.reduceToNat, Int.reduceLE, Int.reduceLT, cd155, Go.Proofs.Try.f155, h155.r, m155, lv_pl, pl155, c103]
  all_goals try simp only [bindN_eq]
end Go.Fs.Se
