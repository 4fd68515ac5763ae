/- A part of the proof: an evaluator of the program's code over plain data, proved sound, and walks of the program's functions by it. No conditions beyond those in the theorems. -/
import Derived.Test.YtbgbnmghhmfihaaLawGp13
import Derived.Test.YtbgbnmghhmfihaaLawGp16
import Derived.Test.YtbgbnmghhmfihaaLawGp9
set_option linter.unusedVariables false
set_option linter.unusedSimpArgs false
set_option linter.constructorNameAsVariable false
set_option linter.unusedSectionVars false
set_option linter.defProp false
set_option linter.unusedVariables false
set_option linter.unusedSimpArgs false
set_option maxRecDepth 40000
set_option maxHeartbeats 4000000
open Go.RowKit
namespace Go.Fs.Se
open Cel (cel unc)
open Dat (enc dec)
open Arg (ea da)
/-! loop.example/smithy/laws.szTreeExpr -/
theorem n27_eq (a0 : TreeExpr) (a1 : Int) : n27 a0 a1 = if IntKind.i64.wrap (a1 - (↑a0.name.size : Int)) < 0 then some (-1) else if IntKind.i64.wrap (IntKind.i64.wrap (a1 - (↑a0.name.size : Int)) - (↑a0.mod.size : Int)) < 0 then some (-1) else (n62 a0.kids (IntKind.i64.wrap (IntKind.i64.wrap (a1 - (↑a0.name.size : Int)) - (↑a0.mod.size : Int)))).bind fun y0 => if y0 < 0 then some (-1) else some y0 := by
  rw [n27, fnO_code h27 rfl Go.Proofs.Try.func27 (c := cd27) rfl (a0, a1, ()) rfl]
  simp (maxSteps := 60000000) (disch := first | (intros; rename_i h; cases h; done) | decide +kernel) only [evS, seS, List.map_replicate, Nat.reduceDiv, Nat.reduceMod, Nat.reduceEqDiff, reduceCtorEq, ↓reduceIte, Nat.reduceLT, Nat.reduceAdd, Nat.reduceMul, Nat.reduceSub, Nat.reduceLeDiff, Nat.reduceBEq, Int.reduceEq, Int.reduceNeg, Int.reduceToNat, Int.reduceLE, Int.reduceLT, cd27, Go.Proofs.Try.f27, h27.r, m27, lv_pl, pl27, c62]
  all_goals try simp only [bindN_eq]
end Go.Fs.Se

set_option linter.unusedVariables false
set_option linter.unusedSimpArgs false
set_option maxRecDepth 40000
set_option maxHeartbeats 4000000
open Go.RowKit
namespace Go.Fs.Se
open Cel (cel unc)
open Dat (enc dec)
open Arg (ea da)
/-! loop.example/smithy/laws.szTreeExprS -/
noncomputable def l62_5 (a0 : (List TreeExpr)) (a1 : Int) (t1 : Int) (t5 : Int) : Option (Int) := evRAt (envOf M .x) (lvT 62) cd62 [true, true, true, false, true, false] (endK (β := Int) M 62 .x Go.Proofs.Try.f62.results.toList) (stL 27 [(0, AV.d (D.l 5 (List.map cel a0))), (1, AV.d (D.i IntKind.i64 t1)), (5, AV.d (D.i IntKind.i64 t5))] [])
theorem n62_eq (a0 : (List TreeExpr)) (a1 : Int) : n62 a0 a1 = if IntKind.i64.wrap (a1 - (↑a0.length : Int)) < 0 then some (-1) else l62_5 a0 a1 (IntKind.i64.wrap (a1 - (↑a0.length : Int))) 0 := by
  rw [n62, fnO_code h62 rfl Go.Proofs.Try.func62 (c := cd62) rfl (a0, a1, ()) rfl]
  simp (maxSteps := 60000000) (disch := first | (intros; rename_i h; cases h; done) | decide +kernel) only [evS, seS, List.map_replicate, Nat.reduceDiv, Nat.reduceMod, Nat.reduceEqDiff, reduceCtorEq, ↓reduceIte, Nat.reduceLT, Nat.reduceAdd, Nat.reduceMul, Nat.reduceSub, Nat.reduceLeDiff, Nat.reduceBEq, Int.reduceEq, Int.reduceNeg, Int.reduceToNat, Int.reduceLE, Int.reduceLT, cd62, Go.Proofs.Try.f62, h62.r, m62, lv_pl, pl62, c27, lv62_5, l62_5]
  all_goals try simp only [rnS, seS, Nat.reduceEqDiff, reduceCtorEq, ↓reduceIte, Nat.reduceAdd, Nat.reduceLeDiff, Nat.reduceBEq, Nat.reduceMul, lv62_5]
theorem l62_5_eq (a0 : (List TreeExpr)) (a1 : Int) (t1 : Int) (t5 : Int) : l62_5 a0 a1 t1 t5 = if t5 < (↑a0.length : Int) then (getI a0 t5).bind fun y0 => (n27 y0 t1).bind fun y1 => if y1 < 0 then some (-1) else l62_5 a0 a1 y1 (IntKind.i64.wrap (t5 + 1)) else some t1 := by
  rw [l62_5]
  simp only [evRAt, locS, cd62, Go.Proofs.Try.f62]
  rw [evR_eq]
  simp (maxSteps := 60000000) (disch := first | (intros; rename_i h; cases h; done) | decide +kernel) only [evS, seS, List.map_replicate, Nat.reduceDiv, Nat.reduceMod, Nat.reduceEqDiff, reduceCtorEq, ↓reduceIte, Nat.reduceLT, Nat.reduceAdd, Nat.reduceMul, Nat.reduceSub, Nat.reduceLeDiff, Nat.reduceBEq, Int.reduceEq, Int.reduceNeg, Int.reduceToNat, Int.reduceLE, Int.reduceLT, cd62, Go.Proofs.Try.f62, h62.r, m62, lv_pl, pl62, c27, lv62_5, l62_5]
  all_goals try simp only [rnS, seS, Nat.reduceEqDiff, reduceCtorEq, ↓reduceIte, Nat.reduceAdd, Nat.reduceLeDiff, Nat.reduceBEq, Nat.reduceMul, lv62_5]
  all_goals try simp only [bindN_eq]
end Go.Fs.Se

set_option linter.unusedVariables false
set_option linter.unusedSimpArgs false
set_option maxRecDepth 40000
set_option maxHeartbeats 4000000
open Go.RowKit
namespace Go.Fs.Se
open Cel (cel unc)
open Dat (enc dec)
open Arg (ea da)
/-! loop.example/smithy/laws.toTreeExpr -/
theorem n29_eq (a0 : TreeExpr) : n29 a0 = (n65 a0.kids).bind fun y0 => some (TreeExpr.mk a0.kind a0.num a0.name a0.mod y0) := by
  rw [n29, fnO_code h29 rfl Go.Proofs.Try.func29 (c := cd29) rfl (a0, ()) rfl]
  simp (maxSteps := 60000000) (disch := first | (intros; rename_i h; cases h; done) | decide +kernel) only [evS, seS, List.map_replicate, Nat.reduceDiv, Nat.reduceMod, Nat.reduceEqDiff, reduceCtorEq, ↓reduceIte, Nat.reduceLT, Nat.reduceAdd, Nat.reduceMul, Nat.reduceSub, Nat.reduceLeDiff, Nat.reduceBEq, Int.reduceEq, Int.reduceNeg, Int.reduceToNat, Int.reduceLE, Int.reduceLT, cd29, Go.Proofs.Try.f29, h29.r, m29, lv_pl, pl29, c65]
  all_goals try simp only [bindN_eq]
end Go.Fs.Se

set_option linter.unusedVariables false
set_option linter.unusedSimpArgs false
set_option maxRecDepth 40000
set_option maxHeartbeats 4000000
open Go.RowKit
namespace Go.Fs.Se
open Cel (cel unc)
open Dat (enc dec)
open Arg (ea da)
/-! loop.example/smithy/laws.toTreeExprS -/
noncomputable def l65_3 (a0 : (List TreeExpr)) (t4 : Int) (r0 : List TreeExpr) : Option ((List TreeExpr)) := evRAt (envOf M .x) (lvT 65) cd65 [true, true, false, true, false] (endK (β := (List TreeExpr)) M 65 .x Go.Proofs.Try.f65.results.toList) (stL 23 [(0, AV.d (D.l 5 (List.map cel a0))), (3, AV.r 500000), (4, AV.d (D.i IntKind.i64 t4))] [(500000, some (Ob.row 5 (List.map cel r0) true false 0))])
theorem n65_eq (a0 : (List TreeExpr)) : n65 a0 = if 0 ≤ (↑a0.length : Int) ∧ (↑a0.length : Int) * 72 ≤ 140737488355328 ∧ (↑a0.length : Int) ≤ 140737488355328 then l65_3 a0 0 (List.replicate a0.length (TreeExpr.mk 0 0 ByteArray.empty ByteArray.empty [])) else none := by
  rw [n65, fnO_code h65 rfl Go.Proofs.Try.func65 (c := cd65) rfl (a0, ()) rfl]
  simp (maxSteps := 60000000) (disch := first | (intros; rename_i h; cases h; done) | decide +kernel) only [evS, seS, List.map_replicate, Nat.reduceDiv, Nat.reduceMod, Nat.reduceEqDiff, reduceCtorEq, ↓reduceIte, Nat.reduceLT, Nat.reduceAdd, Nat.reduceMul, Nat.reduceSub, Nat.reduceLeDiff, Nat.reduceBEq, Int.reduceEq, Int.reduceNeg, Int.reduceToNat, Int.reduceLE, Int.reduceLT, cd65, Go.Proofs.Try.f65, h65.r, m65, lv_pl, pl65, c29, lv65_3, l65_3]
  all_goals try simp only [rnS, seS, Nat.reduceEqDiff, reduceCtorEq, ↓reduceIte, Nat.reduceAdd, Nat.reduceLeDiff, Nat.reduceBEq, Nat.reduceMul, lv65_3]
theorem l65_3_eq (a0 : (List TreeExpr)) (t4 : Int) (r0 : List TreeExpr) : l65_3 a0 t4 r0 = if t4 < (↑a0.length : Int) then (getI a0 t4).bind fun y0 => (n29 y0).bind fun y1 => (getI r0 t4).bind fun y2 => r0[t4.toNat]?.bind fun y5 => l65_3 a0 (IntKind.i64.wrap (t4 + 1)) (r0.set t4.toNat y1) else some r0 := by
  rw [l65_3]
  simp only [evRAt, locS, cd65, Go.Proofs.Try.f65]
  rw [evR_eq]
  simp (maxSteps := 60000000) (disch := first | (intros; rename_i h; cases h; done) | decide +kernel) only [evS, seS, List.map_replicate, Nat.reduceDiv, Nat.reduceMod, Nat.reduceEqDiff, reduceCtorEq, ↓reduceIte, Nat.reduceLT, Nat.reduceAdd, Nat.reduceMul, Nat.reduceSub, Nat.reduceLeDiff, Nat.reduceBEq, Int.reduceEq, Int.reduceNeg, Int.reduceToNat, Int.reduceLE, Int.reduceLT, cd65, Go.Proofs.Try.f65, h65.r, m65, lv_pl, pl65, c29, lv65_3, l65_3]
  all_goals try simp only [rnS, seS, Nat.reduceEqDiff, reduceCtorEq, ↓reduceIte, Nat.reduceAdd, Nat.reduceLeDiff, Nat.reduceBEq, Nat.reduceMul, lv65_3]
  all_goals try simp only [bindN_eq]
end Go.Fs.Se

set_option linter.unusedVariables false
set_option linter.unusedSimpArgs false
set_option maxRecDepth 40000
set_option maxHeartbeats 4000000
open Go.RowKit
namespace Go.Fs.Se
open Cel (cel unc)
open Dat (enc dec)
open Arg (ea da)
/-! loop.example/smithy/laws.eqTreeExpr -/
theorem n31_eq (a0 : TreeExpr) (a1 : TreeExpr) : n31 a0 a1 = if decide (a0.kind = a1.kind) = false then some false else if decide (a0.num = a1.num) = false then some false else if decide (a0.name = a1.name) = false then some false else if decide (a0.mod = a1.mod) = false then some false else (n68 a0.kids a1.kids).bind fun y0 => if y0 = false then some false else some true := by
  rw [n31, fnO_code h31 rfl Go.Proofs.Try.func31 (c := cd31) rfl (a0, a1, ()) rfl]
  simp (maxSteps := 60000000) (disch := first | (intros; rename_i h; cases h; done) | decide +kernel) only [evS, seS, List.map_replicate, Nat.reduceDiv, Nat.reduceMod, Nat.reduceEqDiff, reduceCtorEq, ↓reduceIte, Nat.reduceLT, Nat.reduceAdd, Nat.reduceMul, Nat.reduceSub, Nat.reduceLeDiff, Nat.reduceBEq, Int.reduceEq, Int.reduceNeg, Int.reduceToNat, Int.reduceLE, Int.reduceLT, cd31, Go.Proofs.Try.f31, h31.r, m31, lv_pl, pl31, c68]
  all_goals try simp only [bindN_eq]
end Go.Fs.Se

set_option linter.unusedVariables false
set_option linter.unusedSimpArgs false
set_option maxRecDepth 40000
set_option maxHeartbeats 4000000
open Go.RowKit
namespace Go.Fs.Se
open Cel (cel unc)
open Dat (enc dec)
open Arg (ea da)
/-! loop.example/smithy/laws.eqTreeExprS -/
noncomputable def l68_4 (a0 : (List TreeExpr)) (a1 : (List TreeExpr)) (t5 : Int) : Option (Bool) := evRAt (envOf M .x) (lvT 68) cd68 [true, true, false, true, false] (endK (β := Bool) M 68 .x Go.Proofs.Try.f68.results.toList) (stL 27 [(0, AV.d (D.l 5 (List.map cel a0))), (1, AV.d (D.l 5 (List.map cel a1))), (5, AV.d (D.i IntKind.i64 t5))] [])
theorem n68_eq (a0 : (List TreeExpr)) (a1 : (List TreeExpr)) : n68 a0 a1 = if decide ((↑a0.length : Int) = (↑a1.length : Int)) = false then some false else l68_4 a0 a1 0 := by
  rw [n68, fnO_code h68 rfl Go.Proofs.Try.func68 (c := cd68) rfl (a0, a1, ()) rfl]
  simp (maxSteps := 60000000) (disch := first | (intros; rename_i h; cases h; done) | decide +kernel) only [evS, seS, List.map_replicate, Nat.reduceDiv, Nat.reduceMod, Nat.reduceEqDiff, reduceCtorEq, ↓reduceIte, Nat.reduceLT, Nat.reduceAdd, Nat.reduceMul, Nat.reduceSub, Nat.reduceLeDiff, Nat.reduceBEq, Int.reduceEq, Int.reduceNeg, Int.reduceToNat, Int.reduceLE, Int.reduceLT, cd68, Go.Proofs.Try.f68, h68.r, m68, lv_pl, pl68, c31, lv68_4, l68_4]
  all_goals try simp only [rnS, seS, Nat.reduceEqDiff, reduceCtorEq, ↓reduceIte, Nat.reduceAdd, Nat.reduceLeDiff, Nat.reduceBEq, Nat.reduceMul, lv68_4]
theorem l68_4_eq (a0 : (List TreeExpr)) (a1 : (List TreeExpr)) (t5 : Int) : l68_4 a0 a1 t5 = if t5 < (↑a0.length : Int) then (getI a0 t5).bind fun y0 => (getI a1 t5).bind fun y1 => (n31 y0 y1).bind fun y2 => if y2 = false then some false else l68_4 a0 a1 (IntKind.i64.wrap (t5 + 1)) else some true := by
  rw [l68_4]
  simp only [evRAt, locS, cd68, Go.Proofs.Try.f68]
  rw [evR_eq]
  simp (maxSteps := 60000000) (disch := first | (intros; rename_i h; cases h; done) | decide +kernel) only [evS, seS, List.map_replicate, Nat.reduceDiv, Nat.reduceMod, Nat.reduceEqDiff, reduceCtorEq, ↓reduceIte, Nat.reduceLT, Nat.reduceAdd, Nat.reduceMul, Nat.reduceSub, Nat.reduceLeDiff, Nat.reduceBEq, Int.reduceEq, Int.reduceNeg, Int.reduceToNat, Int.reduceLE, Int.reduceLT, cd68, Go.Proofs.Try.f68, h68.r, m68, lv_pl, pl68, c31, lv68_4, l68_4]
  all_goals try simp only [rnS, seS, Nat.reduceEqDiff, reduceCtorEq, ↓reduceIte, Nat.reduceAdd, Nat.reduceLeDiff, Nat.reduceBEq, Nat.reduceMul, lv68_4]
  all_goals try simp only [bindN_eq]
end Go.Fs.Se

set_option linter.unusedVariables false
namespace Go.Fs.Se
open Cel (cel unc)
open Dat (enc dec)
open Arg (ea da)
/-! ### lists by place -/
theorem dropAt {α : Type} {xs : List α} {i : Nat} {y : α} {ys : List α} (h : xs.drop i = y :: ys) : i < xs.length ∧ getI xs (i : Int) = some y ∧ xs[i]? = some y ∧ xs.drop (i + 1) = ys := by
  have hi : i < xs.length := by
    rcases Nat.lt_or_ge i xs.length with h1 | h1
    · exact h1
    · rw [List.drop_eq_nil_of_le h1] at h; cases h
  rw [List.drop_eq_getElem_cons hi] at h
  simp only [List.cons.injEq] at h
  have e : xs[i]? = some y := by rw [List.getElem?_eq_getElem hi, h.1]
  refine ⟨hi, ?_, e, h.2⟩
  unfold getI
  rw [if_pos (by omega), Int.toNat_natCast, e]
theorem dropEnd {α : Type} {xs : List α} {i : Nat} (h : xs.drop i = []) : xs.length ≤ i := List.drop_eq_nil_iff.1 h
theorem wrN {n : Nat} (h : n ≤ 4611686018427387904) : IntKind.i64.wrap ((n : Int) + 1) = ((n + 1 : Nat) : Int) := by
  rw [wrap64 (by omega) (by omega)]; rfl
theorem getI_set' {α : Type} (xs : List α) (i : Nat) (v : α) (h : i < xs.length) : getI (xs.set i v) (i : Int) = some v := by
  unfold getI
  rw [if_pos (by omega), Int.toNat_natCast, List.getElem?_set_self h]

/-! ### trees -/
theorem tree_ind {P : TreeExpr → Prop} (h : ∀ e, (∀ k ∈ e.kids, P k) → P e) : ∀ e, P e := by
  have key : ∀ (n : Nat) (e : TreeExpr), SizeOf.sizeOf e < n → P e := by
    intro n
    induction n with
    | zero => intro e h; omega
    | succ n ih =>
      intro e he
      refine h e fun k hk => ih k ?_
      have h1 := List.sizeOf_lt_of_mem hk
      have h2 : SizeOf.sizeOf e.kids < SizeOf.sizeOf e := by cases e; simp; omega
      omega
  exact fun e => key _ e (Nat.lt_succ_self _)
/-- How much a tree holds. -/
def W (e : TreeExpr) : Nat := wtL (cel e)
def WL (es : List TreeExpr) : Nat := wtLL (es.map cel)
def okE (e : TreeExpr) : Prop := okL (cel e) = true
def okEs (es : List TreeExpr) : Prop := okLL (es.map cel) = true
theorem W_eq (e : TreeExpr) : W e = e.name.size + (e.mod.size + (e.kids.length + WL e.kids)) := by
  unfold W WL
  rw [cel_TreeExpr]
  simp only [enc_I, enc_S, enc_L, wtL, wt, List.length_map, Nat.zero_add, Nat.add_zero]
theorem WL_nil : WL [] = 0 := rfl
theorem WL_cons (e : TreeExpr) (es : List TreeExpr) : WL (e :: es) = W e + WL es := rfl
theorem okE_iff (e : TreeExpr) : okE e ↔ (-9223372036854775808 ≤ e.kind ∧ e.kind < 9223372036854775808) ∧ (-9223372036854775808 ≤ e.num ∧ e.num < 9223372036854775808) ∧ e.name.size ≤ 140737488355328 ∧ e.mod.size ≤ 140737488355328 ∧ e.kids.length ≤ 140737488355328 ∧ okEs e.kids := by
  unfold okE okEs
  rw [cel_TreeExpr]
  simp only [enc_I, enc_S, enc_L, okL_cons, okD_i, okD_s, okD_l, okL_nil, List.length_map, and_true]
theorem okEs_cons (e : TreeExpr) (es : List TreeExpr) : okEs (e :: es) ↔ okE e ∧ okEs es := by
  unfold okEs okE
  rw [List.map_cons, okLL_cons]
theorem okEs_mem {es : List TreeExpr} (h : okEs es) : ∀ k ∈ es, okE k := by
  induction es with
  | nil => intro k hk; cases hk
  | cons e es ih =>
    rw [okEs_cons] at h
    intro k hk
    cases hk with
    | head => exact h.1
    | tail _ hk => exact ih h.2 k hk
theorem WL_mem {es : List TreeExpr} : ∀ k ∈ es, W k ≤ WL es := by
  induction es with
  | nil => intro k hk; cases hk
  | cons e es ih =>
    intro k hk
    rw [WL_cons]
    cases hk with
    | head => omega
    | tail _ hk => have := ih k hk; omega
theorem less_ge {l : Int} (w : Nat) (h : -1 ≤ l) : -1 ≤ less l w ∧ (l ≤ 1048576 → less l w ≤ 1048576) := by unfold less; split <;> omega

/-! ### what is left behind a tree -/
theorem sz_ok : ∀ (e : TreeExpr), okE e → ∀ l : Int, 0 ≤ l → l ≤ 1048576 → n27 e l = some (less l (W e)) := by
  intro e
  induction e using tree_ind with
  | h e ih =>
    intro hok l h0 h1
    obtain ⟨_, _, k3, k4, k5, k6⟩ := (okE_iff e).1 hok
    have loop : ∀ (ys : List TreeExpr) (i : Nat) (a1 t : Int), e.kids.drop i = ys → i ≤ e.kids.length → 0 ≤ t → t ≤ 1048576 → l62_5 e.kids a1 t (i : Int) = some (less t (WL ys)) := by
      intro ys
      induction ys with
      | nil =>
        intro i a1 t hd hi ht ht'
        have := dropEnd hd
        rw [l62_5_eq, if_neg (by omega), WL_nil, less_pos (by omega)]
        simp
      | cons y ys ihy =>
        intro i a1 t hd hi ht ht'
        obtain ⟨d1, d2, _, d4⟩ := dropAt hd
        have hy : y ∈ e.kids := by
          have : y ∈ e.kids.drop i := by rw [hd]; exact .head _
          exact List.mem_of_mem_drop this
        rw [l62_5_eq, if_pos (by omega), d2, Option.bind_some, ih y hy (okEs_mem k6 y hy) t ht ht', Option.bind_some]
        have e0 : WL (y :: ys) = W y + WL ys := rfl
        by_cases hneg : t < (W y : Int)
        · rw [less_neg hneg, if_pos (by omega), e0, less_neg (by omega)]
        · rw [less_pos (by omega), if_neg (by omega), wrN (by omega), ihy (i + 1) a1 _ d4 (by omega) (by omega) (by omega), e0, ← less_pos (w := W y) (n := t) (by omega), less_less]
    have hkids : ∀ t : Int, 0 ≤ t → t ≤ 1048576 → n62 e.kids t = some (less t (e.kids.length + WL e.kids)) := by
      intro t ht ht'
      rw [n62_eq, wrap64 (by omega) (by omega)]
      by_cases hneg : t < (e.kids.length : Int)
      · rw [if_pos (by omega), less_neg (by omega)]
      · rw [if_neg (by omega)]
        have := loop e.kids 0 t (t - (e.kids.length : Int)) rfl (by omega) (by omega) (by omega)
        rw [show ((0 : Nat) : Int) = 0 from rfl] at this
        rw [this, ← less_pos (w := e.kids.length) (n := t) (by omega), less_less]
    rw [n27_eq, wrap64 (n := l - _) (by omega) (by omega), W_eq]
    by_cases n1 : l < (e.name.size : Int)
    · rw [if_pos (by omega), less_neg (by omega)]
    rw [if_neg (by omega), wrap64 (n := l - _ - _) (by omega) (by omega)]
    by_cases n2 : l - e.name.size < (e.mod.size : Int)
    · rw [if_pos (by omega), less_neg (by omega)]
    rw [if_neg (by omega), hkids _ (by omega) (by omega), Option.bind_some]
    by_cases n3 : l - e.name.size - e.mod.size < ((e.kids.length + WL e.kids : Nat) : Int)
    · rw [less_neg n3, if_pos (by omega), less_neg (by omega)]
    · rw [less_pos (by omega), if_neg (by omega), less_pos (by omega)]
      congr 1; omega

/-! ### a copy -/
theorem to_ok : ∀ (e : TreeExpr), W e ≤ 1048576 → n29 e = some e := by
  intro e
  induction e using tree_ind with
  | h e ih =>
    intro hw
    rw [W_eq] at hw
    have loop : ∀ (ys : List TreeExpr) (i : Nat) (r : List TreeExpr), e.kids.drop i = ys → i ≤ e.kids.length → r.length = e.kids.length → r.take i = e.kids.take i → l65_3 e.kids (i : Int) r = some e.kids := by
      intro ys
      induction ys with
      | nil =>
        intro i r hd hi hr ht
        have := dropEnd hd
        rw [l65_3_eq, if_neg (by omega)]
        have h1 : i = e.kids.length := by omega
        subst h1
        rw [List.take_length] at ht
        rw [← ht, ← hr, List.take_length]
      | cons y ys ihy =>
        intro i r hd hi hr ht
        obtain ⟨d1, d2, d3, d4⟩ := dropAt hd
        have hy : y ∈ e.kids := by
          have : y ∈ e.kids.drop i := by rw [hd]; exact .head _
          exact List.mem_of_mem_drop this
        have hwy := WL_mem (es := e.kids) y hy
        have hri : i < r.length := by omega
        have g1 : getI r (i : Int) = some r[i] := by
          unfold getI; rw [if_pos (by omega), Int.toNat_natCast, List.getElem?_eq_getElem hri]
        rw [l65_3_eq, if_pos (by omega), d2, Option.bind_some, ih y hy (by omega), Option.bind_some, g1, Option.bind_some, Int.toNat_natCast, List.getElem?_eq_getElem hri, Option.bind_some, wrN (by omega)]
        refine ihy (i + 1) _ d4 (by omega) (by rw [List.length_set]; exact hr) ?_
        have hl : e.kids[i]? = some y := d3
        rw [List.take_add_one, List.take_add_one, List.getElem?_set_self hri, hl, List.take_set_of_le (Nat.le_refl i), ht]
    rw [n29_eq, n65_eq, if_pos ⟨by omega, by omega, by omega⟩]
    have := loop e.kids 0 (List.replicate e.kids.length (TreeExpr.mk 0 0 ByteArray.empty ByteArray.empty [])) rfl (by omega) (by simp) (by simp)
    rw [show ((0 : Nat) : Int) = 0 from rfl] at this
    rw [this, Option.bind_some]
    exact congrArg some (eta_TreeExpr e)

/-! ### equality of one with itself -/
theorem eq_ok : ∀ (e : TreeExpr), okE e → n31 e e = some true := by
  intro e
  induction e using tree_ind with
  | h e ih =>
    intro hok
    obtain ⟨_, _, k3, k4, k5, k6⟩ := (okE_iff e).1 hok
    have loop : ∀ (ys : List TreeExpr) (i : Nat), e.kids.drop i = ys → i ≤ e.kids.length → l68_4 e.kids e.kids (i : Int) = some true := by
      intro ys
      induction ys with
      | nil =>
        intro i hd hi
        have := dropEnd hd
        rw [l68_4_eq, if_neg (by omega)]
      | cons y ys ihy =>
        intro i hd hi
        obtain ⟨d1, d2, d3, d4⟩ := dropAt hd
        have hy : y ∈ e.kids := by
          have : y ∈ e.kids.drop i := by rw [hd]; exact .head _
          exact List.mem_of_mem_drop this
        rw [l68_4_eq, if_pos (by omega), d2, Option.bind_some, Option.bind_some, ih y hy (okEs_mem k6 y hy), Option.bind_some, if_neg (by decide), wrN (by omega)]
        exact ihy (i + 1) d4 (by omega)
    have := loop e.kids 0 rfl (by omega)
    rw [show ((0 : Nat) : Int) = 0 from rfl] at this
    rw [n31_eq, n68_eq]
    simp only [decide_true, Bool.true_eq_false, if_false, this, Option.bind_some]
end Go.Fs.Se

set_option linter.unusedVariables false
namespace Go.Fs.Se
open Cel (cel unc)
open Dat (enc dec)
open Arg (ea da)
/-! ### sizes, copies and equality of lists, whatever is in them -/
section
variable {α : Type} [Cel α]
def WC (x : α) : Nat := wtL (cel x)
def WLC (xs : List α) : Nat := wtLL (xs.map cel)
def okC (x : α) : Prop := okL (cel x) = true
def okLC (xs : List α) : Prop := okLL (xs.map cel) = true
theorem WLC_nil : WLC ([] : List α) = 0 := rfl
theorem WLC_cons (x : α) (xs : List α) : WLC (x :: xs) = WC x + WLC xs := rfl
theorem okLC_cons (x : α) (xs : List α) : okLC (x :: xs) ↔ okC x ∧ okLC xs := by unfold okLC okC; rw [List.map_cons, okLL_cons]
theorem okLC_mem {xs : List α} (h : okLC xs) : ∀ x ∈ xs, okC x := by
  induction xs with
  | nil => intro k hk; cases hk
  | cons e es ih =>
    rw [okLC_cons] at h
    intro k hk
    cases hk with
    | head => exact h.1
    | tail _ hk => exact ih h.2 k hk
theorem WLC_mem {xs : List α} : ∀ x ∈ xs, WC x ≤ WLC xs := by
  induction xs with
  | nil => intro k hk; cases hk
  | cons e es ih =>
    intro k hk
    rw [WLC_cons]
    cases hk with
    | head => omega
    | tail _ hk => have := ih k hk; omega
/-- A number that stands for what is left. -/
def LeftP (t v : Int) (w : Nat) : Prop := (v < 0 ∧ t < (w : Int)) ∨ (v = t - w ∧ (w : Int) ≤ t)
theorem LeftP.of_less {t : Int} (w : Nat) (h : 0 ≤ t) : LeftP t (less t w) w := by
  unfold LeftP less; split <;> omega
theorem LeftP.of_text {t : Int} {s : ByteArray} (h : 0 ≤ t) (h' : t ≤ 1048576) (hs : s.size ≤ 140737488355328) : LeftP t (IntKind.i64.wrap (t - (s.size : Int))) s.size := by
  rw [wrap64 (by omega) (by omega)]; unfold LeftP; omega
theorem LeftP.of_len {t : Int} {n : Nat} (h : 0 ≤ t) (h' : t ≤ 1048576) (hs : n ≤ 140737488355328) : LeftP t (IntKind.i64.wrap (t - (n : Int))) n := by
  rw [wrap64 (by omega) (by omega)]; unfold LeftP; omega
/-- One part is taken, then the others. -/
theorem left_step {t v : Int} {w rest : Nat} {K : Int → Option Int} (hv : LeftP t v w) (hK : 0 ≤ t - w → K (t - w) = some (less (t - w) rest)) : (if v < 0 then some (-1) else K v) = some (less t (w + rest)) := by
  rcases hv with ⟨h1, h2⟩ | ⟨rfl, h2⟩
  · rw [if_pos h1, less_neg (by omega)]
  · rw [if_neg (by omega), hK (by omega), ← less_pos (w := w) (n := t) h2, less_less]
theorem left_call {t : Int} {x : Option Int} {w rest : Nat} {K : Int → Option Int} (ht : 0 ≤ t) (hx : x = some (less t w)) (hK : 0 ≤ t - w → K (t - w) = some (less (t - w) rest)) : (x.bind fun y => if y < 0 then some (-1) else K y) = some (less t (w + rest)) := by
  rw [hx, Option.bind_some]
  exact left_step (LeftP.of_less w ht) hK
theorem left_end (t : Int) (h : 0 ≤ t) : some t = some (less t 0) := by rw [less_pos (by omega)]; simp
theorem sz_list (xs : List α) (L : Int → Int → Option Int) (hlen : xs.length ≤ 140737488355328) (hend : ∀ t, L t (xs.length : Int) = some t)
    (hstep : ∀ (i : Nat) (y : α) (t : Int), xs[i]? = some y → getI xs (i : Int) = some y → i < xs.length → 0 ≤ t → t ≤ 1048576 → ∃ v, LeftP t v (WC y) ∧ L t (i : Int) = if v < 0 then some (-1) else L v ((i + 1 : Nat) : Int)) :
    ∀ t : Int, 0 ≤ t → t ≤ 1048576 → L t 0 = some (less t (WLC xs)) := by
  have key : ∀ (ys : List α) (i : Nat) (t : Int), xs.drop i = ys → i ≤ xs.length → 0 ≤ t → t ≤ 1048576 → L t (i : Int) = some (less t (WLC ys)) := by
    intro ys
    induction ys with
    | nil =>
      intro i t hd hi h0 h1
      have := dropEnd hd
      have e : i = xs.length := by omega
      rw [e, hend, WLC_nil]
      exact left_end t h0
    | cons y ys ih =>
      intro i t hd hi h0 h1
      obtain ⟨d1, d2, d3, d4⟩ := dropAt hd
      obtain ⟨v, hv, e⟩ := hstep i y t d3 d2 d1 h0 h1
      rw [e, WLC_cons]
      exact left_step (K := fun v => L v ((i + 1 : Nat) : Int)) hv fun h => ih (i + 1) _ d4 (by omega) h (by omega)
  intro t h0 h1
  exact key xs 0 t rfl (by omega) h0 h1
end
theorem to_list {α : Type} (xs : List α) (L : Int → List α → Option (List α)) (hend : ∀ r, L (xs.length : Int) r = some r)
    (hstep : ∀ (i : Nat) (y : α) (r : List α), xs[i]? = some y → getI xs (i : Int) = some y → i < xs.length → r.length = xs.length → L (i : Int) r = L ((i + 1 : Nat) : Int) (r.set i y)) :
    ∀ r : List α, r.length = xs.length → L 0 r = some xs := by
  have key : ∀ (ys : List α) (i : Nat) (r : List α), xs.drop i = ys → i ≤ xs.length → r.length = xs.length → r.take i = xs.take i → L (i : Int) r = some xs := by
    intro ys
    induction ys with
    | nil =>
      intro i r hd hi hr ht
      have := dropEnd hd
      have e : i = xs.length := by omega
      subst e
      rw [hend]
      rw [List.take_length] at ht
      rw [← ht, ← hr, List.take_length]
    | cons y ys ih =>
      intro i r hd hi hr ht
      obtain ⟨d1, d2, d3, d4⟩ := dropAt hd
      rw [hstep i y r d3 d2 d1 hr]
      have hri : i < r.length := by omega
      refine ih (i + 1) _ d4 (by omega) (by rw [List.length_set]; exact hr) ?_
      rw [List.take_add_one, List.take_add_one, List.getElem?_set_self hri, d3, List.take_set_of_le (Nat.le_refl i), ht]
  exact fun r hr => key xs 0 r rfl (by omega) hr (by simp)
theorem eq_list {α : Type} (xs : List α) (L : Int → Option Bool) (hend : L (xs.length : Int) = some true)
    (hstep : ∀ (i : Nat) (y : α), xs[i]? = some y → getI xs (i : Int) = some y → i < xs.length → L (i : Int) = L ((i + 1 : Nat) : Int)) : L 0 = some true := by
  have key : ∀ (ys : List α) (i : Nat), xs.drop i = ys → i ≤ xs.length → L (i : Int) = some true := by
    intro ys
    induction ys with
    | nil =>
      intro i hd hi
      have := dropEnd hd
      have e : i = xs.length := by omega
      rw [e, hend]
    | cons y ys ih =>
      intro i hd hi
      obtain ⟨d1, d2, d3, d4⟩ := dropAt hd
      rw [hstep i y d3 d2 d1]
      exact ih (i + 1) d4 (by omega)
  exact key xs 0 rfl (by omega)
end Go.Fs.Se

set_option linter.unusedVariables false
set_option linter.unusedSimpArgs false
set_option maxRecDepth 40000
set_option maxHeartbeats 4000000
open Go.RowKit
namespace Go.Fs.Se
open Cel (cel unc)
open Dat (enc dec)
open Arg (ea da)
/-! loop.example/smithy/laws.szTreeMod -/
theorem n34_eq (a0 : TreeMod) (a1 : Int) : n34 a0 a1 = (n71 a0.uses a1).bind fun y0 => if y0 < 0 then some (-1) else (n72 a0.funs y0).bind fun y1 => if y1 < 0 then some (-1) else (n62 a0.main y1).bind fun y2 => if y2 < 0 then some (-1) else some y2 := by
  rw [n34, fnO_code h34 rfl Go.Proofs.Try.func34 (c := cd34) rfl (a0, a1, ()) rfl]
  simp (maxSteps := 60000000) (disch := first | (intros; rename_i h; cases h; done) | decide +kernel) only [evS, seS, List.map_replicate, Nat.reduceDiv, Nat.reduceMod, Nat.reduceEqDiff, reduceCtorEq, ↓reduceIte, Nat.reduceLT, Nat.reduceAdd, Nat.reduceMul, Nat.reduceSub, Nat.reduceLeDiff, Nat.reduceBEq, Int.reduceEq, Int.reduceNeg, Int.reduceToNat, Int.reduceLE, Int.reduceLT, cd34, Go.Proofs.Try.f34, h34.r, m34, lv_pl, pl34, c62, c71, c72]
  all_goals try simp only [bindN_eq]
end Go.Fs.Se

set_option linter.unusedVariables false
set_option linter.unusedSimpArgs false
set_option maxRecDepth 40000
set_option maxHeartbeats 4000000
open Go.RowKit
namespace Go.Fs.Se
open Cel (cel unc)
open Dat (enc dec)
open Arg (ea da)
/-! loop.example/smithy/laws.toTreeMod -/
theorem n36_eq (a0 : TreeMod) : n36 a0 = (n76 a0.uses).bind fun y0 => (n77 a0.funs).bind fun y1 => (n65 a0.main).bind fun y2 => some (TreeMod.mk y0 y1 y2) := by
  rw [n36, fnO_code h36 rfl Go.Proofs.Try.func36 (c := cd36) rfl (a0, ()) rfl]
  simp (maxSteps := 60000000) (disch := first | (intros; rename_i h; cases h; done) | decide +kernel) only [evS, seS, List.map_replicate, Nat.reduceDiv, Nat.reduceMod, Nat.reduceEqDiff, reduceCtorEq, ↓reduceIte, Nat.reduceLT, Nat.reduceAdd, Nat.reduceMul, Nat.reduceSub, Nat.reduceLeDiff, Nat.reduceBEq, Int.reduceEq, Int.reduceNeg, Int.reduceToNat, Int.reduceLE, Int.reduceLT, cd36, Go.Proofs.Try.f36, h36.r, m36, lv_pl, pl36, c65, c76, c77]
  all_goals try simp only [bindN_eq]
end Go.Fs.Se

set_option linter.unusedVariables false
set_option linter.unusedSimpArgs false
set_option maxRecDepth 40000
set_option maxHeartbeats 4000000
open Go.RowKit
namespace Go.Fs.Se
open Cel (cel unc)
open Dat (enc dec)
open Arg (ea da)
/-! loop.example/smithy/laws.eqTreeMod -/
theorem n38_eq (a0 : TreeMod) (a1 : TreeMod) : n38 a0 a1 = (n81 a0.uses a1.uses).bind fun y0 => if y0 = false then some false else (n82 a0.funs a1.funs).bind fun y1 => if y1 = false then some false else (n68 a0.main a1.main).bind fun y2 => if y2 = false then some false else some true := by
  rw [n38, fnO_code h38 rfl Go.Proofs.Try.func38 (c := cd38) rfl (a0, a1, ()) rfl]
  simp (maxSteps := 60000000) (disch := first | (intros; rename_i h; cases h; done) | decide +kernel) only [evS, seS, List.map_replicate, Nat.reduceDiv, Nat.reduceMod, Nat.reduceEqDiff, reduceCtorEq, ↓reduceIte, Nat.reduceLT, Nat.reduceAdd, Nat.reduceMul, Nat.reduceSub, Nat.reduceLeDiff, Nat.reduceBEq, Int.reduceEq, Int.reduceNeg, Int.reduceToNat, Int.reduceLE, Int.reduceLT, cd38, Go.Proofs.Try.f38, h38.r, m38, lv_pl, pl38, c68, c81, c82]
  all_goals try simp only [bindN_eq]
end Go.Fs.Se

set_option linter.unusedVariables false
set_option linter.unusedSimpArgs false
set_option maxRecDepth 40000
set_option maxHeartbeats 4000000
open Go.RowKit
namespace Go.Fs.Se
open Cel (cel unc)
open Dat (enc dec)
open Arg (ea da)
/-! loop.example/smithy/laws.szStringS -/
noncomputable def l71_5 (a0 : (List ByteArray)) (a1 : Int) (t1 : Int) (t5 : Int) : Option (Int) := evRAt (envOf M .x) (lvT 71) cd71 [true, true, true, false, true, false] (endK (β := Int) M 71 .x Go.Proofs.Try.f71.results.toList) (stL 28 [(0, AV.d (D.l 1 (List.map cel a0))), (1, AV.d (D.i IntKind.i64 t1)), (5, AV.d (D.i IntKind.i64 t5))] [])
theorem n71_eq (a0 : (List ByteArray)) (a1 : Int) : n71 a0 a1 = if IntKind.i64.wrap (a1 - (↑a0.length : Int)) < 0 then some (-1) else l71_5 a0 a1 (IntKind.i64.wrap (a1 - (↑a0.length : Int))) 0 := by
  rw [n71, fnO_code h71 rfl Go.Proofs.Try.func71 (c := cd71) rfl (a0, a1, ()) rfl]
  simp (maxSteps := 60000000) (disch := first | (intros; rename_i h; cases h; done) | decide +kernel) only [evS, seS, List.map_replicate, Nat.reduceDiv, Nat.reduceMod, Nat.reduceEqDiff, reduceCtorEq, ↓reduceIte, Nat.reduceLT, Nat.reduceAdd, Nat.reduceMul, Nat.reduceSub, Nat.reduceLeDiff, Nat.reduceBEq, Int.reduceEq, Int.reduceNeg, Int.reduceToNat, Int.reduceLE, Int.reduceLT, cd71, Go.Proofs.Try.f71, h71.r, m71, lv_pl, pl71, lv71_5, l71_5]
  all_goals try simp only [rnS, seS, Nat.reduceEqDiff, reduceCtorEq, ↓reduceIte, Nat.reduceAdd, Nat.reduceLeDiff, Nat.reduceBEq, Nat.reduceMul, lv71_5]
theorem l71_5_eq (a0 : (List ByteArray)) (a1 : Int) (t1 : Int) (t5 : Int) : l71_5 a0 a1 t1 t5 = if t5 < (↑a0.length : Int) then (getI a0 t5).bind fun y0 => if IntKind.i64.wrap (t1 - (↑y0.size : Int)) < 0 then some (-1) else l71_5 a0 a1 (IntKind.i64.wrap (t1 - (↑y0.size : Int))) (IntKind.i64.wrap (t5 + 1)) else some t1 := by
  rw [l71_5]
  simp only [evRAt, locS, cd71, Go.Proofs.Try.f71]
  rw [evR_eq]
  simp (maxSteps := 60000000) (disch := first | (intros; rename_i h; cases h; done) | decide +kernel) only [evS, seS, List.map_replicate, Nat.reduceDiv, Nat.reduceMod, Nat.reduceEqDiff, reduceCtorEq, ↓reduceIte, Nat.reduceLT, Nat.reduceAdd, Nat.reduceMul, Nat.reduceSub, Nat.reduceLeDiff, Nat.reduceBEq, Int.reduceEq, Int.reduceNeg, Int.reduceToNat, Int.reduceLE, Int.reduceLT, cd71, Go.Proofs.Try.f71, h71.r, m71, lv_pl, pl71, lv71_5, l71_5]
  all_goals try simp only [rnS, seS, Nat.reduceEqDiff, reduceCtorEq, ↓reduceIte, Nat.reduceAdd, Nat.reduceLeDiff, Nat.reduceBEq, Nat.reduceMul, lv71_5]
  all_goals try simp only [bindN_eq]
end Go.Fs.Se

set_option linter.unusedVariables false
set_option linter.unusedSimpArgs false
set_option maxRecDepth 40000
set_option maxHeartbeats 4000000
open Go.RowKit
namespace Go.Fs.Se
open Cel (cel unc)
open Dat (enc dec)
open Arg (ea da)
/-! loop.example/smithy/laws.szTreeFunS -/
noncomputable def l72_5 (a0 : (List TreeFun)) (a1 : Int) (t1 : Int) (t5 : Int) : Option (Int) := evRAt (envOf M .x) (lvT 72) cd72 [true, true, true, false, true, false] (endK (β := Int) M 72 .x Go.Proofs.Try.f72.results.toList) (stL 27 [(0, AV.d (D.l 9 (List.map cel a0))), (1, AV.d (D.i IntKind.i64 t1)), (5, AV.d (D.i IntKind.i64 t5))] [])
theorem n72_eq (a0 : (List TreeFun)) (a1 : Int) : n72 a0 a1 = if IntKind.i64.wrap (a1 - (↑a0.length : Int)) < 0 then some (-1) else l72_5 a0 a1 (IntKind.i64.wrap (a1 - (↑a0.length : Int))) 0 := by
  rw [n72, fnO_code h72 rfl Go.Proofs.Try.func72 (c := cd72) rfl (a0, a1, ()) rfl]
  simp (maxSteps := 60000000) (disch := first | (intros; rename_i h; cases h; done) | decide +kernel) only [evS, seS, List.map_replicate, Nat.reduceDiv, Nat.reduceMod, Nat.reduceEqDiff, reduceCtorEq, ↓reduceIte, Nat.reduceLT, Nat.reduceAdd, Nat.reduceMul, Nat.reduceSub, Nat.reduceLeDiff, Nat.reduceBEq, Int.reduceEq, Int.reduceNeg, Int.reduceToNat, Int.reduceLE, Int.reduceLT, cd72, Go.Proofs.Try.f72, h72.r, m72, lv_pl, pl72, c110, lv72_5, l72_5]
  all_goals try simp only [rnS, seS, Nat.reduceEqDiff, reduceCtorEq, ↓reduceIte, Nat.reduceAdd, Nat.reduceLeDiff, Nat.reduceBEq, Nat.reduceMul, lv72_5]
theorem l72_5_eq (a0 : (List TreeFun)) (a1 : Int) (t1 : Int) (t5 : Int) : l72_5 a0 a1 t1 t5 = if t5 < (↑a0.length : Int) then (getI a0 t5).bind fun y0 => (n110 y0 t1).bind fun y1 => if y1 < 0 then some (-1) else l72_5 a0 a1 y1 (IntKind.i64.wrap (t5 + 1)) else some t1 := by
  rw [l72_5]
  simp only [evRAt, locS, cd72, Go.Proofs.Try.f72]
  rw [evR_eq]
  simp (maxSteps := 60000000) (disch := first | (intros; rename_i h; cases h; done) | decide +kernel) only [evS, seS, List.map_replicate, Nat.reduceDiv, Nat.reduceMod, Nat.reduceEqDiff, reduceCtorEq, ↓reduceIte, Nat.reduceLT, Nat.reduceAdd, Nat.reduceMul, Nat.reduceSub, Nat.reduceLeDiff, Nat.reduceBEq, Int.reduceEq, Int.reduceNeg, Int.reduceToNat, Int.reduceLE, Int.reduceLT, cd72, Go.Proofs.Try.f72, h72.r, m72, lv_pl, pl72, c110, lv72_5, l72_5]
  all_goals try simp only [rnS, seS, Nat.reduceEqDiff, reduceCtorEq, ↓reduceIte, Nat.reduceAdd, Nat.reduceLeDiff, Nat.reduceBEq, Nat.reduceMul, lv72_5]
  all_goals try simp only [bindN_eq]
end Go.Fs.Se

set_option linter.unusedVariables false
set_option linter.unusedSimpArgs false
set_option maxRecDepth 40000
set_option maxHeartbeats 4000000
open Go.RowKit
namespace Go.Fs.Se
open Cel (cel unc)
open Dat (enc dec)
open Arg (ea da)
/-! loop.example/smithy/laws.toStringS -/
noncomputable def l76_3 (a0 : (List ByteArray)) (t4 : Int) (r0 : List ByteArray) : Option ((List ByteArray)) := evRAt (envOf M .x) (lvT 76) cd76 [true, true, false, true, false] (endK (β := (List ByteArray)) M 76 .x Go.Proofs.Try.f76.results.toList) (stL 22 [(0, AV.d (D.l 1 (List.map cel a0))), (3, AV.r 500000), (4, AV.d (D.i IntKind.i64 t4))] [(500000, some (Ob.row 1 (List.map cel r0) true false 0))])
theorem n76_eq (a0 : (List ByteArray)) : n76 a0 = if 0 ≤ (↑a0.length : Int) ∧ (↑a0.length : Int) * 16 ≤ 140737488355328 ∧ (↑a0.length : Int) ≤ 140737488355328 then l76_3 a0 0 (List.replicate a0.length ByteArray.empty) else none := by
  rw [n76, fnO_code h76 rfl Go.Proofs.Try.func76 (c := cd76) rfl (a0, ()) rfl]
  simp (maxSteps := 60000000) (disch := first | (intros; rename_i h; cases h; done) | decide +kernel) only [evS, seS, List.map_replicate, Nat.reduceDiv, Nat.reduceMod, Nat.reduceEqDiff, reduceCtorEq, ↓reduceIte, Nat.reduceLT, Nat.reduceAdd, Nat.reduceMul, Nat.reduceSub, Nat.reduceLeDiff, Nat.reduceBEq, Int.reduceEq, Int.reduceNeg, Int.reduceToNat, Int.reduceLE, Int.reduceLT, cd76, Go.Proofs.Try.f76, h76.r, m76, lv_pl, pl76, lv76_3, l76_3]
  all_goals try simp only [rnS, seS, Nat.reduceEqDiff, reduceCtorEq, ↓reduceIte, Nat.reduceAdd, Nat.reduceLeDiff, Nat.reduceBEq, Nat.reduceMul, lv76_3]
theorem l76_3_eq (a0 : (List ByteArray)) (t4 : Int) (r0 : List ByteArray) : l76_3 a0 t4 r0 = if t4 < (↑a0.length : Int) then (getI a0 t4).bind fun y0 => (getI r0 t4).bind fun y1 => r0[t4.toNat]?.bind fun y4 => l76_3 a0 (IntKind.i64.wrap (t4 + 1)) (r0.set t4.toNat y0) else some r0 := by
  rw [l76_3]
  simp only [evRAt, locS, cd76, Go.Proofs.Try.f76]
  rw [evR_eq]
  simp (maxSteps := 60000000) (disch := first | (intros; rename_i h; cases h; done) | decide +kernel) only [evS, seS, List.map_replicate, Nat.reduceDiv, Nat.reduceMod, Nat.reduceEqDiff, reduceCtorEq, ↓reduceIte, Nat.reduceLT, Nat.reduceAdd, Nat.reduceMul, Nat.reduceSub, Nat.reduceLeDiff, Nat.reduceBEq, Int.reduceEq, Int.reduceNeg, Int.reduceToNat, Int.reduceLE, Int.reduceLT, cd76, Go.Proofs.Try.f76, h76.r, m76, lv_pl, pl76, lv76_3, l76_3]
  all_goals try simp only [rnS, seS, Nat.reduceEqDiff, reduceCtorEq, ↓reduceIte, Nat.reduceAdd, Nat.reduceLeDiff, Nat.reduceBEq, Nat.reduceMul, lv76_3]
  all_goals try simp only [bindN_eq]
end Go.Fs.Se

set_option linter.unusedVariables false
set_option linter.unusedSimpArgs false
set_option maxRecDepth 40000
set_option maxHeartbeats 4000000
open Go.RowKit
namespace Go.Fs.Se
open Cel (cel unc)
open Dat (enc dec)
open Arg (ea da)
/-! loop.example/smithy/laws.toTreeFunS -/
noncomputable def l77_3 (a0 : (List TreeFun)) (t4 : Int) (r0 : List TreeFun) : Option ((List TreeFun)) := evRAt (envOf M .x) (lvT 77) cd77 [true, true, false, true, false] (endK (β := (List TreeFun)) M 77 .x Go.Proofs.Try.f77.results.toList) (stL 23 [(0, AV.d (D.l 9 (List.map cel a0))), (3, AV.r 500000), (4, AV.d (D.i IntKind.i64 t4))] [(500000, some (Ob.row 9 (List.map cel r0) true false 0))])
theorem n77_eq (a0 : (List TreeFun)) : n77 a0 = if 0 ≤ (↑a0.length : Int) ∧ (↑a0.length : Int) * 128 ≤ 140737488355328 ∧ (↑a0.length : Int) ≤ 140737488355328 then l77_3 a0 0 (List.replicate a0.length (TreeFun.mk ByteArray.empty false [] 0 (TreeExpr.mk 0 0 ByteArray.empty ByteArray.empty []))) else none := by
  rw [n77, fnO_code h77 rfl Go.Proofs.Try.func77 (c := cd77) rfl (a0, ()) rfl]
  simp (maxSteps := 60000000) (disch := first | (intros; rename_i h; cases h; done) | decide +kernel) only [evS, seS, List.map_replicate, Nat.reduceDiv, Nat.reduceMod, Nat.reduceEqDiff, reduceCtorEq, ↓reduceIte, Nat.reduceLT, Nat.reduceAdd, Nat.reduceMul, Nat.reduceSub, Nat.reduceLeDiff, Nat.reduceBEq, Int.reduceEq, Int.reduceNeg, Int.reduceToNat, Int.reduceLE, Int.reduceLT, cd77, Go.Proofs.Try.f77, h77.r, m77, lv_pl, pl77, c114, lv77_3, l77_3]
  all_goals try simp only [rnS, seS, Nat.reduceEqDiff, reduceCtorEq, ↓reduceIte, Nat.reduceAdd, Nat.reduceLeDiff, Nat.reduceBEq, Nat.reduceMul, lv77_3]
theorem l77_3_eq (a0 : (List TreeFun)) (t4 : Int) (r0 : List TreeFun) : l77_3 a0 t4 r0 = if t4 < (↑a0.length : Int) then (getI a0 t4).bind fun y0 => (n114 y0).bind fun y1 => (getI r0 t4).bind fun y2 => r0[t4.toNat]?.bind fun y5 => l77_3 a0 (IntKind.i64.wrap (t4 + 1)) (r0.set t4.toNat y1) else some r0 := by
  rw [l77_3]
  simp only [evRAt, locS, cd77, Go.Proofs.Try.f77]
  rw [evR_eq]
  simp (maxSteps := 60000000) (disch := first | (intros; rename_i h; cases h; done) | decide +kernel) only [evS, seS, List.map_replicate, Nat.reduceDiv, Nat.reduceMod, Nat.reduceEqDiff, reduceCtorEq, ↓reduceIte, Nat.reduceLT, Nat.reduceAdd, Nat.reduceMul, Nat.reduceSub, Nat.reduceLeDiff, Nat.reduceBEq, Int.reduceEq, Int.reduceNeg, Int.reduceToNat, Int.reduceLE, Int.reduceLT, cd77, Go.Proofs.Try.f77, h77.r, m77, lv_pl, pl77, c114, lv77_3, l77_3]
  all_goals try simp only [rnS, seS, Nat.reduceEqDiff, reduceCtorEq, ↓reduceIte, Nat.reduceAdd, Nat.reduceLeDiff, Nat.reduceBEq, Nat.reduceMul, lv77_3]
  all_goals try simp only [bindN_eq]
end Go.Fs.Se

set_option linter.unusedVariables false
set_option linter.unusedSimpArgs false
set_option maxRecDepth 40000
set_option maxHeartbeats 4000000
open Go.RowKit
namespace Go.Fs.Se
open Cel (cel unc)
open Dat (enc dec)
open Arg (ea da)
/-! loop.example/smithy/laws.eqStringS -/
noncomputable def l81_4 (a0 : (List ByteArray)) (a1 : (List ByteArray)) (t5 : Int) : Option (Bool) := evRAt (envOf M .x) (lvT 81) cd81 [true, true, false, true, false] (endK (β := Bool) M 81 .x Go.Proofs.Try.f81.results.toList) (stL 26 [(0, AV.d (D.l 1 (List.map cel a0))), (1, AV.d (D.l 1 (List.map cel a1))), (5, AV.d (D.i IntKind.i64 t5))] [])
theorem n81_eq (a0 : (List ByteArray)) (a1 : (List ByteArray)) : n81 a0 a1 = if decide ((↑a0.length : Int) = (↑a1.length : Int)) = false then some false else l81_4 a0 a1 0 := by
  rw [n81, fnO_code h81 rfl Go.Proofs.Try.func81 (c := cd81) rfl (a0, a1, ()) rfl]
  simp (maxSteps := 60000000) (disch := first | (intros; rename_i h; cases h; done) | decide +kernel) only [evS, seS, List.map_replicate, Nat.reduceDiv, Nat.reduceMod, Nat.reduceEqDiff, reduceCtorEq, ↓reduceIte, Nat.reduceLT, Nat.reduceAdd, Nat.reduceMul, Nat.reduceSub, Nat.reduceLeDiff, Nat.reduceBEq, Int.reduceEq, Int.reduceNeg, Int.reduceToNat, Int.reduceLE, Int.reduceLT, cd81, Go.Proofs.Try.f81, h81.r, m81, lv_pl, pl81, lv81_4, l81_4]
  all_goals try simp only [rnS, seS, Nat.reduceEqDiff, reduceCtorEq, ↓reduceIte, Nat.reduceAdd, Nat.reduceLeDiff, Nat.reduceBEq, Nat.reduceMul, lv81_4]
theorem l81_4_eq (a0 : (List ByteArray)) (a1 : (List ByteArray)) (t5 : Int) : l81_4 a0 a1 t5 = if t5 < (↑a0.length : Int) then (getI a0 t5).bind fun y0 => (getI a1 t5).bind fun y1 => if decide (y0 = y1) = false then some false else l81_4 a0 a1 (IntKind.i64.wrap (t5 + 1)) else some true := by
  rw [l81_4]
  simp only [evRAt, locS, cd81, Go.Proofs.Try.f81]
  rw [evR_eq]
  simp (maxSteps := 60000000) (disch := first | (intros; rename_i h; cases h; done) | decide +kernel) only [evS, seS, List.map_replicate, Nat.reduceDiv, Nat.reduceMod, Nat.reduceEqDiff, reduceCtorEq, ↓reduceIte, Nat.reduceLT, Nat.reduceAdd, Nat.reduceMul, Nat.reduceSub, Nat.reduceLeDiff, Nat.reduceBEq, Int.reduceEq, Int.reduceNeg, Int.reduceToNat, Int.reduceLE, Int.reduceLT, cd81, Go.Proofs.Try.f81, h81.r, m81, lv_pl, pl81, lv81_4, l81_4]
  all_goals try simp only [rnS, seS, Nat.reduceEqDiff, reduceCtorEq, ↓reduceIte, Nat.reduceAdd, Nat.reduceLeDiff, Nat.reduceBEq, Nat.reduceMul, lv81_4]
  all_goals try simp only [bindN_eq]
end Go.Fs.Se

set_option linter.unusedVariables false
set_option linter.unusedSimpArgs false
set_option maxRecDepth 40000
set_option maxHeartbeats 4000000
open Go.RowKit
namespace Go.Fs.Se
open Cel (cel unc)
open Dat (enc dec)
open Arg (ea da)
/-! loop.example/smithy/laws.eqTreeFunS -/
noncomputable def l82_4 (a0 : (List TreeFun)) (a1 : (List TreeFun)) (t5 : Int) : Option (Bool) := evRAt (envOf M .x) (lvT 82) cd82 [true, true, false, true, false] (endK (β := Bool) M 82 .x Go.Proofs.Try.f82.results.toList) (stL 27 [(0, AV.d (D.l 9 (List.map cel a0))), (1, AV.d (D.l 9 (List.map cel a1))), (5, AV.d (D.i IntKind.i64 t5))] [])
theorem n82_eq (a0 : (List TreeFun)) (a1 : (List TreeFun)) : n82 a0 a1 = if decide ((↑a0.length : Int) = (↑a1.length : Int)) = false then some false else l82_4 a0 a1 0 := by
  rw [n82, fnO_code h82 rfl Go.Proofs.Try.func82 (c := cd82) rfl (a0, a1, ()) rfl]
  simp (maxSteps := 60000000) (disch := first | (intros; rename_i h; cases h; done) | decide +kernel) only [evS, seS, List.map_replicate, Nat.reduceDiv, Nat.reduceMod, Nat.reduceEqDiff, reduceCtorEq, ↓reduceIte, Nat.reduceLT, Nat.reduceAdd, Nat.reduceMul, Nat.reduceSub, Nat.reduceLeDiff, Nat.reduceBEq, Int.reduceEq, Int.reduceNeg, Int.reduceToNat, Int.reduceLE, Int.reduceLT, cd82, Go.Proofs.Try.f82, h82.r, m82, lv_pl, pl82, c121, lv82_4, l82_4]
  all_goals try simp only [rnS, seS, Nat.reduceEqDiff, reduceCtorEq, ↓reduceIte, Nat.reduceAdd, Nat.reduceLeDiff, Nat.reduceBEq, Nat.reduceMul, lv82_4]
theorem l82_4_eq (a0 : (List TreeFun)) (a1 : (List TreeFun)) (t5 : Int) : l82_4 a0 a1 t5 = if t5 < (↑a0.length : Int) then (getI a0 t5).bind fun y0 => (getI a1 t5).bind fun y1 => (n121 y0 y1).bind fun y2 => if y2 = false then some false else l82_4 a0 a1 (IntKind.i64.wrap (t5 + 1)) else some true := by
  rw [l82_4]
  simp only [evRAt, locS, cd82, Go.Proofs.Try.f82]
  rw [evR_eq]
  simp (maxSteps := 60000000) (disch := first | (intros; rename_i h; cases h; done) | decide +kernel) only [evS, seS, List.map_replicate, Nat.reduceDiv, Nat.reduceMod, Nat.reduceEqDiff, reduceCtorEq, ↓reduceIte, Nat.reduceLT, Nat.reduceAdd, Nat.reduceMul, Nat.reduceSub, Nat.reduceLeDiff, Nat.reduceBEq, Int.reduceEq, Int.reduceNeg, Int.reduceToNat, Int.reduceLE, Int.reduceLT, cd82, Go.Proofs.Try.f82, h82.r, m82, lv_pl, pl82, c121, lv82_4, l82_4]
  all_goals try simp only [rnS, seS, Nat.reduceEqDiff, reduceCtorEq, ↓reduceIte, Nat.reduceAdd, Nat.reduceLeDiff, Nat.reduceBEq, Nat.reduceMul, lv82_4]
  all_goals try simp only [bindN_eq]
end Go.Fs.Se

set_option linter.unusedVariables false
set_option linter.unusedSimpArgs false
set_option maxRecDepth 40000
set_option maxHeartbeats 4000000
open Go.RowKit
namespace Go.Fs.Se
open Cel (cel unc)
open Dat (enc dec)
open Arg (ea da)
/-! loop.example/smithy/laws.szTreeFun -/
theorem n110_eq (a0 : TreeFun) (a1 : Int) : n110 a0 a1 = if IntKind.i64.wrap (a1 - (↑a0.name.size : Int)) < 0 then some (-1) else (n146 a0.args (IntKind.i64.wrap (a1 - (↑a0.name.size : Int)))).bind fun y0 => if y0 < 0 then some (-1) else (n27 a0.body y0).bind fun y1 => if y1 < 0 then some (-1) else some y1 := by
  rw [n110, fnO_code h110 rfl Go.Proofs.Try.func110 (c := cd110) rfl (a0, a1, ()) rfl]
  simp (maxSteps := 60000000) (disch := first | (intros; rename_i h; cases h; done) | decide +kernel) only [evS, seS, List.map_replicate, Nat.reduceDiv, Nat.reduceMod, Nat.reduceEqDiff, reduceCtorEq, ↓reduceIte, Nat.reduceLT, Nat.reduceAdd, Nat.reduceMul, Nat.reduceSub, Nat.reduceLeDiff, Nat.reduceBEq, Int.reduceEq, Int.reduceNeg, Int.reduceToNat, Int.reduceLE, Int.reduceLT, cd110, Go.Proofs.Try.f110, h110.r, m110, lv_pl, pl110, c27, c146]
  all_goals try simp only [bindN_eq]
end Go.Fs.Se

set_option linter.unusedVariables false
set_option linter.unusedSimpArgs false
set_option maxRecDepth 40000
set_option maxHeartbeats 4000000
open Go.RowKit
namespace Go.Fs.Se
open Cel (cel unc)
open Dat (enc dec)
open Arg (ea da)
/-! loop.example/smithy/laws.toTreeFun -/
theorem n114_eq (a0 : TreeFun) : n114 a0 = (n147 a0.args).bind fun y0 => (n29 a0.body).bind fun y1 => some (TreeFun.mk a0.name a0.pub y0 a0.type y1) := by
  rw [n114, fnO_code h114 rfl Go.Proofs.Try.func114 (c := cd114) rfl (a0, ()) rfl]
  simp (maxSteps := 60000000) (disch := first | (intros; rename_i h; cases h; done) | decide +kernel) only [evS, seS, List.map_replicate, Nat.reduceDiv, Nat.reduceMod, Nat.reduceEqDiff, reduceCtorEq, ↓reduceIte, Nat.reduceLT, Nat.reduceAdd, Nat.reduceMul, Nat.reduceSub, Nat.reduceLeDiff, Nat.reduceBEq, Int.reduceEq, Int.reduceNeg, Int.reduceToNat, Int.reduceLE, Int.reduceLT, cd114, Go.Proofs.Try.f114, h114.r, m114, lv_pl, pl114, c29, c147]
  all_goals try simp only [bindN_eq]
end Go.Fs.Se

set_option linter.unusedVariables false
set_option linter.unusedSimpArgs false
set_option maxRecDepth 40000
set_option maxHeartbeats 4000000
open Go.RowKit
namespace Go.Fs.Se
open Cel (cel unc)
open Dat (enc dec)
open Arg (ea da)
/-! loop.example/smithy/laws.eqTreeFun -/
theorem n121_eq (a0 : TreeFun) (a1 : TreeFun) : n121 a0 a1 = if decide (a0.name = a1.name) = false then some false else if (a0.pub == a1.pub) = false then some false else (n150 a0.args a1.args).bind fun y0 => if y0 = false then some false else if decide (a0.type = a1.type) = false then some false else (n31 a0.body a1.body).bind fun y1 => if y1 = false then some false else some true := by
  rw [n121, fnO_code h121 rfl Go.Proofs.Try.func121 (c := cd121) rfl (a0, a1, ()) rfl]
  simp (maxSteps := 60000000) (disch := first | (intros; rename_i h; cases h; done) | decide +kernel) only [evS, seS, List.map_replicate, Nat.reduceDiv, Nat.reduceMod, Nat.reduceEqDiff, reduceCtorEq, ↓reduceIte, Nat.reduceLT, Nat.reduceAdd, Nat.reduceMul, Nat.reduceSub, Nat.reduceLeDiff, Nat.reduceBEq, Int.reduceEq, Int.reduceNeg, Int.reduceToNat, Int.reduceLE, Int.reduceLT, cd121, Go.Proofs.Try.f121, h121.r, m121, lv_pl, pl121, c31, c150]
  all_goals try simp only [bindN_eq]
end Go.Fs.Se

set_option linter.unusedVariables false
set_option linter.unusedSimpArgs false
set_option maxRecDepth 40000
set_option maxHeartbeats 4000000
open Go.RowKit
namespace Go.Fs.Se
open Cel (cel unc)
open Dat (enc dec)
open Arg (ea da)
/-! loop.example/smithy/laws.szTreeArgS -/
noncomputable def l146_5 (a0 : (List TreeArg)) (a1 : Int) (t1 : Int) (t5 : Int) : Option (Int) := evRAt (envOf M .x) (lvT 146) cd146 [true, true, true, false, true, false] (endK (β := Int) M 146 .x Go.Proofs.Try.f146.results.toList) (stL 27 [(0, AV.d (D.l 2 (List.map cel a0))), (1, AV.d (D.i IntKind.i64 t1)), (5, AV.d (D.i IntKind.i64 t5))] [])
theorem n146_eq (a0 : (List TreeArg)) (a1 : Int) : n146 a0 a1 = if IntKind.i64.wrap (a1 - (↑a0.length : Int)) < 0 then some (-1) else l146_5 a0 a1 (IntKind.i64.wrap (a1 - (↑a0.length : Int))) 0 := by
  rw [n146, fnO_code h146 rfl Go.Proofs.Try.func146 (c := cd146) rfl (a0, a1, ()) rfl]
  simp (maxSteps := 60000000) (disch := first | (intros; rename_i h; cases h; done) | decide +kernel) only [evS, seS, List.map_replicate, Nat.reduceDiv, Nat.reduceMod, Nat.reduceEqDiff, reduceCtorEq, ↓reduceIte, Nat.reduceLT, Nat.reduceAdd, Nat.reduceMul, Nat.reduceSub, Nat.reduceLeDiff, Nat.reduceBEq, Int.reduceEq, Int.reduceNeg, Int.reduceToNat, Int.reduceLE, Int.reduceLT, cd146, Go.Proofs.Try.f146, h146.r, m146, lv_pl, pl146, c164, lv146_5, l146_5]
  all_goals try simp only [rnS, seS, Nat.reduceEqDiff, reduceCtorEq, ↓reduceIte, Nat.reduceAdd, Nat.reduceLeDiff, Nat.reduceBEq, Nat.reduceMul, lv146_5]
theorem l146_5_eq (a0 : (List TreeArg)) (a1 : Int) (t1 : Int) (t5 : Int) : l146_5 a0 a1 t1 t5 = if t5 < (↑a0.length : Int) then (getI a0 t5).bind fun y0 => (n164 y0 t1).bind fun y1 => if y1 < 0 then some (-1) else l146_5 a0 a1 y1 (IntKind.i64.wrap (t5 + 1)) else some t1 := by
  rw [l146_5]
  simp only [evRAt, locS, cd146, Go.Proofs.Try.f146]
  rw [evR_eq]
  simp (maxSteps := 60000000) (disch := first | (intros; rename_i h; cases h; done) | decide +kernel) only [evS, seS, List.map_replicate, Nat.reduceDiv, Nat.reduceMod, Nat.reduceEqDiff, reduceCtorEq, ↓reduceIte, Nat.reduceLT, Nat.reduceAdd, Nat.reduceMul, Nat.reduceSub, Nat.reduceLeDiff, Nat.reduceBEq, Int.reduceEq, Int.reduceNeg, Int.reduceToNat, Int.reduceLE, Int.reduceLT, cd146, Go.Proofs.Try.f146, h146.r, m146, lv_pl, pl146, c164, lv146_5, l146_5]
  all_goals try simp only [rnS, seS, Nat.reduceEqDiff, reduceCtorEq, ↓reduceIte, Nat.reduceAdd, Nat.reduceLeDiff, Nat.reduceBEq, Nat.reduceMul, lv146_5]
  all_goals try simp only [bindN_eq]
end Go.Fs.Se

set_option linter.unusedVariables false
set_option linter.unusedSimpArgs false
set_option maxRecDepth 40000
set_option maxHeartbeats 4000000
open Go.RowKit
namespace Go.Fs.Se
open Cel (cel unc)
open Dat (enc dec)
open Arg (ea da)
/-! loop.example/smithy/laws.toTreeArgS -/
noncomputable def l147_3 (a0 : (List TreeArg)) (t4 : Int) (r0 : List TreeArg) : Option ((List TreeArg)) := evRAt (envOf M .x) (lvT 147) cd147 [true, true, false, true, false] (endK (β := (List TreeArg)) M 147 .x Go.Proofs.Try.f147.results.toList) (stL 23 [(0, AV.d (D.l 2 (List.map cel a0))), (3, AV.r 500000), (4, AV.d (D.i IntKind.i64 t4))] [(500000, some (Ob.row 2 (List.map cel r0) true false 0))])
theorem n147_eq (a0 : (List TreeArg)) : n147 a0 = if 0 ≤ (↑a0.length : Int) ∧ (↑a0.length : Int) * 24 ≤ 140737488355328 ∧ (↑a0.length : Int) ≤ 140737488355328 then l147_3 a0 0 (List.replicate a0.length (TreeArg.mk ByteArray.empty 0)) else none := by
  rw [n147, fnO_code h147 rfl Go.Proofs.Try.func147 (c := cd147) rfl (a0, ()) rfl]
  simp (maxSteps := 60000000) (disch := first | (intros; rename_i h; cases h; done) | decide +kernel) only [evS, seS, List.map_replicate, Nat.reduceDiv, Nat.reduceMod, Nat.reduceEqDiff, reduceCtorEq, ↓reduceIte, Nat.reduceLT, Nat.reduceAdd, Nat.reduceMul, Nat.reduceSub, Nat.reduceLeDiff, Nat.reduceBEq, Int.reduceEq, Int.reduceNeg, Int.reduceToNat, Int.reduceLE, Int.reduceLT, cd147, Go.Proofs.Try.f147, h147.r, m147, lv_pl, pl147, c165, lv147_3, l147_3]
  all_goals try simp only [rnS, seS, Nat.reduceEqDiff, reduceCtorEq, ↓reduceIte, Nat.reduceAdd, Nat.reduceLeDiff, Nat.reduceBEq, Nat.reduceMul, lv147_3]
theorem l147_3_eq (a0 : (List TreeArg)) (t4 : Int) (r0 : List TreeArg) : l147_3 a0 t4 r0 = if t4 < (↑a0.length : Int) then (getI a0 t4).bind fun y0 => (n165 y0).bind fun y1 => (getI r0 t4).bind fun y2 => r0[t4.toNat]?.bind fun y5 => l147_3 a0 (IntKind.i64.wrap (t4 + 1)) (r0.set t4.toNat y1) else some r0 := by
  rw [l147_3]
  simp only [evRAt, locS, cd147, Go.Proofs.Try.f147]
  rw [evR_eq]
  simp (maxSteps := 60000000) (disch := first | (intros; rename_i h; cases h; done) | decide +kernel) only [evS, seS, List.map_replicate, Nat.reduceDiv, Nat.reduceMod, Nat.reduceEqDiff, reduceCtorEq, ↓reduceIte, Nat.reduceLT, Nat.reduceAdd, Nat.reduceMul, Nat.reduceSub, Nat.reduceLeDiff, Nat.reduceBEq, Int.reduceEq, Int.reduceNeg, Int.reduceToNat, Int.reduceLE, Int.reduceLT, cd147, Go.Proofs.Try.f147, h147.r, m147, lv_pl, pl147, c165, lv147_3, l147_3]
  all_goals try simp only [rnS, seS, Nat.reduceEqDiff, reduceCtorEq, ↓reduceIte, Nat.reduceAdd, Nat.reduceLeDiff, Nat.reduceBEq, Nat.reduceMul, lv147_3]
  all_goals try simp only [bindN_eq]
end Go.Fs.Se

set_option linter.unusedVariables false
set_option linter.unusedSimpArgs false
set_option maxRecDepth 40000
set_option maxHeartbeats 4000000
open Go.RowKit
namespace Go.Fs.Se
open Cel (cel unc)
open Dat (enc dec)
open Arg (ea da)
/-! loop.example/smithy/laws.eqTreeArgS -/
noncomputable def l150_4 (a0 : (List TreeArg)) (a1 : (List TreeArg)) (t5 : Int) : Option (Bool) := evRAt (envOf M .x) (lvT 150) cd150 [true, true, false, true, false] (endK (β := Bool) M 150 .x Go.Proofs.Try.f150.results.toList) (stL 27 [(0, AV.d (D.l 2 (List.map cel a0))), (1, AV.d (D.l 2 (List.map cel a1))), (5, AV.d (D.i IntKind.i64 t5))] [])
theorem n150_eq (a0 : (List TreeArg)) (a1 : (List TreeArg)) : n150 a0 a1 = if decide ((↑a0.length : Int) = (↑a1.length : Int)) = false then some false else l150_4 a0 a1 0 := by
  rw [n150, fnO_code h150 rfl Go.Proofs.Try.func150 (c := cd150) rfl (a0, a1, ()) rfl]
  simp (maxSteps := 60000000) (disch := first | (intros; rename_i h; cases h; done) | decide +kernel) only [evS, seS, List.map_replicate, Nat.reduceDiv, Nat.reduceMod, Nat.reduceEqDiff, reduceCtorEq, ↓reduceIte, Nat.reduceLT, Nat.reduceAdd, Nat.reduceMul, Nat.reduceSub, Nat.reduceLeDiff, Nat.reduceBEq, Int.reduceEq, Int.reduceNeg, Int.reduceToNat, Int.reduceLE, Int.reduceLT, cd150, Go.Proofs.Try.f150, h150.r, m150, lv_pl, pl150, c167, lv150_4, l150_4]
  all_goals try simp only [rnS, seS, Nat.reduceEqDiff, reduceCtorEq, ↓reduceIte, Nat.reduceAdd, Nat.reduceLeDiff, Nat.reduceBEq, Nat.reduceMul, lv150_4]
theorem l150_4_eq (a0 : (List TreeArg)) (a1 : (List TreeArg)) (t5 : Int) : l150_4 a0 a1 t5 = if t5 < (↑a0.length : Int) then (getI a0 t5).bind fun y0 => (getI a1 t5).bind fun y1 => (n167 y0 y1).bind fun y2 => if y2 = false then some false else l150_4 a0 a1 (IntKind.i64.wrap (t5 + 1)) else some true := by
  rw [l150_4]
  simp only [evRAt, locS, cd150, Go.Proofs.Try.f150]
  rw [evR_eq]
  simp (maxSteps := 60000000) (disch := first | (intros; rename_i h; cases h; done) | decide +kernel) only [evS, seS, List.map_replicate, Nat.reduceDiv, Nat.reduceMod, Nat.reduceEqDiff, reduceCtorEq, ↓reduceIte, Nat.reduceLT, Nat.reduceAdd, Nat.reduceMul, Nat.reduceSub, Nat.reduceLeDiff, Nat.reduceBEq, Int.reduceEq, Int.reduceNeg, Int.reduceToNat, Int.reduceLE, Int.reduceLT, cd150, Go.Proofs.Try.f150, h150.r, m150, lv_pl, pl150, c167, lv150_4, l150_4]
  all_goals try simp only [rnS, seS, Nat.reduceEqDiff, reduceCtorEq, ↓reduceIte, Nat.reduceAdd, Nat.reduceLeDiff, Nat.reduceBEq, Nat.reduceMul, lv150_4]
  all_goals try simp only [bindN_eq]
end Go.Fs.Se

set_option linter.unusedVariables false
set_option linter.unusedSimpArgs false
set_option maxRecDepth 40000
set_option maxHeartbeats 4000000
open Go.RowKit
namespace Go.Fs.Se
open Cel (cel unc)
open Dat (enc dec)
open Arg (ea da)
/-! loop.example/smithy/laws.szTreeArg -/
theorem n164_eq (a0 : TreeArg) (a1 : Int) : n164 a0 a1 = if IntKind.i64.wrap (a1 - (↑a0.name.size : Int)) < 0 then some (-1) else some (IntKind.i64.wrap (a1 - (↑a0.name.size : Int))) := by
  rw [n164, fnO_code h164 rfl Go.Proofs.Try.func164 (c := cd164) rfl (a0, a1, ()) rfl]
  simp (maxSteps := 60000000) (disch := first | (intros; rename_i h; cases h; done) | decide +kernel) only [evS, seS, List.map_replicate, Nat.reduceDiv, Nat.reduceMod, Nat.reduceEqDiff, reduceCtorEq, ↓reduceIte, Nat.reduceLT, Nat.reduceAdd, Nat.reduceMul, Nat.reduceSub, Nat.reduceLeDiff, Nat.reduceBEq, Int.reduceEq, Int.reduceNeg, Int.reduceToNat, Int.reduceLE, Int.reduceLT, cd164, Go.Proofs.Try.f164, h164.r, m164, lv_pl, pl164]
end Go.Fs.Se

set_option linter.unusedVariables false
set_option linter.unusedSimpArgs false
set_option maxRecDepth 40000
set_option maxHeartbeats 4000000
open Go.RowKit
namespace Go.Fs.Se
open Cel (cel unc)
open Dat (enc dec)
open Arg (ea da)
/-! loop.example/smithy/laws.toTreeArg -/
theorem n165_eq (a0 : TreeArg) : n165 a0 = some a0 := by
  rw [n165, fnO_code h165 rfl Go.Proofs.Try.func165 (c := cd165) rfl (a0, ()) rfl]
  simp (maxSteps := 60000000) (disch := first | (intros; rename_i h; cases h; done) | decide +kernel) only [evS, seS, List.map_replicate, Nat.reduceDiv, Nat.reduceMod, Nat.reduceEqDiff, reduceCtorEq, ↓reduceIte, Nat.reduceLT, Nat.reduceAdd, Nat.reduceMul, Nat.reduceSub, Nat.reduceLeDiff, Nat.reduceBEq, Int.reduceEq, Int.reduceNeg, Int.reduceToNat, Int.reduceLE, Int.reduceLT, cd165, Go.Proofs.Try.f165, h165.r, m165, lv_pl, pl165]
end Go.Fs.Se

set_option linter.unusedVariables false
set_option linter.unusedSimpArgs false
set_option maxRecDepth 40000
set_option maxHeartbeats 4000000
open Go.RowKit
namespace Go.Fs.Se
open Cel (cel unc)
open Dat (enc dec)
open Arg (ea da)
/-! loop.example/smithy/laws.eqTreeArg -/
theorem n167_eq (a0 : TreeArg) (a1 : TreeArg) : n167 a0 a1 = if decide (a0.name = a1.name) = false then some false else if decide (a0.type = a1.type) = false then some false else some true := by
  rw [n167, fnO_code h167 rfl Go.Proofs.Try.func167 (c := cd167) rfl (a0, a1, ()) rfl]
  simp (maxSteps := 60000000) (disch := first | (intros; rename_i h; cases h; done) | decide +kernel) only [evS, seS, List.map_replicate, Nat.reduceDiv, Nat.reduceMod, Nat.reduceEqDiff, reduceCtorEq, ↓reduceIte, Nat.reduceLT, Nat.reduceAdd, Nat.reduceMul, Nat.reduceSub, Nat.reduceLeDiff, Nat.reduceBEq, Int.reduceEq, Int.reduceNeg, Int.reduceToNat, Int.reduceLE, Int.reduceLT, cd167, Go.Proofs.Try.f167, h167.r, m167, lv_pl, pl167]
end Go.Fs.Se
