/- A part of the proof: an evaluator of the program's code over plain data, proved sound; the equations of its functions; what they compute. No conditions beyond those in the theorems. -/
import Derived.Test.YthabefiddflefaaGreatDoorP5
set_option linter.unusedVariables false
set_option linter.unusedSimpArgs false
set_option linter.constructorNameAsVariable false
set_option linter.unusedSectionVars false
set_option linter.defProp false
set_option maxRecDepth 40000
set_option maxHeartbeats 100000000
open Go.RowKit
namespace Go.Fs.Se
open Cel (cel unc)
open Dat (enc dec)
open Arg (ea da)
theorem lv36_6 : lvT 36 6 = [0, 4, 5, 6] := rfl
noncomputable def l36_6 (a0 : ByteArray) (t5 : Int) (t6 : Int) (r0 : List ByteArray) : Option ((List ByteArray) × Bool) := evRAt (envOf M .x) (lvT 36) cd36 [true, true, true, true, false, true, false] (endK (β := (List ByteArray) × Bool) M 36 .x Go.Proofs.Tryz.f36.results.toList) (stL 86 [(0, AV.d (D.s a0)), (4, AV.r 500000), (5, AV.d (D.i IntKind.i64 t5)), (6, AV.d (D.i IntKind.i64 t6))] [(500000, some (Ob.row 1 (List.map cel r0) true false 0))])
theorem n36_eq (a0 : ByteArray) : n36 a0 = if 4000 < (↑a0.size : Int) then some ([], false) else l36_6 a0 0 0 [] := by
 rw [n36, fnO_code h36 rfl Go.Proofs.Tryz.func36 (c := cd36) rfl (a0, ()) rfl]
 simp (maxSteps := 60000000) (disch := first | (intros; rename_i h; cases h; done) | decide +kernel) only [evS, seS, List.map_replicate, Nat.reduceDiv, Nat.reduceMod, Nat.reduceEqDiff, reduceCtorEq, ↓reduceIte, Nat.reduceLT, Nat.reduceAdd, Nat.reduceMul, Nat.reduceSub, Nat.reduceLeDiff, Nat.reduceBEq, Int.reduceEq, Int.reduceNeg, Int.reduceToNat, Int.reduceLE, Int.reduceLT, cd36, Go.Proofs.Tryz.f36, h36.r, m36, lv_pl, pl36, c51, c52, lv36_6, l36_6]
 all_goals try simp only [rnS, seS, Nat.reduceEqDiff, reduceCtorEq, ↓reduceIte, Nat.reduceAdd, Nat.reduceLeDiff, Nat.reduceBEq, Nat.reduceMul, lv36_6]
theorem l36_6_eq (a0 : ByteArray) (t5 : Int) (t6 : Int) (r0 : List ByteArray) : l36_6 a0 t5 t6 r0 = if t6 ≤ (↑a0.size : Int) then bindB (if t6 < (↑a0.size : Int) then if 0 ≤ t6 ∧ t6 < (↑a0.size : Int) then (n51 (U8.mk (byteAt a0 t6))).bind fun y0 => some !y0 else none else some false) fun y1 => if y1 = true then some ([], false) else bindB (if t6 < (↑a0.size : Int) then if 0 ≤ t6 ∧ t6 < (↑a0.size : Int) then (n52 (U8.mk (byteAt a0 t6))).bind fun y2 => some !y2 else none else some false) fun y3 => bindB (if y3 = true then if 0 ≤ t6 ∧ t6 < (↑a0.size : Int) then some !decide (byteAt a0 t6 = 40) else none else some false) fun y4 => bindB (if y4 = true then if 0 ≤ t6 ∧ t6 < (↑a0.size : Int) then some !decide (byteAt a0 t6 = 41) else none else some false) fun y5 => if y5 = true then l36_6 a0 t5 (IntKind.i64.wrap (t6 + 1)) r0 else if t5 < t6 then if 0 ≤ t6 then if 0 ≤ t5 then if t5.toNat ≤ t6.toNat ∧ t6.toNat ≤ a0.size then if (r0.length + 1) * 16 ≤ 140737488355328 ∧ r0.length ≤ 140737488355327 then bindB (if t6 < (↑a0.size : Int) then if 0 ≤ t6 ∧ t6 < (↑a0.size : Int) then (n52 (U8.mk (byteAt a0 t6))).bind fun y6 => some !y6 else none else some false) fun y7 => if y7 = true then if 0 ≤ IntKind.i64.wrap (t6 + 1) then if 0 ≤ t6 then if t6.toNat ≤ (IntKind.i64.wrap (t6 + 1)).toNat ∧ (IntKind.i64.wrap (t6 + 1)).toNat ≤ a0.size then if ((List.map cel r0 ++ [[D.s (a0.extract t5.toNat t6.toNat)]]).length + 1) * 16 ≤ 140737488355328 ∧ (List.map cel r0 ++ [[D.s (a0.extract t5.toNat t6.toNat)]]).length ≤ 140737488355327 then l36_6 a0 (IntKind.i64.wrap (t6 + 1)) (IntKind.i64.wrap (t6 + 1)) (r0 ++ [a0.extract t5.toNat t6.toNat] ++ [a0.extract t6.toNat (IntKind.i64.wrap (t6 + 1)).toNat]) else none else none else none else none else l36_6 a0 (IntKind.i64.wrap (t6 + 1)) (IntKind.i64.wrap (t6 + 1)) (r0 ++ [a0.extract t5.toNat t6.toNat]) else none else none else none else none else bindB (if t6 < (↑a0.size : Int) then if 0 ≤ t6 ∧ t6 < (↑a0.size : Int) then (n52 (U8.mk (byteAt a0 t6))).bind fun y8 => some !y8 else none else some false) fun y9 => if y9 = true then if 0 ≤ IntKind.i64.wrap (t6 + 1) then if 0 ≤ t6 then if t6.toNat ≤ (IntKind.i64.wrap (t6 + 1)).toNat ∧ (IntKind.i64.wrap (t6 + 1)).toNat ≤ a0.size then if (r0.length + 1) * 16 ≤ 140737488355328 ∧ r0.length ≤ 140737488355327 then l36_6 a0 (IntKind.i64.wrap (t6 + 1)) (IntKind.i64.wrap (t6 + 1)) (r0 ++ [a0.extract t6.toNat (IntKind.i64.wrap (t6 + 1)).toNat]) else none else none else none else none else l36_6 a0 (IntKind.i64.wrap (t6 + 1)) (IntKind.i64.wrap (t6 + 1)) r0 else if 1500 < (↑r0.length : Int) then some ([], false) else some (r0, true) := by
 rw [l36_6]
 simp only [evRAt, locS, cd36, Go.Proofs.Tryz.f36]
 rw [evR_eq]
 simp (maxSteps := 60000000) (disch := first | (intros; rename_i h; cases h; done) | decide +kernel) only [evS, seS, List.map_replicate, Nat.reduceDiv, Nat.reduceMod, Nat.reduceEqDiff, reduceCtorEq, ↓reduceIte, Nat.reduceLT, Nat.reduceAdd, Nat.reduceMul, Nat.reduceSub, Nat.reduceLeDiff, Nat.reduceBEq, Int.reduceEq, Int.reduceNeg, Int.reduceToNat, Int.reduceLE, Int.reduceLT, cd36, Go.Proofs.Tryz.f36, h36.r, m36, lv_pl, pl36, c51, c52, lv36_6, l36_6]
 all_goals try simp only [rnS, seS, Nat.reduceEqDiff, reduceCtorEq, ↓reduceIte, Nat.reduceAdd, Nat.reduceLeDiff, Nat.reduceBEq, Nat.reduceMul, lv36_6]
 all_goals try simp only [bindN_eq]
end Go.Fs.Se
