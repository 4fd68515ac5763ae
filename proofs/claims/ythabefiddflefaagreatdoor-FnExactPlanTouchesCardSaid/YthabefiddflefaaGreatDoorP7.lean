/- A part of the proof: an evaluator of the program's code over plain data, proved sound; the equations of its functions; what they compute. No conditions beyond those in the theorems. -/
import Derived.Test.YthabefiddflefaaGreatDoorP5
set_option linter.unusedVariables false
set_option linter.unusedSimpArgs false
set_option linter.constructorNameAsVariable false
set_option linter.unusedSectionVars false
set_option linter.defProp false
set_option maxRecDepth 40000
set_option maxHeartbeats 100000000
open Go.RowKit
namespace Go.Fs.Se
open Cel (cel unc)
open Dat (enc dec)
open Arg (ea da)
theorem lv65_5 : lvT 65 5 = [0, 4, 5, 14, 15] := rfl
noncomputable def l65_5 (a0 : ByteArray) (t5 : Int) (t15 : Int) (r0 : List ByteArray) : Option ((List ByteArray) × Bool) := evRAt (envOf M .x) (lvT 65) cd65 [true, true, true, false, true, false] (endK (β := (List ByteArray) × Bool) M 65 .x Go.Proofs.Tryz.f65.results.toList) (stL 81 [(0, AV.d (D.s a0)), (4, AV.r 500000), (5, AV.d (D.i IntKind.i64 t5)), (14, AV.d (D.i IntKind.i64 (↑a0.size : Int))), (15, AV.d (D.i IntKind.i64 t15))] [(500000, some (Ob.row 1 (List.map cel r0) true false 0))])
theorem n65_eq (a0 : ByteArray) : n65 a0 = if 4000 < (↑a0.size : Int) then some ([], false) else l65_5 a0 (-1) 0 [] := by
 rw [n65, fnO_code h65 rfl Go.Proofs.Tryz.func65 (c := cd65) rfl (a0, ()) rfl]
 simp (maxSteps := 60000000) (disch := first | (intros; rename_i h; cases h; done) | decide +kernel) only [evS, seS, List.map_replicate, Nat.reduceDiv, Nat.reduceMod, Nat.reduceEqDiff, reduceCtorEq, ↓reduceIte, Nat.reduceLT, Nat.reduceAdd, Nat.reduceMul, Nat.reduceSub, Nat.reduceLeDiff, Nat.reduceBEq, Int.reduceEq, Int.reduceNeg, Int.reduceToNat, Int.reduceLE, Int.reduceLT, cd65, Go.Proofs.Tryz.f65, h65.r, m65, lv_pl, pl65, c68, c82, c83, lv65_5, l65_5]
 all_goals try simp only [rnS, seS, Nat.reduceEqDiff, reduceCtorEq, ↓reduceIte, Nat.reduceAdd, Nat.reduceLeDiff, Nat.reduceBEq, Nat.reduceMul, lv65_5]
theorem l65_5_eq (a0 : ByteArray) (t5 : Int) (t15 : Int) (r0 : List ByteArray) : l65_5 a0 t5 t15 r0 = if t15 < (↑a0.size : Int) then if 0 ≤ t15 ∧ t15 < (↑a0.size : Int) then (n82 (U8.mk (byteAt a0 t15))).bind fun y0 => bindB (if y0 = true then some true else n83 (U8.mk (byteAt a0 t15))) fun y1 => if y1 = true ∧ 0 ≤ t5 then if 0 ≤ t15 then if 0 ≤ t5 then if t5.toNat ≤ t15.toNat ∧ t15.toNat ≤ a0.size then if (r0.length + 1) * 16 ≤ 140737488355328 ∧ r0.length ≤ 140737488355327 then (n82 (U8.mk (byteAt a0 t15))).bind fun y2 => if y2 = true then if 0 ≤ IntKind.i64.wrap (t15 + 1) then if 0 ≤ t15 then if t15.toNat ≤ (IntKind.i64.wrap (t15 + 1)).toNat ∧ (IntKind.i64.wrap (t15 + 1)).toNat ≤ a0.size then if ((List.map cel r0 ++ [[D.s (a0.extract t5.toNat t15.toNat)]]).length + 1) * 16 ≤ 140737488355328 ∧ (List.map cel r0 ++ [[D.s (a0.extract t5.toNat t15.toNat)]]).length ≤ 140737488355327 then l65_5 a0 (-1) (IntKind.i64.wrap (t15 + 1)) (r0 ++ [a0.extract t5.toNat t15.toNat] ++ [a0.extract t15.toNat (IntKind.i64.wrap (t15 + 1)).toNat]) else none else none else none else none else (n83 (U8.mk (byteAt a0 t15))).bind fun y3 => bindB (if y3 = false then (n68 (IntKind.i64.wrap (byteAt a0 t15)) 33 126).bind fun y4 => some !y4 else some false) fun y5 => if y5 = true then some ([], false) else if y1 = false then l65_5 a0 t15 (IntKind.i64.wrap (t15 + 1)) (r0 ++ [a0.extract t5.toNat t15.toNat]) else l65_5 a0 (-1) (IntKind.i64.wrap (t15 + 1)) (r0 ++ [a0.extract t5.toNat t15.toNat]) else none else none else none else none else (n82 (U8.mk (byteAt a0 t15))).bind fun y6 => if y6 = true then if 0 ≤ IntKind.i64.wrap (t15 + 1) then if 0 ≤ t15 then if t15.toNat ≤ (IntKind.i64.wrap (t15 + 1)).toNat ∧ (IntKind.i64.wrap (t15 + 1)).toNat ≤ a0.size then if (r0.length + 1) * 16 ≤ 140737488355328 ∧ r0.length ≤ 140737488355327 then l65_5 a0 t5 (IntKind.i64.wrap (t15 + 1)) (r0 ++ [a0.extract t15.toNat (IntKind.i64.wrap (t15 + 1)).toNat]) else none else none else none else none else (n83 (U8.mk (byteAt a0 t15))).bind fun y7 => bindB (if y7 = false then (n68 (IntKind.i64.wrap (byteAt a0 t15)) 33 126).bind fun y8 => some !y8 else some false) fun y9 => if y9 = true then some ([], false) else if y1 = false ∧ t5 < 0 then l65_5 a0 t15 (IntKind.i64.wrap (t15 + 1)) r0 else l65_5 a0 t5 (IntKind.i64.wrap (t15 + 1)) r0 else none else if 0 ≤ t5 then if 0 ≤ t5 then if t5.toNat ≤ a0.size then if (r0.length + 1) * 16 ≤ 140737488355328 ∧ r0.length ≤ 140737488355327 then if 1500 < (↑(List.map cel r0 ++ [[D.s (a0.extract t5.toNat a0.size)]]).length : Int) then some ([], false) else some (r0 ++ [a0.extract t5.toNat a0.size], true) else none else none else none else if 1500 < (↑r0.length : Int) then some ([], false) else some (r0, true) := by
 rw [l65_5]
 simp only [evRAt, locS, cd65, Go.Proofs.Tryz.f65]
 rw [evR_eq]
 simp (maxSteps := 60000000) (disch := first | (intros; rename_i h; cases h; done) | decide +kernel) only [evS, seS, List.map_replicate, Nat.reduceDiv, Nat.reduceMod, Nat.reduceEqDiff, reduceCtorEq, ↓reduceIte, Nat.reduceLT, Nat.reduceAdd, Nat.reduceMul, Nat.reduceSub, Nat.reduceLeDiff, Nat.reduceBEq, Int.reduceEq, Int.reduceNeg, Int.reduceToNat, Int.reduceLE, Int.reduceLT, cd65, Go.Proofs.Tryz.f65, h65.r, m65, lv_pl, pl65, c68, c82, c83, lv65_5, l65_5]
 all_goals try simp only [rnS, seS, Nat.reduceEqDiff, reduceCtorEq, ↓reduceIte, Nat.reduceAdd, Nat.reduceLeDiff, Nat.reduceBEq, Nat.reduceMul, lv65_5]
 all_goals try simp only [bindN_eq]
end Go.Fs.Se
