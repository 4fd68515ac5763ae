/- A part of the proof: an evaluator of the program's code over plain data, proved sound, and walks of the program's functions by it. No conditions beyond those in the theorems. -/
import Derived.Test.YtbgbnmghhmfihaaGreatLawMp15
import Derived.Test.YtbgbnmghhmfihaaGreatLawMp18
set_option linter.unusedVariables false
set_option linter.unusedSimpArgs false
set_option linter.constructorNameAsVariable false
set_option linter.unusedSectionVars false
set_option linter.defProp false
set_option linter.unusedVariables false
set_option linter.unusedSimpArgs false
set_option maxRecDepth 40000
set_option maxHeartbeats 4000000
open Go.RowKit
namespace Go.Fs.Se
open Cel (cel unc)
open Dat (enc dec)
open Arg (ea da)
/-! slices.Contains[[]string,string] -/
theorem n117_eq (a0 : (List ByteArray)) (a1 : ByteArray) : n117 a0 a1 = (n162 a0 a1).bind fun y0 => some (decide (0 ≤ y0)) := by
  rw [n117, fnO_code h117 rfl Go.Proofs.Tryz.func117 (c := cd117) rfl (a0, a1, ()) rfl]
  simp (maxSteps := 60000000) (disch := first | (intros; rename_i h; cases h; done) | decide +kernel) only [evS, seS, List.map_replicate, Nat.reduceDiv, Nat.reduceMod, Nat.reduceEqDiff, reduceCtorEq, ↓reduceIte, Nat.reduceLT, Nat.reduceAdd, Nat.reduceMul, Nat.reduceSub, Nat.reduceLeDiff, Nat.reduceBEq, Int.reduceEq, Int.reduceNeg, Int.reduceToNat, Int.reduceLE, Int.reduceLT, cd117, Go.Proofs.Tryz.f117, h117.r, m117, lv_pl, pl117, c162]
  all_goals try simp only [bindN_eq]
end Go.Fs.Se

set_option linter.unusedVariables false
set_option linter.unusedSimpArgs false
set_option maxRecDepth 40000
set_option maxHeartbeats 4000000
open Go.RowKit
namespace Go.Fs.Se
open Cel (cel unc)
open Dat (enc dec)
open Arg (ea da)
/-! slices.Index[[]string,string] -/
noncomputable def l162_2 (a0 : (List ByteArray)) (a1 : ByteArray) (t8 : Int) : Option (Int) := evRAt (envOf M .x) (lvT 162) cd162 [true, false, true, false] (endK (β := Int) M 162 .x Go.Proofs.Tryz.f162.results.toList) (stL 19 [(0, AV.d (D.l 1 (List.map cel a0))), (1, AV.d (D.s a1)), (7, AV.d (D.i IntKind.i64 (↑a0.length : Int))), (8, AV.d (D.i IntKind.i64 t8))] [])
theorem n162_eq (a0 : (List ByteArray)) (a1 : ByteArray) : n162 a0 a1 = l162_2 a0 a1 0 := by
  rw [n162, fnO_code h162 rfl Go.Proofs.Tryz.func162 (c := cd162) rfl (a0, a1, ()) rfl]
  simp (maxSteps := 60000000) (disch := first | (intros; rename_i h; cases h; done) | decide +kernel) only [evS, seS, List.map_replicate, Nat.reduceDiv, Nat.reduceMod, Nat.reduceEqDiff, reduceCtorEq, ↓reduceIte, Nat.reduceLT, Nat.reduceAdd, Nat.reduceMul, Nat.reduceSub, Nat.reduceLeDiff, Nat.reduceBEq, Int.reduceEq, Int.reduceNeg, Int.reduceToNat, Int.reduceLE, Int.reduceLT, cd162, Go.Proofs.Tryz.f162, h162.r, m162, lv_pl, pl162, lv162_2, l162_2]
  all_goals try simp only [rnS, seS, Nat.reduceEqDiff, reduceCtorEq, ↓reduceIte, Nat.reduceAdd, Nat.reduceLeDiff, Nat.reduceBEq, Nat.reduceMul, lv162_2]
theorem l162_2_eq (a0 : (List ByteArray)) (a1 : ByteArray) (t8 : Int) : l162_2 a0 a1 t8 = if t8 < (↑a0.length : Int) then (getI a0 t8).bind fun y0 => if a1 = y0 then some t8 else l162_2 a0 a1 (IntKind.i64.wrap (t8 + 1)) else some (-1) := by
  rw [l162_2]
  simp only [evRAt, locS, cd162, Go.Proofs.Tryz.f162]
  rw [evR_eq]
  simp (maxSteps := 60000000) (disch := first | (intros; rename_i h; cases h; done) | decide +kernel) only [evS, seS, List.map_replicate, Nat.reduceDiv, Nat.reduceMod, Nat.reduceEqDiff, reduceCtorEq, ↓reduceIte, Nat.reduceLT, Nat.reduceAdd, Nat.reduceMul, Nat.reduceSub, Nat.reduceLeDiff, Nat.reduceBEq, Int.reduceEq, Int.reduceNeg, Int.reduceToNat, Int.reduceLE, Int.reduceLT, cd162, Go.Proofs.Tryz.f162, h162.r, m162, lv_pl, pl162, lv162_2, l162_2]
  all_goals try simp only [rnS, seS, Nat.reduceEqDiff, reduceCtorEq, ↓reduceIte, Nat.reduceAdd, Nat.reduceLeDiff, Nat.reduceBEq, Nat.reduceMul, lv162_2]
  all_goals try simp only [bindN_eq]
end Go.Fs.Se

set_option linter.unusedVariables false
set_option linter.unusedSimpArgs false
set_option maxRecDepth 40000
set_option maxHeartbeats 4000000
open Go.RowKit
namespace Go.Fs.Se
open Cel (cel unc)
open Dat (enc dec)
open Arg (ea da)
/-! loop.example/smithy/impl.inRange -/
theorem n118_eq (a0 : Int) (a1 : Int) (a2 : Int) : n118 a0 a1 a2 = some (decide (a1 ≤ a0) && decide (a0 ≤ a2)) := by
  rw [n118, fnO_code h118 rfl Go.Proofs.Tryz.func118 (c := cd118) rfl (a0, a1, a2, ()) rfl]
  simp (maxSteps := 60000000) (disch := first | (intros; rename_i h; cases h; done) | decide +kernel) only [evS, seS, List.map_replicate, Nat.reduceDiv, Nat.reduceMod, Nat.reduceEqDiff, reduceCtorEq, ↓reduceIte, Nat.reduceLT, Nat.reduceAdd, Nat.reduceMul, Nat.reduceSub, Nat.reduceLeDiff, Nat.reduceBEq, Int.reduceEq, Int.reduceNeg, Int.reduceToNat, Int.reduceLE, Int.reduceLT, cd118, Go.Proofs.Tryz.f118, h118.r, m118, lv_pl, pl118]
end Go.Fs.Se

set_option linter.unusedVariables false
set_option linter.unusedSimpArgs false
set_option maxRecDepth 40000
set_option maxHeartbeats 4000000
open Go.RowKit
namespace Go.Fs.Se
open Cel (cel unc)
open Dat (enc dec)
open Arg (ea da)
/-! loop.example/smithy/impl.isShort -/
theorem n211_eq (a0 : Int) : n211 a0 = n118 a0 (-99999999999999999) 99999999999999999 := by
  rw [n211, fnO_code h211 rfl Go.Proofs.Tryz.func211 (c := cd211) rfl (a0, ()) rfl]
  simp (maxSteps := 60000000) (disch := first | (intros; rename_i h; cases h; done) | decide +kernel) only [evS, seS, List.map_replicate, Nat.reduceDiv, Nat.reduceMod, Nat.reduceEqDiff, reduceCtorEq, ↓reduceIte, Nat.reduceLT, Nat.reduceAdd, Nat.reduceMul, Nat.reduceSub, Nat.reduceLeDiff, Nat.reduceBEq, Int.reduceEq, Int.reduceNeg, Int.reduceToNat, Int.reduceLE, Int.reduceLT, cd211, Go.Proofs.Tryz.f211, h211.r, m211, lv_pl, pl211, c118]
end Go.Fs.Se

set_option linter.unusedVariables false
set_option linter.unusedSimpArgs false
set_option maxRecDepth 40000
set_option maxHeartbeats 4000000
open Go.RowKit
namespace Go.Fs.Se
open Cel (cel unc)
open Dat (enc dec)
open Arg (ea da)
/-! loop.example/smithy/spec.l2Prim -/
noncomputable def l76_3 (a0 : ByteArray) (t4 : Int) (r0 : List ByteArray) : Option (Int) := evRAt (envOf M .x) (lvT 76) cd76 [true, true, false, true, false] (endK (β := Int) M 76 .x Go.Proofs.Tryz.f76.results.toList) (stL 20 [(0, AV.d (D.s a0)), (3, AV.r 500000), (4, AV.d (D.i IntKind.i64 t4))] [(500000, some (Ob.row 1 (List.map cel r0) true false 0))])
theorem n76_eq (a0 : ByteArray) : n76 a0 = n133.bind fun y0 => l76_3 a0 0 y0 := by
  rw [n76, fnO_code h76 rfl Go.Proofs.Tryz.func76 (c := cd76) rfl (a0, ()) rfl]
  simp (maxSteps := 60000000) (disch := first | (intros; rename_i h; cases h; done) | decide +kernel) only [evS, seS, List.map_replicate, Nat.reduceDiv, Nat.reduceMod, Nat.reduceEqDiff, reduceCtorEq, ↓reduceIte, Nat.reduceLT, Nat.reduceAdd, Nat.reduceMul, Nat.reduceSub, Nat.reduceLeDiff, Nat.reduceBEq, Int.reduceEq, Int.reduceNeg, Int.reduceToNat, Int.reduceLE, Int.reduceLT, cd76, Go.Proofs.Tryz.f76, h76.r, m76, lv_pl, pl76, c133, lv76_3, l76_3]
  all_goals try simp only [rnS, seS, Nat.reduceEqDiff, reduceCtorEq, ↓reduceIte, Nat.reduceAdd, Nat.reduceLeDiff, Nat.reduceBEq, Nat.reduceMul, lv76_3]
  all_goals try simp only [bindN_eq]
theorem l76_3_eq (a0 : ByteArray) (t4 : Int) (r0 : List ByteArray) : l76_3 a0 t4 r0 = if t4 < (↑r0.length : Int) then (getI r0 t4).bind fun y0 => r0[t4.toNat]?.bind fun y3 => if y3 = a0 then some (IntKind.i64.wrap (t4 + 1)) else l76_3 a0 (IntKind.i64.wrap (t4 + 1)) r0 else some 0 := by
  rw [l76_3]
  simp only [evRAt, locS, cd76, Go.Proofs.Tryz.f76]
  rw [evR_eq]
  simp (maxSteps := 60000000) (disch := first | (intros; rename_i h; cases h; done) | decide +kernel) only [evS, seS, List.map_replicate, Nat.reduceDiv, Nat.reduceMod, Nat.reduceEqDiff, reduceCtorEq, ↓reduceIte, Nat.reduceLT, Nat.reduceAdd, Nat.reduceMul, Nat.reduceSub, Nat.reduceLeDiff, Nat.reduceBEq, Int.reduceEq, Int.reduceNeg, Int.reduceToNat, Int.reduceLE, Int.reduceLT, cd76, Go.Proofs.Tryz.f76, h76.r, m76, lv_pl, pl76, c133, lv76_3, l76_3]
  all_goals try simp only [rnS, seS, Nat.reduceEqDiff, reduceCtorEq, ↓reduceIte, Nat.reduceAdd, Nat.reduceLeDiff, Nat.reduceBEq, Nat.reduceMul, lv76_3]
  all_goals try simp only [bindN_eq]
end Go.Fs.Se

set_option linter.unusedVariables false
set_option linter.unusedSimpArgs false
set_option maxRecDepth 40000
set_option maxHeartbeats 4000000
open Go.RowKit
namespace Go.Fs.Se
open Cel (cel unc)
open Dat (enc dec)
open Arg (ea da)
/-! loop.example/smithy/spec.l2Prims -/
theorem n133_eq : n133 = some [ByteArray.mk #[43], ByteArray.mk #[45], ByteArray.mk #[42], ByteArray.mk #[47], ByteArray.mk #[37], ByteArray.mk #[60], ByteArray.mk #[60, 61], ByteArray.mk #[61], ByteArray.mk #[110, 111, 116], ByteArray.mk #[97, 116], ByteArray.mk #[108, 101, 110], ByteArray.mk #[112, 117, 116], ByteArray.mk #[106, 111, 105, 110], ByteArray.mk #[112, 114, 105, 110, 116], ByteArray.mk #[97, 110, 100], ByteArray.mk #[111, 114]] := by
  rw [n133, fnO_code h133 rfl Go.Proofs.Tryz.func133 (c := cd133) rfl (()) rfl]
  simp (maxSteps := 60000000) (disch := first | (intros; rename_i h; cases h; done) | decide +kernel) only [evS, seS, List.map_replicate, Nat.reduceDiv, Nat.reduceMod, Nat.reduceEqDiff, reduceCtorEq, ↓reduceIte, Nat.reduceLT, Nat.reduceAdd, Nat.reduceMul, Nat.reduceSub, Nat.reduceLeDiff, Nat.reduceBEq, Int.reduceEq, Int.reduceNeg, Int.reduceToNat, Int.reduceLE, Int.reduceLT, cd133, Go.Proofs.Tryz.f133, h133.r, m133, lv_pl, pl133]
end Go.Fs.Se

set_option linter.unusedVariables false
set_option linter.unusedSimpArgs false
set_option maxRecDepth 40000
set_option maxHeartbeats 4000000
open Go.RowKit
namespace Go.Fs.Se
open Cel (cel unc)
open Dat (enc dec)
open Arg (ea da)
/-! loop.example/smithy/spec.TreeArity -/
theorem n172_eq (a0 : ByteArray) : n172 a0 = (n76 a0).bind fun y0 => if y0 = 0 then some (-1) else if y0 = 9 then some 1 else if y0 = 11 then some 1 else if y0 = 14 then some 1 else if y0 = 12 then some 3 else some 2 := by
  rw [n172, fnO_code h172 rfl Go.Proofs.Tryz.func172 (c := cd172) rfl (a0, ()) rfl]
  simp (maxSteps := 60000000) (disch := first | (intros; rename_i h; cases h; done) | decide +kernel) only [evS, seS, List.map_replicate, Nat.reduceDiv, Nat.reduceMod, Nat.reduceEqDiff, reduceCtorEq, ↓reduceIte, Nat.reduceLT, Nat.reduceAdd, Nat.reduceMul, Nat.reduceSub, Nat.reduceLeDiff, Nat.reduceBEq, Int.reduceEq, Int.reduceNeg, Int.reduceToNat, Int.reduceLE, Int.reduceLT, cd172, Go.Proofs.Tryz.f172, h172.r, m172, lv_pl, pl172, c76]
  all_goals try simp only [bindN_eq]
end Go.Fs.Se

set_option linter.unusedVariables false
set_option linter.unusedSimpArgs false
set_option maxRecDepth 40000
set_option maxHeartbeats 4000000
open Go.RowKit
namespace Go.Fs.Se
open Cel (cel unc)
open Dat (enc dec)
open Arg (ea da)
/-! loop.example/smithy/impl.TreeArity -/
theorem n212_eq (a0 : ByteArray) : n212 a0 = if a0 = ByteArray.mk #[110, 111, 116] then some 1 else if a0 = ByteArray.mk #[108, 101, 110] then some 1 else if a0 = ByteArray.mk #[112, 114, 105, 110, 116] then some 1 else if a0 = ByteArray.mk #[112, 117, 116] then some 3 else if a0 = ByteArray.mk #[43] then some 2 else if a0 = ByteArray.mk #[45] then some 2 else if a0 = ByteArray.mk #[42] then some 2 else if a0 = ByteArray.mk #[47] then some 2 else if a0 = ByteArray.mk #[37] then some 2 else if a0 = ByteArray.mk #[60] then some 2 else if a0 = ByteArray.mk #[60, 61] then some 2 else if a0 = ByteArray.mk #[61] then some 2 else if a0 = ByteArray.mk #[97, 116] then some 2 else if a0 = ByteArray.mk #[106, 111, 105, 110] then some 2 else if a0 = ByteArray.mk #[97, 110, 100] then some 2 else if a0 = ByteArray.mk #[111, 114] then some 2 else some (-1) := by
  rw [n212, fnO_code h212 rfl Go.Proofs.Tryz.func212 (c := cd212) rfl (a0, ()) rfl]
  simp (maxSteps := 60000000) (disch := first | (intros; rename_i h; cases h; done) | decide +kernel) only [evS, seS, List.map_replicate, Nat.reduceDiv, Nat.reduceMod, Nat.reduceEqDiff, reduceCtorEq, ↓reduceIte, Nat.reduceLT, Nat.reduceAdd, Nat.reduceMul, Nat.reduceSub, Nat.reduceLeDiff, Nat.reduceBEq, Int.reduceEq, Int.reduceNeg, Int.reduceToNat, Int.reduceLE, Int.reduceLT, cd212, Go.Proofs.Tryz.f212, h212.r, m212, lv_pl, pl212]
end Go.Fs.Se

set_option linter.unusedVariables false
set_option linter.unusedSimpArgs false
set_option maxRecDepth 40000
set_option maxHeartbeats 4000000
open Go.RowKit
namespace Go.Fs.Se
open Cel (cel unc)
open Dat (enc dec)
open Arg (ea da)
/-! loop.example/smithy/spec.l2Node -/
theorem n132_eq (a0 : TreeExpr) : n132 a0 = if a0.kind = 1 then bindB (if (↑a0.kids.length : Int) = 0 then n171 a0 true false false else some false) fun y0 => some (decide (y0 = true ∧ a0.num < 100000000000000000) && decide (-100000000000000000 < a0.num)) else if a0.kind = 2 then bindB (if (↑a0.kids.length : Int) = 0 then n171 a0 true false false else some false) fun y1 => some (decide (y1 = true) && (decide (a0.num = 0) || decide (a0.num = 1))) else if a0.kind = 3 then bindB (if (↑a0.kids.length : Int) = 0 then n171 a0 false true false else some false) fun y2 => if y2 = true then n130 a0.name else some false else if a0.kind = 4 then (n171 a0 false true false).bind fun y3 => if y3 = true then (n172 a0.name).bind fun y4 => some (decide ((↑a0.kids.length : Int) = y4)) else some false else if a0.kind = 5 then if (↑a0.kids.length : Int) = 3 then n171 a0 false false false else some false else if a0.kind = 6 then bindB (if (↑a0.kids.length : Int) = 2 then n171 a0 false true false else some false) fun y5 => if y5 = true then n130 a0.name else some false else if a0.kind = 7 then bindB (if (↑a0.kids.length : Int) ≤ 4 then n171 a0 false true true else some false) fun y6 => bindB (if y6 = true then n130 a0.name else some false) fun y7 => if y7 = true then if a0.mod = ByteArray.mk #[] then some true else n130 a0.mod else some false else if a0.kind = 8 then if (↑a0.kids.length : Int) ≤ 8 then n171 a0 false false false else some false else some false := by
  rw [n132, fnO_code h132 rfl Go.Proofs.Tryz.func132 (c := cd132) rfl (a0, ()) rfl]
  simp (maxSteps := 60000000) (disch := first | (intros; rename_i h; cases h; done) | decide +kernel) only [evS, seS, List.map_replicate, Nat.reduceDiv, Nat.reduceMod, Nat.reduceEqDiff, reduceCtorEq, ↓reduceIte, Nat.reduceLT, Nat.reduceAdd, Nat.reduceMul, Nat.reduceSub, Nat.reduceLeDiff, Nat.reduceBEq, Int.reduceEq, Int.reduceNeg, Int.reduceToNat, Int.reduceLE, Int.reduceLT, cd132, Go.Proofs.Tryz.f132, h132.r, m132, lv_pl, pl132, c130, c171, c172]
  all_goals try simp only [bindN_eq]
end Go.Fs.Se

set_option linter.unusedVariables false
set_option linter.unusedSimpArgs false
set_option maxRecDepth 40000
set_option maxHeartbeats 4000000
open Go.RowKit
namespace Go.Fs.Se
open Cel (cel unc)
open Dat (enc dec)
open Arg (ea da)
/-! loop.example/smithy/spec.l2Plain -/
theorem n171_eq (a0 : TreeExpr) (a1 : Bool) (a2 : Bool) (a3 : Bool) : n171 a0 a1 a2 a3 = some (decide ((a1 = true ∨ a0.num = 0) ∧ (a2 = true ∨ a0.name = ByteArray.mk #[])) && (decide (a3 = true) || decide (a0.mod = ByteArray.mk #[]))) := by
  rw [n171, fnO_code h171 rfl Go.Proofs.Tryz.func171 (c := cd171) rfl (a0, a1, a2, a3, ()) rfl]
  simp (maxSteps := 60000000) (disch := first | (intros; rename_i h; cases h; done) | decide +kernel) only [evS, seS, List.map_replicate, Nat.reduceDiv, Nat.reduceMod, Nat.reduceEqDiff, reduceCtorEq, ↓reduceIte, Nat.reduceLT, Nat.reduceAdd, Nat.reduceMul, Nat.reduceSub, Nat.reduceLeDiff, Nat.reduceBEq, Int.reduceEq, Int.reduceNeg, Int.reduceToNat, Int.reduceLE, Int.reduceLT, cd171, Go.Proofs.Tryz.f171, h171.r, m171, lv_pl, pl171]
end Go.Fs.Se

set_option linter.unusedVariables false
set_option linter.unusedSimpArgs false
set_option maxRecDepth 40000
set_option maxHeartbeats 4000000
open Go.RowKit
namespace Go.Fs.Se
open Cel (cel unc)
open Dat (enc dec)
open Arg (ea da)
/-! (loop.example/smithy/impl.TreeExpr).partsOk -/
theorem n177_eq (a0 : TreeExpr) : n177 a0 = if a0.kind = 1 then bindB (if a0.name = ByteArray.mk #[] ∧ a0.mod = ByteArray.mk #[] then n211 a0.num else some false) fun y0 => some (decide (y0 = true) && decide ((↑a0.kids.length : Int) = 0)) else if a0.kind = 2 then bindB (if a0.name = ByteArray.mk #[] ∧ a0.mod = ByteArray.mk #[] then n118 a0.num 0 1 else some false) fun y1 => some (decide (y1 = true) && decide ((↑a0.kids.length : Int) = 0)) else if decide (a0.num = 0) = false then some false else if a0.kind = 3 then (n140 a0.name).bind fun y2 => some (decide (y2 = true ∧ a0.mod = ByteArray.mk #[]) && decide ((↑a0.kids.length : Int) = 0)) else if a0.kind = 4 then if a0.mod = ByteArray.mk #[] then (n212 a0.name).bind fun y3 => some (decide ((↑a0.kids.length : Int) = y3)) else some false else if a0.kind = 5 then some (decide (a0.name = ByteArray.mk #[] ∧ a0.mod = ByteArray.mk #[]) && decide ((↑a0.kids.length : Int) = 3)) else if a0.kind = 6 then (n140 a0.name).bind fun y4 => some (decide (y4 = true ∧ a0.mod = ByteArray.mk #[]) && decide ((↑a0.kids.length : Int) = 2)) else if a0.kind = 7 then bindB ((n140 a0.name).bind fun y5 => if y5 = true then if a0.mod = ByteArray.mk #[] then some true else n140 a0.mod else some false) fun y6 => some (decide (y6 = true) && decide ((↑a0.kids.length : Int) ≤ 4)) else some (decide (a0.kind = 8 ∧ a0.name = ByteArray.mk #[] ∧ a0.mod = ByteArray.mk #[]) && decide ((↑a0.kids.length : Int) ≤ 8)) := by
  rw [n177, fnO_code h177 rfl Go.Proofs.Tryz.func177 (c := cd177) rfl (a0, ()) rfl]
  simp (maxSteps := 60000000) (disch := first | (intros; rename_i h; cases h; done) | decide +kernel) only [evS, seS, List.map_replicate, Nat.reduceDiv, Nat.reduceMod, Nat.reduceEqDiff, reduceCtorEq, ↓reduceIte, Nat.reduceLT, Nat.reduceAdd, Nat.reduceMul, Nat.reduceSub, Nat.reduceLeDiff, Nat.reduceBEq, Int.reduceEq, Int.reduceNeg, Int.reduceToNat, Int.reduceLE, Int.reduceLT, cd177, Go.Proofs.Tryz.f177, h177.r, m177, lv_pl, pl177, c118, c140, c211, c212]
  all_goals try simp only [bindN_eq]
end Go.Fs.Se

set_option linter.unusedVariables false
set_option linter.unusedSimpArgs false
set_option maxRecDepth 40000
set_option maxHeartbeats 4000000
open Go.RowKit
namespace Go.Fs.Se
open Cel (cel unc)
open Dat (enc dec)
open Arg (ea da)
/-! loop.example/smithy/spec.l2Expr -/
noncomputable def l75_4 (a0 : TreeExpr) (t3 : Int) : Option (Bool) := evRAt (envOf M .x) (lvT 75) cd75 [true, true, false, true, false] (endK (β := Bool) M 75 .x Go.Proofs.Tryz.f75.results.toList) (stL 21 [(1, AV.a 500000 0), (3, AV.d (D.i IntKind.i64 t3))] [(500000, some (Ob.box [AV.d (D.i IntKind.i64 a0.kind), AV.d (D.i IntKind.i64 a0.num), AV.d (D.s a0.name), AV.d (D.s a0.mod), AV.d (D.l 5 (List.map cel a0.kids))]))])
theorem n75_eq (a0 : TreeExpr) : n75 a0 = (n132 a0).bind fun y0 => if y0 = false then some false else l75_4 a0 0 := by
  rw [n75, fnO_code h75 rfl Go.Proofs.Tryz.func75 (c := cd75) rfl (a0, ()) rfl]
  simp (maxSteps := 60000000) (disch := first | (intros; rename_i h; cases h; done) | decide +kernel) only [evS, seS, List.map_replicate, Nat.reduceDiv, Nat.reduceMod, Nat.reduceEqDiff, reduceCtorEq, ↓reduceIte, Nat.reduceLT, Nat.reduceAdd, Nat.reduceMul, Nat.reduceSub, Nat.reduceLeDiff, Nat.reduceBEq, Int.reduceEq, Int.reduceNeg, Int.reduceToNat, Int.reduceLE, Int.reduceLT, cd75, Go.Proofs.Tryz.f75, h75.r, m75, lv_pl, pl75, c75, c132, lv75_4, l75_4]
  all_goals try simp only [rnS, seS, Nat.reduceEqDiff, reduceCtorEq, ↓reduceIte, Nat.reduceAdd, Nat.reduceLeDiff, Nat.reduceBEq, Nat.reduceMul, lv75_4]
  all_goals try simp only [bindN_eq]
theorem l75_4_eq (a0 : TreeExpr) (t3 : Int) : l75_4 a0 t3 = if t3 < (↑a0.kids.length : Int) then (getI a0.kids t3).bind fun y0 => (n75 y0).bind fun y1 => if y1 = false then some false else l75_4 a0 (IntKind.i64.wrap (t3 + 1)) else some true := by
  rw [l75_4]
  simp only [evRAt, locS, cd75, Go.Proofs.Tryz.f75]
  rw [evR_eq]
  simp (maxSteps := 60000000) (disch := first | (intros; rename_i h; cases h; done) | decide +kernel) only [evS, seS, List.map_replicate, Nat.reduceDiv, Nat.reduceMod, Nat.reduceEqDiff, reduceCtorEq, ↓reduceIte, Nat.reduceLT, Nat.reduceAdd, Nat.reduceMul, Nat.reduceSub, Nat.reduceLeDiff, Nat.reduceBEq, Int.reduceEq, Int.reduceNeg, Int.reduceToNat, Int.reduceLE, Int.reduceLT, cd75, Go.Proofs.Tryz.f75, h75.r, m75, lv_pl, pl75, c75, c132, lv75_4, l75_4]
  all_goals try simp only [rnS, seS, Nat.reduceEqDiff, reduceCtorEq, ↓reduceIte, Nat.reduceAdd, Nat.reduceLeDiff, Nat.reduceBEq, Nat.reduceMul, lv75_4]
  all_goals try simp only [bindN_eq]
end Go.Fs.Se

set_option linter.unusedVariables false
set_option linter.unusedSimpArgs false
set_option maxRecDepth 40000
set_option maxHeartbeats 4000000
open Go.RowKit
namespace Go.Fs.Se
open Cel (cel unc)
open Dat (enc dec)
open Arg (ea da)
/-! (loop.example/smithy/impl.TreeExpr).isRight -/
theorem n142_eq (a0 : TreeExpr) : n142 a0 = (n177 a0).bind fun y0 => if y0 = true then (n178 a0.kids (Fv.mk (D.f 179 []))).bind fun y1 => some !y1 else some false := by
  rw [n142, fnO_code h142 rfl Go.Proofs.Tryz.func142 (c := cd142) rfl (a0, ()) rfl]
  simp (maxSteps := 60000000) (disch := first | (intros; rename_i h; cases h; done) | decide +kernel) only [evS, seS, List.map_replicate, Nat.reduceDiv, Nat.reduceMod, Nat.reduceEqDiff, reduceCtorEq, ↓reduceIte, Nat.reduceLT, Nat.reduceAdd, Nat.reduceMul, Nat.reduceSub, Nat.reduceLeDiff, Nat.reduceBEq, Int.reduceEq, Int.reduceNeg, Int.reduceToNat, Int.reduceLE, Int.reduceLT, cd142, Go.Proofs.Tryz.f142, h142.r, m142, lv_pl, pl142, c177, c178, c179]
  all_goals try simp only [bindN_eq]
end Go.Fs.Se

set_option linter.unusedVariables false
set_option linter.unusedSimpArgs false
set_option maxRecDepth 40000
set_option maxHeartbeats 4000000
open Go.RowKit
namespace Go.Fs.Se
open Cel (cel unc)
open Dat (enc dec)
open Arg (ea da)
/-! slices.ContainsFunc[[]loop.example/smithy/impl.TreeExpr,loop.example/smithy/impl.TreeExpr] -/
theorem n178_179_eq (a0 : (List TreeExpr)) : n178 a0 (Fv.mk (D.f 179 [])) = (n213 a0 (Fv.mk (D.f 179 []))).bind fun y0 => some (decide (0 ≤ y0)) := by
  rw [n178, fnO_code h178 rfl Go.Proofs.Tryz.func178 (c := cd178) rfl (a0, (Fv.mk (D.f 179 [])), ()) rfl]
  simp (maxSteps := 60000000) (disch := first | (intros; rename_i h; cases h; done) | decide +kernel) only [evS, seS, List.map_replicate, Nat.reduceDiv, Nat.reduceMod, Nat.reduceEqDiff, reduceCtorEq, ↓reduceIte, Nat.reduceLT, Nat.reduceAdd, Nat.reduceMul, Nat.reduceSub, Nat.reduceLeDiff, Nat.reduceBEq, Int.reduceEq, Int.reduceNeg, Int.reduceToNat, Int.reduceLE, Int.reduceLT, cd178, Go.Proofs.Tryz.f178, h178.r, m178, lv_pl, pl178, c213, c179]
  all_goals try simp only [bindN_eq]
end Go.Fs.Se

set_option linter.unusedVariables false
set_option linter.unusedSimpArgs false
set_option maxRecDepth 40000
set_option maxHeartbeats 4000000
open Go.RowKit
namespace Go.Fs.Se
open Cel (cel unc)
open Dat (enc dec)
open Arg (ea da)
/-! slices.IndexFunc[[]loop.example/smithy/impl.TreeExpr,loop.example/smithy/impl.TreeExpr] -/
noncomputable def l213_179_2 (a0 : (List TreeExpr)) (t8 : Int) : Option (Int) := evRAt (envOf M .x) (lvT 213) cd213 [true, false, true, false] (endK (β := Int) M 213 .x Go.Proofs.Tryz.f213.results.toList) (stL 19 [(0, AV.d (D.l 5 (List.map cel a0))), (1, AV.d (D.f 179 [])), (7, AV.d (D.i IntKind.i64 (↑a0.length : Int))), (8, AV.d (D.i IntKind.i64 t8))] [])
theorem n213_179_eq (a0 : (List TreeExpr)) : n213 a0 (Fv.mk (D.f 179 [])) = l213_179_2 a0 0 := by
  rw [n213, fnO_code h213 rfl Go.Proofs.Tryz.func213 (c := cd213) rfl (a0, (Fv.mk (D.f 179 [])), ()) rfl]
  simp (maxSteps := 60000000) (disch := first | (intros; rename_i h; cases h; done) | decide +kernel) only [evS, seS, List.map_replicate, Nat.reduceDiv, Nat.reduceMod, Nat.reduceEqDiff, reduceCtorEq, ↓reduceIte, Nat.reduceLT, Nat.reduceAdd, Nat.reduceMul, Nat.reduceSub, Nat.reduceLeDiff, Nat.reduceBEq, Int.reduceEq, Int.reduceNeg, Int.reduceToNat, Int.reduceLE, Int.reduceLT, cd213, Go.Proofs.Tryz.f213, h213.r, m213, lv_pl, pl213, c179, lv213_2, l213_179_2]
  all_goals try simp only [rnS, seS, Nat.reduceEqDiff, reduceCtorEq, ↓reduceIte, Nat.reduceAdd, Nat.reduceLeDiff, Nat.reduceBEq, Nat.reduceMul, lv213_2]
theorem l213_179_2_eq (a0 : (List TreeExpr)) (t8 : Int) : l213_179_2 a0 t8 = if t8 < (↑a0.length : Int) then (getI a0 t8).bind fun y0 => (n179 y0).bind fun y1 => if y1 = true then some t8 else l213_179_2 a0 (IntKind.i64.wrap (t8 + 1)) else some (-1) := by
  rw [l213_179_2]
  simp only [evRAt, locS, cd213, Go.Proofs.Tryz.f213]
  rw [evR_eq]
  simp (maxSteps := 60000000) (disch := first | (intros; rename_i h; cases h; done) | decide +kernel) only [evS, seS, List.map_replicate, Nat.reduceDiv, Nat.reduceMod, Nat.reduceEqDiff, reduceCtorEq, ↓reduceIte, Nat.reduceLT, Nat.reduceAdd, Nat.reduceMul, Nat.reduceSub, Nat.reduceLeDiff, Nat.reduceBEq, Int.reduceEq, Int.reduceNeg, Int.reduceToNat, Int.reduceLE, Int.reduceLT, cd213, Go.Proofs.Tryz.f213, h213.r, m213, lv_pl, pl213, c179, lv213_2, l213_179_2]
  all_goals try simp only [rnS, seS, Nat.reduceEqDiff, reduceCtorEq, ↓reduceIte, Nat.reduceAdd, Nat.reduceLeDiff, Nat.reduceBEq, Nat.reduceMul, lv213_2]
  all_goals try simp only [bindN_eq]
end Go.Fs.Se

set_option linter.unusedVariables false
set_option linter.unusedSimpArgs false
set_option maxRecDepth 40000
set_option maxHeartbeats 4000000
open Go.RowKit
namespace Go.Fs.Se
open Cel (cel unc)
open Dat (enc dec)
open Arg (ea da)
/-! (loop.example/smithy/impl.TreeExpr).isRight$1 -/
theorem n179_eq (a0 : TreeExpr) : n179 a0 = (n142 a0).bind fun y0 => some !y0 := by
  rw [n179, fnO_code h179 rfl Go.Proofs.Tryz.func179 (c := cd179) rfl (a0, ()) rfl]
  simp (maxSteps := 60000000) (disch := first | (intros; rename_i h; cases h; done) | decide +kernel) only [evS, seS, List.map_replicate, Nat.reduceDiv, Nat.reduceMod, Nat.reduceEqDiff, reduceCtorEq, ↓reduceIte, Nat.reduceLT, Nat.reduceAdd, Nat.reduceMul, Nat.reduceSub, Nat.reduceLeDiff, Nat.reduceBEq, Int.reduceEq, Int.reduceNeg, Int.reduceToNat, Int.reduceLE, Int.reduceLT, cd179, Go.Proofs.Tryz.f179, h179.r, m179, lv_pl, pl179, c142]
  all_goals try simp only [bindN_eq]
end Go.Fs.Se

set_option linter.unusedVariables false
set_option linter.unusedSimpArgs false
set_option maxRecDepth 40000
set_option maxHeartbeats 4000000
open Go.RowKit
namespace Go.Fs.Se
open Cel (cel unc)
open Dat (enc dec)
open Arg (ea da)
/-! loop.example/smithy/impl.exprOk -/
theorem n89_eq (a0 : TreeExpr) : n89 a0 = (n88 a0).bind fun y0 => if y0.fst ≤ 150 ∧ y0.snd ≤ 16 then n142 a0 else some false := by
  rw [n89, fnO_code h89 rfl Go.Proofs.Tryz.func89 (c := cd89) rfl (a0, ()) rfl]
  simp (maxSteps := 60000000) (disch := first | (intros; rename_i h; cases h; done) | decide +kernel) only [evS, seS, List.map_replicate, Nat.reduceDiv, Nat.reduceMod, Nat.reduceEqDiff, reduceCtorEq, ↓reduceIte, Nat.reduceLT, Nat.reduceAdd, Nat.reduceMul, Nat.reduceSub, Nat.reduceLeDiff, Nat.reduceBEq, Int.reduceEq, Int.reduceNeg, Int.reduceToNat, Int.reduceLE, Int.reduceLT, cd89, Go.Proofs.Tryz.f89, h89.r, m89, lv_pl, pl89, c88, c142]
  all_goals try simp only [bindN_eq]
end Go.Fs.Se

set_option linter.unusedVariables false
set_option linter.unusedSimpArgs false
set_option maxRecDepth 40000
set_option maxHeartbeats 4000000
open Go.RowKit
namespace Go.Fs.Se
open Cel (cel unc)
open Dat (enc dec)
open Arg (ea da)
/-! loop.example/smithy/spec.l18Known -/
theorem n79_eq (a0 : TreeExpr) : n79 a0 = if a0.kind = 1 then (n137 a0.num).bind fun y0 => some (y0, true) else if a0.kind = 2 then (n138 (decide (a0.num = 1))).bind fun y1 => some (y1, true) else some (MeanVal.mk 0 0 [], false) := by
  rw [n79, fnO_code h79 rfl Go.Proofs.Tryz.func79 (c := cd79) rfl (a0, ()) rfl]
  simp (maxSteps := 60000000) (disch := first | (intros; rename_i h; cases h; done) | decide +kernel) only [evS, seS, List.map_replicate, Nat.reduceDiv, Nat.reduceMod, Nat.reduceEqDiff, reduceCtorEq, ↓reduceIte, Nat.reduceLT, Nat.reduceAdd, Nat.reduceMul, Nat.reduceSub, Nat.reduceLeDiff, Nat.reduceBEq, Int.reduceEq, Int.reduceNeg, Int.reduceToNat, Int.reduceLE, Int.reduceLT, cd79, Go.Proofs.Tryz.f79, h79.r, m79, lv_pl, pl79, c137, c138]
  all_goals try simp only [bindN_eq]
end Go.Fs.Se

set_option linter.unusedVariables false
set_option linter.unusedSimpArgs false
set_option maxRecDepth 40000
set_option maxHeartbeats 4000000
open Go.RowKit
namespace Go.Fs.Se
open Cel (cel unc)
open Dat (enc dec)
open Arg (ea da)
/-! loop.example/smithy/spec.l6Int -/
theorem n137_eq (a0 : Int) : n137 a0 = some (MeanVal.mk 1 a0 []) := by
  rw [n137, fnO_code h137 rfl Go.Proofs.Tryz.func137 (c := cd137) rfl (a0, ()) rfl]
  simp (maxSteps := 60000000) (disch := first | (intros; rename_i h; cases h; done) | decide +kernel) only [evS, seS, List.map_replicate, Nat.reduceDiv, Nat.reduceMod, Nat.reduceEqDiff, reduceCtorEq, ↓reduceIte, Nat.reduceLT, Nat.reduceAdd, Nat.reduceMul, Nat.reduceSub, Nat.reduceLeDiff, Nat.reduceBEq, Int.reduceEq, Int.reduceNeg, Int.reduceToNat, Int.reduceLE, Int.reduceLT, cd137, Go.Proofs.Tryz.f137, h137.r, m137, lv_pl, pl137]
end Go.Fs.Se

set_option linter.unusedVariables false
set_option linter.unusedSimpArgs false
set_option maxRecDepth 40000
set_option maxHeartbeats 4000000
open Go.RowKit
namespace Go.Fs.Se
open Cel (cel unc)
open Dat (enc dec)
open Arg (ea da)
/-! loop.example/smithy/spec.l6Bool -/
theorem n138_eq (a0 : Bool) : n138 a0 = if a0 = true then some (MeanVal.mk 2 1 []) else some (MeanVal.mk 2 0 []) := by
  rw [n138, fnO_code h138 rfl Go.Proofs.Tryz.func138 (c := cd138) rfl (a0, ()) rfl]
  simp (maxSteps := 60000000) (disch := first | (intros; rename_i h; cases h; done) | decide +kernel) only [evS, seS, List.map_replicate, Nat.reduceDiv, Nat.reduceMod, Nat.reduceEqDiff, reduceCtorEq, ↓reduceIte, Nat.reduceLT, Nat.reduceAdd, Nat.reduceMul, Nat.reduceSub, Nat.reduceLeDiff, Nat.reduceBEq, Int.reduceEq, Int.reduceNeg, Int.reduceToNat, Int.reduceLE, Int.reduceLT, cd138, Go.Proofs.Tryz.f138, h138.r, m138, lv_pl, pl138]
end Go.Fs.Se

set_option linter.unusedVariables false
set_option linter.unusedSimpArgs false
set_option maxRecDepth 40000
set_option maxHeartbeats 4000000
open Go.RowKit
namespace Go.Fs.Se
open Cel (cel unc)
open Dat (enc dec)
open Arg (ea da)
/-! loop.example/smithy/impl.known -/
theorem n180_eq (a0 : TreeExpr) : n180 a0 = if a0.kind = 1 then (n120 a0.num).bind fun y0 => some (y0, true) else if a0.kind = 2 then (n121 (decide (a0.num = 1))).bind fun y1 => some (y1, true) else some (MeanVal.mk 0 0 [], false) := by
  rw [n180, fnO_code h180 rfl Go.Proofs.Tryz.func180 (c := cd180) rfl (a0, ()) rfl]
  simp (maxSteps := 60000000) (disch := first | (intros; rename_i h; cases h; done) | decide +kernel) only [evS, seS, List.map_replicate, Nat.reduceDiv, Nat.reduceMod, Nat.reduceEqDiff, reduceCtorEq, ↓reduceIte, Nat.reduceLT, Nat.reduceAdd, Nat.reduceMul, Nat.reduceSub, Nat.reduceLeDiff, Nat.reduceBEq, Int.reduceEq, Int.reduceNeg, Int.reduceToNat, Int.reduceLE, Int.reduceLT, cd180, Go.Proofs.Tryz.f180, h180.r, m180, lv_pl, pl180, c120, c121]
  all_goals try simp only [bindN_eq]
end Go.Fs.Se

set_option linter.unusedVariables false
set_option linter.unusedSimpArgs false
set_option maxRecDepth 40000
set_option maxHeartbeats 4000000
open Go.RowKit
namespace Go.Fs.Se
open Cel (cel unc)
open Dat (enc dec)
open Arg (ea da)
/-! loop.example/smithy/impl.intVal -/
theorem n120_eq (a0 : Int) : n120 a0 = some (MeanVal.mk 1 a0 []) := by
  rw [n120, fnO_code h120 rfl Go.Proofs.Tryz.func120 (c := cd120) rfl (a0, ()) rfl]
  simp (maxSteps := 60000000) (disch := first | (intros; rename_i h; cases h; done) | decide +kernel) only [evS, seS, List.map_replicate, Nat.reduceDiv, Nat.reduceMod, Nat.reduceEqDiff, reduceCtorEq, ↓reduceIte, Nat.reduceLT, Nat.reduceAdd, Nat.reduceMul, Nat.reduceSub, Nat.reduceLeDiff, Nat.reduceBEq, Int.reduceEq, Int.reduceNeg, Int.reduceToNat, Int.reduceLE, Int.reduceLT, cd120, Go.Proofs.Tryz.f120, h120.r, m120, lv_pl, pl120]
end Go.Fs.Se

set_option linter.unusedVariables false
set_option linter.unusedSimpArgs false
set_option maxRecDepth 40000
set_option maxHeartbeats 4000000
open Go.RowKit
namespace Go.Fs.Se
open Cel (cel unc)
open Dat (enc dec)
open Arg (ea da)
/-! loop.example/smithy/impl.flagVal -/
theorem n121_eq (a0 : Bool) : n121 a0 = if a0 = true then some (MeanVal.mk 2 1 []) else some (MeanVal.mk 2 0 []) := by
  rw [n121, fnO_code h121 rfl Go.Proofs.Tryz.func121 (c := cd121) rfl (a0, ()) rfl]
  simp (maxSteps := 60000000) (disch := first | (intros; rename_i h; cases h; done) | decide +kernel) only [evS, seS, List.map_replicate, Nat.reduceDiv, Nat.reduceMod, Nat.reduceEqDiff, reduceCtorEq, ↓reduceIte, Nat.reduceLT, Nat.reduceAdd, Nat.reduceMul, Nat.reduceSub, Nat.reduceLeDiff, Nat.reduceBEq, Int.reduceEq, Int.reduceNeg, Int.reduceToNat, Int.reduceLE, Int.reduceLT, cd121, Go.Proofs.Tryz.f121, h121.r, m121, lv_pl, pl121]
end Go.Fs.Se

set_option linter.unusedVariables false
set_option linter.unusedSimpArgs false
set_option maxRecDepth 40000
set_option maxHeartbeats 4000000
open Go.RowKit
namespace Go.Fs.Se
open Cel (cel unc)
open Dat (enc dec)
open Arg (ea da)
/-! loop.example/smithy/spec.TypePrim -/
theorem n106_eq (a0 : ByteArray) : n106 a0 = (n76 a0).bind fun y0 => if y0 = 0 then some ([], 0) else if y0 ≤ 5 then some ([1, 1], 1) else if y0 ≤ 8 then some ([1, 1], 2) else if y0 = 9 then some ([2], 2) else if y0 = 10 then some ([3, 1], 1) else if y0 = 11 then some ([3], 1) else if y0 = 12 then some ([3, 1, 1], 3) else if y0 = 13 then some ([3, 3], 3) else if y0 = 14 then some ([1], 1) else some ([2, 2], 2) := by
  rw [n106, fnO_code h106 rfl Go.Proofs.Tryz.func106 (c := cd106) rfl (a0, ()) rfl]
  simp (maxSteps := 60000000) (disch := first | (intros; rename_i h; cases h; done) | decide +kernel) only [evS, seS, List.map_replicate, Nat.reduceDiv, Nat.reduceMod, Nat.reduceEqDiff, reduceCtorEq, ↓reduceIte, Nat.reduceLT, Nat.reduceAdd, Nat.reduceMul, Nat.reduceSub, Nat.reduceLeDiff, Nat.reduceBEq, Int.reduceEq, Int.reduceNeg, Int.reduceToNat, Int.reduceLE, Int.reduceLT, cd106, Go.Proofs.Tryz.f106, h106.r, m106, lv_pl, pl106, c76]
  all_goals try simp only [bindN_eq]
end Go.Fs.Se

set_option linter.unusedVariables false
set_option linter.unusedSimpArgs false
set_option maxRecDepth 40000
set_option maxHeartbeats 4000000
open Go.RowKit
namespace Go.Fs.Se
open Cel (cel unc)
open Dat (enc dec)
open Arg (ea da)
/-! loop.example/smithy/impl.TypePrim -/
theorem n154_eq (a0 : ByteArray) : n154 a0 = if a0 = ByteArray.mk #[43] then some ([1, 1], 1) else if a0 = ByteArray.mk #[45] then some ([1, 1], 1) else if a0 = ByteArray.mk #[42] then some ([1, 1], 1) else if a0 = ByteArray.mk #[47] then some ([1, 1], 1) else if a0 = ByteArray.mk #[37] then some ([1, 1], 1) else if a0 = ByteArray.mk #[60] then some ([1, 1], 2) else if a0 = ByteArray.mk #[60, 61] then some ([1, 1], 2) else if a0 = ByteArray.mk #[61] then some ([1, 1], 2) else if a0 = ByteArray.mk #[110, 111, 116] then some ([2], 2) else if a0 = ByteArray.mk #[97, 116] then some ([3, 1], 1) else if a0 = ByteArray.mk #[108, 101, 110] then some ([3], 1) else if a0 = ByteArray.mk #[112, 117, 116] then some ([3, 1, 1], 3) else if a0 = ByteArray.mk #[106, 111, 105, 110] then some ([3, 3], 3) else if a0 = ByteArray.mk #[112, 114, 105, 110, 116] then some ([1], 1) else if a0 = ByteArray.mk #[97, 110, 100] then some ([2, 2], 2) else if a0 = ByteArray.mk #[111, 114] then some ([2, 2], 2) else some ([], 0) := by
  rw [n154, fnO_code h154 rfl Go.Proofs.Tryz.func154 (c := cd154) rfl (a0, ()) rfl]
  simp (maxSteps := 60000000) (disch := first | (intros; rename_i h; cases h; done) | decide +kernel) only [evS, seS, List.map_replicate, Nat.reduceDiv, Nat.reduceMod, Nat.reduceEqDiff, reduceCtorEq, ↓reduceIte, Nat.reduceLT, Nat.reduceAdd, Nat.reduceMul, Nat.reduceSub, Nat.reduceLeDiff, Nat.reduceBEq, Int.reduceEq, Int.reduceNeg, Int.reduceToNat, Int.reduceLE, Int.reduceLT, cd154, Go.Proofs.Tryz.f154, h154.r, m154, lv_pl, pl154]
end Go.Fs.Se

set_option linter.unusedVariables false
set_option linter.unusedSimpArgs false
set_option maxRecDepth 40000
set_option maxHeartbeats 4000000
open Go.RowKit
namespace Go.Fs.Se
open Cel (cel unc)
open Dat (enc dec)
open Arg (ea da)
/-! loop.example/smithy/spec.l6Fits -/
noncomputable def l134_5 (a0 : ByteArray) (a1 : (List MeanVal)) (t7 : Int) (r0 : List Int) : Option (Bool) := evRAt (envOf M .x) (lvT 134) cd134 [true, true, true, false, true, false] (endK (β := Bool) M 134 .x Go.Proofs.Tryz.f134.results.toList) (stL 38 [(1, AV.d (D.l 3 (List.map cel a1))), (5, AV.r 500000), (7, AV.d (D.i IntKind.i64 t7))] [(500000, some (Ob.row 1 (List.map cel r0) true false 0))])
theorem n134_eq (a0 : ByteArray) (a1 : (List MeanVal)) : n134 a0 a1 = (n106 a0).bind fun y0 => if y0.snd = 0 ∨ decide ((↑y0.fst.length : Int) = (↑a1.length : Int)) = false then some false else l134_5 a0 a1 0 y0.fst := by
  rw [n134, fnO_code h134 rfl Go.Proofs.Tryz.func134 (c := cd134) rfl (a0, a1, ()) rfl]
  simp (maxSteps := 60000000) (disch := first | (intros; rename_i h; cases h; done) | decide +kernel) only [evS, seS, List.map_replicate, Nat.reduceDiv, Nat.reduceMod, Nat.reduceEqDiff, reduceCtorEq, ↓reduceIte, Nat.reduceLT, Nat.reduceAdd, Nat.reduceMul, Nat.reduceSub, Nat.reduceLeDiff, Nat.reduceBEq, Int.reduceEq, Int.reduceNeg, Int.reduceToNat, Int.reduceLE, Int.reduceLT, cd134, Go.Proofs.Tryz.f134, h134.r, m134, lv_pl, pl134, c106, lv134_5, l134_5]
  all_goals try simp only [rnS, seS, Nat.reduceEqDiff, reduceCtorEq, ↓reduceIte, Nat.reduceAdd, Nat.reduceLeDiff, Nat.reduceBEq, Nat.reduceMul, lv134_5]
  all_goals try simp only [bindN_eq]
theorem l134_5_eq (a0 : ByteArray) (a1 : (List MeanVal)) (t7 : Int) (r0 : List Int) : l134_5 a0 a1 t7 r0 = if t7 < (↑r0.length : Int) then (getI a1 t7).bind fun y0 => (getI r0 t7).bind fun y1 => r0[t7.toNat]?.bind fun y4 => if decide (y0.kind = y4) = false then some false else l134_5 a0 a1 (IntKind.i64.wrap (t7 + 1)) r0 else some true := by
  rw [l134_5]
  simp only [evRAt, locS, cd134, Go.Proofs.Tryz.f134]
  rw [evR_eq]
  simp (maxSteps := 60000000) (disch := first | (intros; rename_i h; cases h; done) | decide +kernel) only [evS, seS, List.map_replicate, Nat.reduceDiv, Nat.reduceMod, Nat.reduceEqDiff, reduceCtorEq, ↓reduceIte, Nat.reduceLT, Nat.reduceAdd, Nat.reduceMul, Nat.reduceSub, Nat.reduceLeDiff, Nat.reduceBEq, Int.reduceEq, Int.reduceNeg, Int.reduceToNat, Int.reduceLE, Int.reduceLT, cd134, Go.Proofs.Tryz.f134, h134.r, m134, lv_pl, pl134, c106, lv134_5, l134_5]
  all_goals try simp only [rnS, seS, Nat.reduceEqDiff, reduceCtorEq, ↓reduceIte, Nat.reduceAdd, Nat.reduceLeDiff, Nat.reduceBEq, Nat.reduceMul, lv134_5]
  all_goals try simp only [bindN_eq]
end Go.Fs.Se

set_option linter.unusedVariables false
set_option linter.unusedSimpArgs false
set_option maxRecDepth 40000
set_option maxHeartbeats 4000000
open Go.RowKit
namespace Go.Fs.Se
open Cel (cel unc)
open Dat (enc dec)
open Arg (ea da)
/-! slices.Equal[[]int,int] -/
noncomputable def l157_4 (a0 : (List Int)) (a1 : (List Int)) (t13 : Int) : Option (Bool) := evRAt (envOf M .x) (lvT 157) cd157 [true, true, false, true, false] (endK (β := Bool) M 157 .x Go.Proofs.Tryz.f157.results.toList) (stL 26 [(0, AV.d (D.l 1 (List.map cel a0))), (1, AV.d (D.l 1 (List.map cel a1))), (12, AV.d (D.i IntKind.i64 (↑a0.length : Int))), (13, AV.d (D.i IntKind.i64 t13))] [])
theorem n157_eq (a0 : (List Int)) (a1 : (List Int)) : n157 a0 a1 = if decide ((↑a0.length : Int) = (↑a1.length : Int)) = false then some false else l157_4 a0 a1 0 := by
  rw [n157, fnO_code h157 rfl Go.Proofs.Tryz.func157 (c := cd157) rfl (a0, a1, ()) rfl]
  simp (maxSteps := 60000000) (disch := first | (intros; rename_i h; cases h; done) | decide +kernel) only [evS, seS, List.map_replicate, Nat.reduceDiv, Nat.reduceMod, Nat.reduceEqDiff, reduceCtorEq, ↓reduceIte, Nat.reduceLT, Nat.reduceAdd, Nat.reduceMul, Nat.reduceSub, Nat.reduceLeDiff, Nat.reduceBEq, Int.reduceEq, Int.reduceNeg, Int.reduceToNat, Int.reduceLE, Int.reduceLT, cd157, Go.Proofs.Tryz.f157, h157.r, m157, lv_pl, pl157, lv157_4, l157_4]
  all_goals try simp only [rnS, seS, Nat.reduceEqDiff, reduceCtorEq, ↓reduceIte, Nat.reduceAdd, Nat.reduceLeDiff, Nat.reduceBEq, Nat.reduceMul, lv157_4]
theorem l157_4_eq (a0 : (List Int)) (a1 : (List Int)) (t13 : Int) : l157_4 a0 a1 t13 = if t13 < (↑a0.length : Int) then (getI a0 t13).bind fun y0 => (getI a1 t13).bind fun y1 => if decide (y0 = y1) = false then some false else l157_4 a0 a1 (IntKind.i64.wrap (t13 + 1)) else some true := by
  rw [l157_4]
  simp only [evRAt, locS, cd157, Go.Proofs.Tryz.f157]
  rw [evR_eq]
  simp (maxSteps := 60000000) (disch := first | (intros; rename_i h; cases h; done) | decide +kernel) only [evS, seS, List.map_replicate, Nat.reduceDiv, Nat.reduceMod, Nat.reduceEqDiff, reduceCtorEq, ↓reduceIte, Nat.reduceLT, Nat.reduceAdd, Nat.reduceMul, Nat.reduceSub, Nat.reduceLeDiff, Nat.reduceBEq, Int.reduceEq, Int.reduceNeg, Int.reduceToNat, Int.reduceLE, Int.reduceLT, cd157, Go.Proofs.Tryz.f157, h157.r, m157, lv_pl, pl157, lv157_4, l157_4]
  all_goals try simp only [rnS, seS, Nat.reduceEqDiff, reduceCtorEq, ↓reduceIte, Nat.reduceAdd, Nat.reduceLeDiff, Nat.reduceBEq, Nat.reduceMul, lv157_4]
  all_goals try simp only [bindN_eq]
end Go.Fs.Se

set_option linter.unusedVariables false
set_option linter.unusedSimpArgs false
set_option maxRecDepth 40000
set_option maxHeartbeats 4000000
open Go.RowKit
namespace Go.Fs.Se
open Cel (cel unc)
open Dat (enc dec)
open Arg (ea da)
/-! loop.example/smithy/impl.kindsOf -/
noncomputable def l205_3 (a0 : (List MeanVal)) (t9 : Int) (r0 : List Int) : Option ((List Int)) := evRAt (envOf M .x) (lvT 205) cd205 [true, true, false, true, false] (endK (β := (List Int)) M 205 .x Go.Proofs.Tryz.f205.results.toList) (stL 20 [(3, AV.r 500000), (7, AV.d (D.l 3 (List.map cel a0))), (8, AV.d (D.i IntKind.i64 (↑a0.length : Int))), (9, AV.d (D.i IntKind.i64 t9))] [(500000, some (Ob.row 1 (List.map cel r0) true false 0))])
theorem n205_eq (a0 : (List MeanVal)) : n205 a0 = l205_3 a0 0 [] := by
  rw [n205, fnO_code h205 rfl Go.Proofs.Tryz.func205 (c := cd205) rfl (a0, ()) rfl]
  simp (maxSteps := 60000000) (disch := first | (intros; rename_i h; cases h; done) | decide +kernel) only [evS, seS, List.map_replicate, Nat.reduceDiv, Nat.reduceMod, Nat.reduceEqDiff, reduceCtorEq, ↓reduceIte, Nat.reduceLT, Nat.reduceAdd, Nat.reduceMul, Nat.reduceSub, Nat.reduceLeDiff, Nat.reduceBEq, Int.reduceEq, Int.reduceNeg, Int.reduceToNat, Int.reduceLE, Int.reduceLT, cd205, Go.Proofs.Tryz.f205, h205.r, m205, lv_pl, pl205, lv205_3, l205_3]
  all_goals try simp only [rnS, seS, Nat.reduceEqDiff, reduceCtorEq, ↓reduceIte, Nat.reduceAdd, Nat.reduceLeDiff, Nat.reduceBEq, Nat.reduceMul, lv205_3]
theorem l205_3_eq (a0 : (List MeanVal)) (t9 : Int) (r0 : List Int) : l205_3 a0 t9 r0 = if t9 < (↑a0.length : Int) then (getI a0 t9).bind fun y0 => if (r0.length + 1) * 8 ≤ 140737488355328 ∧ r0.length ≤ 140737488355327 then l205_3 a0 (IntKind.i64.wrap (t9 + 1)) (r0 ++ [y0.kind]) else none else some r0 := by
  rw [l205_3]
  simp only [evRAt, locS, cd205, Go.Proofs.Tryz.f205]
  rw [evR_eq]
  simp (maxSteps := 60000000) (disch := first | (intros; rename_i h; cases h; done) | decide +kernel) only [evS, seS, List.map_replicate, Nat.reduceDiv, Nat.reduceMod, Nat.reduceEqDiff, reduceCtorEq, ↓reduceIte, Nat.reduceLT, Nat.reduceAdd, Nat.reduceMul, Nat.reduceSub, Nat.reduceLeDiff, Nat.reduceBEq, Int.reduceEq, Int.reduceNeg, Int.reduceToNat, Int.reduceLE, Int.reduceLT, cd205, Go.Proofs.Tryz.f205, h205.r, m205, lv_pl, pl205, lv205_3, l205_3]
  all_goals try simp only [rnS, seS, Nat.reduceEqDiff, reduceCtorEq, ↓reduceIte, Nat.reduceAdd, Nat.reduceLeDiff, Nat.reduceBEq, Nat.reduceMul, lv205_3]
  all_goals try simp only [bindN_eq]
end Go.Fs.Se

set_option linter.unusedVariables false
set_option linter.unusedSimpArgs false
set_option maxRecDepth 40000
set_option maxHeartbeats 4000000
open Go.RowKit
namespace Go.Fs.Se
open Cel (cel unc)
open Dat (enc dec)
open Arg (ea da)
/-! loop.example/smithy/spec.l6Prim -/
theorem n135_eq (a0 : ByteArray) (a1 : (List MeanVal)) : n135 a0 a1 = (n76 a0).bind fun y0 => if y0 ≤ 8 then (getI a1 0).bind fun y1 => (getI a1 1).bind fun y2 => (n173 y0 y1.num y2.num).bind fun y3 => some (y3.fst, y3.snd) else if y0 = 9 then (getI a1 0).bind fun y4 => (n138 (decide (y4.num = 0))).bind fun y5 => some (y5, 0) else if y0 ≤ 13 then (n174 y0 a1).bind fun y6 => some (y6.fst, y6.snd) else if y0 = 14 then (getI a1 0).bind fun y7 => (n137 y7.num).bind fun y8 => some (y8, 0) else if y0 = 15 then bindB ((getI a1 0).bind fun y9 => if decide (y9.num = 0) = false then (getI a1 1).bind fun y10 => some !decide (y10.num = 0) else some false) fun y11 => (n138 y11).bind fun y12 => some (y12, 0) else bindB ((getI a1 0).bind fun y13 => if decide (y13.num = 0) = false then some true else (getI a1 1).bind fun y14 => some !decide (y14.num = 0)) fun y15 => (n138 y15).bind fun y16 => some (y16, 0) := by
  rw [n135, fnO_code h135 rfl Go.Proofs.Tryz.func135 (c := cd135) rfl (a0, a1, ()) rfl]
  simp (maxSteps := 60000000) (disch := first | (intros; rename_i h; cases h; done) | decide +kernel) only [evS, seS, List.map_replicate, Nat.reduceDiv, Nat.reduceMod, Nat.reduceEqDiff, reduceCtorEq, ↓reduceIte, Nat.reduceLT, Nat.reduceAdd, Nat.reduceMul, Nat.reduceSub, Nat.reduceLeDiff, Nat.reduceBEq, Int.reduceEq, Int.reduceNeg, Int.reduceToNat, Int.reduceLE, Int.reduceLT, cd135, Go.Proofs.Tryz.f135, h135.r, m135, lv_pl, pl135, c76, c137, c138, c173, c174]
  all_goals try simp only [bindN_eq]
end Go.Fs.Se

set_option linter.unusedVariables false
set_option linter.unusedSimpArgs false
set_option maxRecDepth 40000
set_option maxHeartbeats 4000000
open Go.RowKit
namespace Go.Fs.Se
open Cel (cel unc)
open Dat (enc dec)
open Arg (ea da)
/-! loop.example/smithy/spec.l6Calc -/
theorem n173_eq (a0 : Int) (a1 : Int) (a2 : Int) : n173 a0 a1 a2 = if a0 = 1 then (n137 (IntKind.i64.wrap (a1 + a2))).bind fun y0 => some (y0, 0) else if a0 = 2 then (n137 (IntKind.i64.wrap (a1 - a2))).bind fun y1 => some (y1, 0) else if a0 = 3 then (n137 (IntKind.i64.wrap (a1 * a2))).bind fun y2 => some (y2, 0) else if a0 = 6 then (n138 (decide (a1 < a2))).bind fun y3 => some (y3, 0) else if a0 = 7 then (n138 (decide (a1 ≤ a2))).bind fun y4 => some (y4, 0) else if a0 = 8 then (n138 (decide (a1 = a2))).bind fun y5 => some (y5, 0) else if a2 = 0 then some (MeanVal.mk 0 0 [], 1) else if a0 = 4 then if a2 = 0 then none else (n137 (IntKind.i64.wrap (a1.tdiv a2))).bind fun y6 => some (y6, 0) else if a2 = 0 then none else (n137 (a1.tmod a2)).bind fun y7 => some (y7, 0) := by
  rw [n173, fnO_code h173 rfl Go.Proofs.Tryz.func173 (c := cd173) rfl (a0, a1, a2, ()) rfl]
  simp (maxSteps := 60000000) (disch := first | (intros; rename_i h; cases h; done) | decide +kernel) only [evS, seS, List.map_replicate, Nat.reduceDiv, Nat.reduceMod, Nat.reduceEqDiff, reduceCtorEq, ↓reduceIte, Nat.reduceLT, Nat.reduceAdd, Nat.reduceMul, Nat.reduceSub, Nat.reduceLeDiff, Nat.reduceBEq, Int.reduceEq, Int.reduceNeg, Int.reduceToNat, Int.reduceLE, Int.reduceLT, cd173, Go.Proofs.Tryz.f173, h173.r, m173, lv_pl, pl173, c137, c138]
  all_goals try simp only [bindN_eq]
end Go.Fs.Se

set_option linter.unusedVariables false
set_option linter.unusedSimpArgs false
set_option maxRecDepth 40000
set_option maxHeartbeats 4000000
open Go.RowKit
namespace Go.Fs.Se
open Cel (cel unc)
open Dat (enc dec)
open Arg (ea da)
/-! loop.example/smithy/impl.MeanPrim -/
theorem n165_eq (a0 : ByteArray) (a1 : (List MeanVal)) : n165 a0 a1 = (n154 a0).bind fun y0 => bindB (if y0.snd = 0 then some true else (n205 a1).bind fun y1 => (n157 y1 y0.fst).bind fun y2 => some !y2) fun y3 => if y3 = true then some (MeanVal.mk 0 0 [], -1) else (n206 a0 a1).bind fun y4 => some (y4.fst, y4.snd) := by
  rw [n165, fnO_code h165 rfl Go.Proofs.Tryz.func165 (c := cd165) rfl (a0, a1, ()) rfl]
  simp (maxSteps := 60000000) (disch := first | (intros; rename_i h; cases h; done) | decide +kernel) only [evS, seS, List.map_replicate, Nat.reduceDiv, Nat.reduceMod, Nat.reduceEqDiff, reduceCtorEq, ↓reduceIte, Nat.reduceLT, Nat.reduceAdd, Nat.reduceMul, Nat.reduceSub, Nat.reduceLeDiff, Nat.reduceBEq, Int.reduceEq, Int.reduceNeg, Int.reduceToNat, Int.reduceLE, Int.reduceLT, cd165, Go.Proofs.Tryz.f165, h165.r, m165, lv_pl, pl165, c154, c157, c205, c206]
  all_goals try simp only [bindN_eq]
end Go.Fs.Se

set_option linter.unusedVariables false
set_option linter.unusedSimpArgs false
set_option maxRecDepth 40000
set_option maxHeartbeats 4000000
open Go.RowKit
namespace Go.Fs.Se
open Cel (cel unc)
open Dat (enc dec)
open Arg (ea da)
/-! loop.example/smithy/impl.prim -/
theorem n206_eq (a0 : ByteArray) (a1 : (List MeanVal)) : n206 a0 a1 = (getI a1 0).bind fun y0 => if a0 = ByteArray.mk #[110, 111, 116] then (n121 (decide (y0.num = 0))).bind fun y1 => some (y1, 0) else if a0 = ByteArray.mk #[97, 110, 100] then bindB (if decide (y0.num = 0) = false then (getI a1 1).bind fun y2 => some !decide (y2.num = 0) else some false) fun y3 => (n121 y3).bind fun y4 => some (y4, 0) else if a0 = ByteArray.mk #[111, 114] then bindB (if decide (y0.num = 0) = false then some true else (getI a1 1).bind fun y5 => some !decide (y5.num = 0)) fun y6 => (n121 y6).bind fun y7 => some (y7, 0) else if a0 = ByteArray.mk #[108, 101, 110] then (n120 (↑y0.row.length : Int)).bind fun y8 => some (y8, 0) else if a0 = ByteArray.mk #[112, 114, 105, 110, 116] then (n120 y0.num).bind fun y9 => some (y9, 0) else if a0 = ByteArray.mk #[106, 111, 105, 110] then none else if a0 = ByteArray.mk #[97, 116] then (getI a1 1).bind fun y10 => (n223 y10.num (↑y0.row.length : Int)).bind fun y11 => if y11 = false then some (MeanVal.mk 0 0 [], 2) else if a0 = ByteArray.mk #[97, 116] then (getI y0.row y10.num).bind fun y12 => (n120 y12).bind fun y13 => some (y13, 0) else (n152 y0.row).bind fun y14 => (getI a1 2).bind fun y15 => (getI y14 y10.num).bind fun y16 => y14[y10.num.toNat]?.bind fun y19 => (n164 (y14.set y10.num.toNat y15.num)).bind fun y20 => some (y20, 0) else if a0 = ByteArray.mk #[112, 117, 116] then (getI a1 1).bind fun y21 => (n223 y21.num (↑y0.row.length : Int)).bind fun y22 => if y22 = false then some (MeanVal.mk 0 0 [], 2) else if a0 = ByteArray.mk #[97, 116] then (getI y0.row y21.num).bind fun y23 => (n120 y23).bind fun y24 => some (y24, 0) else (n152 y0.row).bind fun y25 => (getI a1 2).bind fun y26 => (getI y25 y21.num).bind fun y27 => y25[y21.num.toNat]?.bind fun y30 => (n164 (y25.set y21.num.toNat y26.num)).bind fun y31 => some (y31, 0) else (getI a1 1).bind fun y32 => (n224 a0 y0.num y32.num).bind fun y33 => some (y33.fst, y33.snd) := by
  rw [n206, fnO_code h206 rfl Go.Proofs.Tryz.func206 (c := cd206) rfl (a0, a1, ()) rfl]
  simp (maxSteps := 60000000) (disch := first | (intros; rename_i h; cases h; done) | decide +kernel) only [evS, seS, List.map_replicate, Nat.reduceDiv, Nat.reduceMod, Nat.reduceEqDiff, reduceCtorEq, ↓reduceIte, Nat.reduceLT, Nat.reduceAdd, Nat.reduceMul, Nat.reduceSub, Nat.reduceLeDiff, Nat.reduceBEq, Int.reduceEq, Int.reduceNeg, Int.reduceToNat, Int.reduceLE, Int.reduceLT, cd206, Go.Proofs.Tryz.f206, h206.r, m206, lv_pl, pl206, c120, c121, c152, c164, c222, c223, c224]
  all_goals try simp only [bindN_eq]
end Go.Fs.Se

set_option linter.unusedVariables false
set_option linter.unusedSimpArgs false
set_option maxRecDepth 40000
set_option maxHeartbeats 4000000
open Go.RowKit
namespace Go.Fs.Se
open Cel (cel unc)
open Dat (enc dec)
open Arg (ea da)
/-! loop.example/smithy/impl.arith -/
theorem n224_eq (a0 : ByteArray) (a1 : Int) (a2 : Int) : n224 a0 a1 a2 = if a0 = ByteArray.mk #[43] then (n120 (IntKind.i64.wrap (a1 + a2))).bind fun y0 => some (y0, 0) else if a0 = ByteArray.mk #[45] then (n120 (IntKind.i64.wrap (a1 - a2))).bind fun y1 => some (y1, 0) else if a0 = ByteArray.mk #[42] then (n120 (IntKind.i64.wrap (a1 * a2))).bind fun y2 => some (y2, 0) else if a0 = ByteArray.mk #[60] then (n121 (decide (a1 < a2))).bind fun y3 => some (y3, 0) else if a0 = ByteArray.mk #[60, 61] then (n121 (decide (a1 ≤ a2))).bind fun y4 => some (y4, 0) else if a0 = ByteArray.mk #[61] then (n121 (decide (a1 = a2))).bind fun y5 => some (y5, 0) else if a2 = 0 then some (MeanVal.mk 0 0 [], 1) else if a0 = ByteArray.mk #[47] then if a2 = 0 then none else (n120 (IntKind.i64.wrap (a1.tdiv a2))).bind fun y6 => some (y6, 0) else if a2 = 0 then none else (n120 (a1.tmod a2)).bind fun y7 => some (y7, 0) := by
  rw [n224, fnO_code h224 rfl Go.Proofs.Tryz.func224 (c := cd224) rfl (a0, a1, a2, ()) rfl]
  simp (maxSteps := 60000000) (disch := first | (intros; rename_i h; cases h; done) | decide +kernel) only [evS, seS, List.map_replicate, Nat.reduceDiv, Nat.reduceMod, Nat.reduceEqDiff, reduceCtorEq, ↓reduceIte, Nat.reduceLT, Nat.reduceAdd, Nat.reduceMul, Nat.reduceSub, Nat.reduceLeDiff, Nat.reduceBEq, Int.reduceEq, Int.reduceNeg, Int.reduceToNat, Int.reduceLE, Int.reduceLT, cd224, Go.Proofs.Tryz.f224, h224.r, m224, lv_pl, pl224, c120, c121]
  all_goals try simp only [bindN_eq]
end Go.Fs.Se

set_option linter.unusedVariables false
set_option linter.unusedSimpArgs false
set_option maxRecDepth 40000
set_option maxHeartbeats 4000000
open Go.RowKit
namespace Go.Fs.Se
open Cel (cel unc)
open Dat (enc dec)
open Arg (ea da)
/-! loop.example/smithy/spec.l18Fold -/
noncomputable def l28_3 (a0 : TreeExpr) (t4 : Int) (r2 : List TreeExpr) : Option (TreeExpr) := evRAt (envOf M .x) (lvT 28) cd28 [true, true, false, true, false] (endKM (β := TreeExpr) M 28 Go.Proofs.Tryz.f28.results.toList) (stL 68 [(1, AV.a 500000 0), (2, AV.a 500001 0), (3, AV.r 500002), (4, AV.d (D.i IntKind.i64 t4))] [(500000, some (Ob.box [AV.d (D.i IntKind.i64 a0.kind), AV.d (D.i IntKind.i64 a0.num), AV.d (D.s a0.name), AV.d (D.s a0.mod), AV.d (D.l 5 (List.map cel a0.kids))])), (500001, some (Ob.box [AV.d (D.i IntKind.i64 0), AV.d (D.i IntKind.i64 0), AV.d (D.s ByteArray.empty), AV.d (D.s ByteArray.empty), AV.r 500003])), (500002, some (Ob.row 5 (List.map cel r2) true false 0)), (500003, some (Ob.row 5 [] true false 0))])
theorem n28_eq (a0 : TreeExpr) : n28 a0 = l28_3 a0 0 [] := by
  rw [n28, fnM_code h28 rfl Go.Proofs.Tryz.func28 (c := cd28) rfl (a0, ()) rfl]
  simp (maxSteps := 60000000) (disch := first | (intros; rename_i h; cases h; done) | decide +kernel) only [evS, seS, List.map_replicate, Nat.reduceDiv, Nat.reduceMod, Nat.reduceEqDiff, reduceCtorEq, ↓reduceIte, Nat.reduceLT, Nat.reduceAdd, Nat.reduceMul, Nat.reduceSub, Nat.reduceLeDiff, Nat.reduceBEq, Int.reduceEq, Int.reduceNeg, Int.reduceToNat, Int.reduceLE, Int.reduceLT, cd28, Go.Proofs.Tryz.f28, h28.r, m28, lv_pl, pl28, c28, c76, c77, c78, c79, lv28_3, l28_3]
  all_goals try simp only [rnS, seS, Nat.reduceEqDiff, reduceCtorEq, ↓reduceIte, Nat.reduceAdd, Nat.reduceLeDiff, Nat.reduceBEq, Nat.reduceMul, lv28_3]
theorem l28_3_eq (a0 : TreeExpr) (t4 : Int) (r2 : List TreeExpr) : l28_3 a0 t4 r2 = if t4 < (↑a0.kids.length : Int) then (getI a0.kids t4).bind fun y0 => (n28 y0).bind fun y1 => if (r2.length + 1) * 72 ≤ 140737488355328 ∧ r2.length ≤ 140737488355327 then l28_3 a0 (IntKind.i64.wrap (t4 + 1)) (r2 ++ [y1]) else none else bindB (if a0.kind = 4 then (n76 a0.name).bind fun y2 => some (decide (14 < y2)) else some false) fun y3 => if y3 = true then n77 (TreeExpr.mk a0.kind a0.num a0.name a0.mod r2) else if a0.kind = 4 then n78 (TreeExpr.mk a0.kind a0.num a0.name a0.mod r2) else if a0.kind = 5 then (getI r2 0).bind fun y4 => r2[0]?.bind fun y7 => r2[0]?.bind fun y10 => (n79 (TreeExpr.mk y7.kind y7.num y7.name y7.mod y10.kids)).bind fun y11 => if y11.snd = true ∧ y11.fst.kind = 2 then (getI r2 (IntKind.i64.wrap (2 - y11.fst.num))).bind fun y12 => r2[(IntKind.i64.wrap (2 - y11.fst.num)).toNat]?.bind fun y15 => r2[(IntKind.i64.wrap (2 - y11.fst.num)).toNat]?.bind fun y18 => some (TreeExpr.mk y15.kind y15.num y15.name y15.mod y18.kids) else some (TreeExpr.mk a0.kind a0.num a0.name a0.mod r2) else some (TreeExpr.mk a0.kind a0.num a0.name a0.mod r2) := by
  rw [l28_3]
  simp only [evRAt, locS, cd28, Go.Proofs.Tryz.f28]
  rw [evR_eq]
  simp (maxSteps := 60000000) (disch := first | (intros; rename_i h; cases h; done) | decide +kernel) only [evS, seS, List.map_replicate, Nat.reduceDiv, Nat.reduceMod, Nat.reduceEqDiff, reduceCtorEq, ↓reduceIte, Nat.reduceLT, Nat.reduceAdd, Nat.reduceMul, Nat.reduceSub, Nat.reduceLeDiff, Nat.reduceBEq, Int.reduceEq, Int.reduceNeg, Int.reduceToNat, Int.reduceLE, Int.reduceLT, cd28, Go.Proofs.Tryz.f28, h28.r, m28, lv_pl, pl28, c28, c76, c77, c78, c79, lv28_3, l28_3]
  all_goals try simp only [rnS, seS, Nat.reduceEqDiff, reduceCtorEq, ↓reduceIte, Nat.reduceAdd, Nat.reduceLeDiff, Nat.reduceBEq, Nat.reduceMul, lv28_3]
  all_goals try simp only [bindN_eq]
end Go.Fs.Se

set_option linter.unusedVariables false
set_option linter.unusedSimpArgs false
set_option maxRecDepth 40000
set_option maxHeartbeats 4000000
open Go.RowKit
namespace Go.Fs.Se
open Cel (cel unc)
open Dat (enc dec)
open Arg (ea da)
/-! loop.example/smithy/impl.fold -/
noncomputable def l33_3 (a0 : TreeExpr) (t18 : Int) (r3 : List TreeExpr) : Option (TreeExpr) := evRAt (envOf M .x) (lvT 33) cd33 [true, true, false, true, false] (endK (β := TreeExpr) M 33 .x Go.Proofs.Tryz.f33.results.toList) (stL 32 [(2, AV.a 500000 0), (3, AV.a 500001 0), (16, AV.d (D.l 5 (List.map cel a0.kids))), (17, AV.d (D.i IntKind.i64 (↑a0.kids.length : Int))), (18, AV.d (D.i IntKind.i64 t18))] [(500000, some (Ob.box [AV.d (D.i IntKind.i64 0), AV.d (D.i IntKind.i64 0), AV.d (D.s ByteArray.empty), AV.d (D.s ByteArray.empty), AV.r 500002])), (500001, some (Ob.box [AV.d (D.i IntKind.i64 a0.kind), AV.d (D.i IntKind.i64 a0.num), AV.d (D.s a0.name), AV.d (D.s a0.mod), AV.r 500003])), (500002, some (Ob.row 5 [] true false 0)), (500003, some (Ob.row 5 (List.map cel r3) true false 0))])
theorem n33_eq (a0 : TreeExpr) : n33 a0 = l33_3 a0 0 [] := by
  rw [n33, fnO_code h33 rfl Go.Proofs.Tryz.func33 (c := cd33) rfl (a0, ()) rfl]
  simp (maxSteps := 60000000) (disch := first | (intros; rename_i h; cases h; done) | decide +kernel) only [evS, seS, List.map_replicate, Nat.reduceDiv, Nat.reduceMod, Nat.reduceEqDiff, reduceCtorEq, ↓reduceIte, Nat.reduceLT, Nat.reduceAdd, Nat.reduceMul, Nat.reduceSub, Nat.reduceLeDiff, Nat.reduceBEq, Int.reduceEq, Int.reduceNeg, Int.reduceToNat, Int.reduceLE, Int.reduceLT, cd33, Go.Proofs.Tryz.f33, h33.r, m33, lv_pl, pl33, c33, c90, lv33_3, l33_3]
  all_goals try simp only [rnS, seS, Nat.reduceEqDiff, reduceCtorEq, ↓reduceIte, Nat.reduceAdd, Nat.reduceLeDiff, Nat.reduceBEq, Nat.reduceMul, lv33_3]
theorem l33_3_eq (a0 : TreeExpr) (t18 : Int) (r3 : List TreeExpr) : l33_3 a0 t18 r3 = if t18 < (↑a0.kids.length : Int) then (getI a0.kids t18).bind fun y0 => (n33 y0).bind fun y1 => if (r3.length + 1) * 72 ≤ 140737488355328 ∧ r3.length ≤ 140737488355327 then l33_3 a0 (IntKind.i64.wrap (t18 + 1)) (r3 ++ [y1]) else none else n90 (TreeExpr.mk a0.kind a0.num a0.name a0.mod r3) := by
  rw [l33_3]
  simp only [evRAt, locS, cd33, Go.Proofs.Tryz.f33]
  rw [evR_eq]
  simp (maxSteps := 60000000) (disch := first | (intros; rename_i h; cases h; done) | decide +kernel) only [evS, seS, List.map_replicate, Nat.reduceDiv, Nat.reduceMod, Nat.reduceEqDiff, reduceCtorEq, ↓reduceIte, Nat.reduceLT, Nat.reduceAdd, Nat.reduceMul, Nat.reduceSub, Nat.reduceLeDiff, Nat.reduceBEq, Int.reduceEq, Int.reduceNeg, Int.reduceToNat, Int.reduceLE, Int.reduceLT, cd33, Go.Proofs.Tryz.f33, h33.r, m33, lv_pl, pl33, c33, c90, lv33_3, l33_3]
  all_goals try simp only [rnS, seS, Nat.reduceEqDiff, reduceCtorEq, ↓reduceIte, Nat.reduceAdd, Nat.reduceLeDiff, Nat.reduceBEq, Nat.reduceMul, lv33_3]
  all_goals try simp only [bindN_eq]
end Go.Fs.Se
