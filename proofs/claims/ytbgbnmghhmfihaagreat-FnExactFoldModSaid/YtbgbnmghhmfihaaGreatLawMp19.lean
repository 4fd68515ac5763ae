/- A part of the proof: an evaluator of the program's code over plain data, proved sound, and walks of the program's functions by it. No conditions beyond those in the theorems. -/
import Derived.Test.YtbgbnmghhmfihaaGreatLawMp15
import Derived.Test.YtbgbnmghhmfihaaGreatLawMp18
set_option linter.unusedVariables false
set_option linter.unusedSimpArgs false
set_option linter.constructorNameAsVariable false
set_option linter.unusedSectionVars false
set_option linter.defProp false
set_option linter.unusedVariables false
set_option linter.unusedSimpArgs false
set_option maxRecDepth 40000
set_option maxHeartbeats 4000000
open Go.RowKit
namespace Go.Fs.Se
open Cel (cel unc)
open Dat (enc dec)
open Arg (ea da)
/-! loop.example/smithy/laws.szTreeExpr -/
theorem n71_eq (a0 : TreeExpr) (a1 : Int) : n71 a0 a1 = if IntKind.i64.wrap (a1 - (↑a0.name.size : Int)) < 0 then some (-1) else if IntKind.i64.wrap (IntKind.i64.wrap (a1 - (↑a0.name.size : Int)) - (↑a0.mod.size : Int)) < 0 then some (-1) else (n26 a0.kids (IntKind.i64.wrap (IntKind.i64.wrap (a1 - (↑a0.name.size : Int)) - (↑a0.mod.size : Int)))).bind fun y0 => if y0 < 0 then some (-1) else some y0 := by
  rw [n71, fnO_code h71 rfl Go.Proofs.Tryz.func71 (c := cd71) rfl (a0, a1, ()) rfl]
  simp (maxSteps := 60000000) (disch := first | (intros; rename_i h; cases h; done) | decide +kernel) only [evS, seS, List.map_replicate, Nat.reduceDiv, Nat.reduceMod, Nat.reduceEqDiff, reduceCtorEq, ↓reduceIte, Nat.reduceLT, Nat.reduceAdd, Nat.reduceMul, Nat.reduceSub, Nat.reduceLeDiff, Nat.reduceBEq, Int.reduceEq, Int.reduceNeg, Int.reduceToNat, Int.reduceLE, Int.reduceLT, cd71, Go.Proofs.Tryz.f71, h71.r, m71, lv_pl, pl71, c26]
  all_goals try simp only [bindN_eq]
end Go.Fs.Se

set_option linter.unusedVariables false
set_option linter.unusedSimpArgs false
set_option maxRecDepth 40000
set_option maxHeartbeats 4000000
open Go.RowKit
namespace Go.Fs.Se
open Cel (cel unc)
open Dat (enc dec)
open Arg (ea da)
/-! loop.example/smithy/laws.szTreeExprS -/
noncomputable def l26_5 (a0 : (List TreeExpr)) (a1 : Int) (t1 : Int) (t5 : Int) : Option (Int) := evRAt (envOf M .x) (lvT 26) cd26 [true, true, true, false, true, false] (endK (β := Int) M 26 .x Go.Proofs.Tryz.f26.results.toList) (stL 27 [(0, AV.d (D.l 5 (List.map cel a0))), (1, AV.d (D.i IntKind.i64 t1)), (5, AV.d (D.i IntKind.i64 t5))] [])
theorem n26_eq (a0 : (List TreeExpr)) (a1 : Int) : n26 a0 a1 = if IntKind.i64.wrap (a1 - (↑a0.length : Int)) < 0 then some (-1) else l26_5 a0 a1 (IntKind.i64.wrap (a1 - (↑a0.length : Int))) 0 := by
  rw [n26, fnO_code h26 rfl Go.Proofs.Tryz.func26 (c := cd26) rfl (a0, a1, ()) rfl]
  simp (maxSteps := 60000000) (disch := first | (intros; rename_i h; cases h; done) | decide +kernel) only [evS, seS, List.map_replicate, Nat.reduceDiv, Nat.reduceMod, Nat.reduceEqDiff, reduceCtorEq, ↓reduceIte, Nat.reduceLT, Nat.reduceAdd, Nat.reduceMul, Nat.reduceSub, Nat.reduceLeDiff, Nat.reduceBEq, Int.reduceEq, Int.reduceNeg, Int.reduceToNat, Int.reduceLE, Int.reduceLT, cd26, Go.Proofs.Tryz.f26, h26.r, m26, lv_pl, pl26, c71, lv26_5, l26_5]
  all_goals try simp only [rnS, seS, Nat.reduceEqDiff, reduceCtorEq, ↓reduceIte, Nat.reduceAdd, Nat.reduceLeDiff, Nat.reduceBEq, Nat.reduceMul, lv26_5]
theorem l26_5_eq (a0 : (List TreeExpr)) (a1 : Int) (t1 : Int) (t5 : Int) : l26_5 a0 a1 t1 t5 = if t5 < (↑a0.length : Int) then (getI a0 t5).bind fun y0 => (n71 y0 t1).bind fun y1 => if y1 < 0 then some (-1) else l26_5 a0 a1 y1 (IntKind.i64.wrap (t5 + 1)) else some t1 := by
  rw [l26_5]
  simp only [evRAt, locS, cd26, Go.Proofs.Tryz.f26]
  rw [evR_eq]
  simp (maxSteps := 60000000) (disch := first | (intros; rename_i h; cases h; done) | decide +kernel) only [evS, seS, List.map_replicate, Nat.reduceDiv, Nat.reduceMod, Nat.reduceEqDiff, reduceCtorEq, ↓reduceIte, Nat.reduceLT, Nat.reduceAdd, Nat.reduceMul, Nat.reduceSub, Nat.reduceLeDiff, Nat.reduceBEq, Int.reduceEq, Int.reduceNeg, Int.reduceToNat, Int.reduceLE, Int.reduceLT, cd26, Go.Proofs.Tryz.f26, h26.r, m26, lv_pl, pl26, c71, lv26_5, l26_5]
  all_goals try simp only [rnS, seS, Nat.reduceEqDiff, reduceCtorEq, ↓reduceIte, Nat.reduceAdd, Nat.reduceLeDiff, Nat.reduceBEq, Nat.reduceMul, lv26_5]
  all_goals try simp only [bindN_eq]
end Go.Fs.Se

set_option linter.unusedVariables false
set_option linter.unusedSimpArgs false
set_option maxRecDepth 40000
set_option maxHeartbeats 4000000
open Go.RowKit
namespace Go.Fs.Se
open Cel (cel unc)
open Dat (enc dec)
open Arg (ea da)
/-! loop.example/smithy/laws.toTreeExpr -/
theorem n81_eq (a0 : TreeExpr) : n81 a0 = (n31 a0.kids).bind fun y0 => some (TreeExpr.mk a0.kind a0.num a0.name a0.mod y0) := by
  rw [n81, fnO_code h81 rfl Go.Proofs.Tryz.func81 (c := cd81) rfl (a0, ()) rfl]
  simp (maxSteps := 60000000) (disch := first | (intros; rename_i h; cases h; done) | decide +kernel) only [evS, seS, List.map_replicate, Nat.reduceDiv, Nat.reduceMod, Nat.reduceEqDiff, reduceCtorEq, ↓reduceIte, Nat.reduceLT, Nat.reduceAdd, Nat.reduceMul, Nat.reduceSub, Nat.reduceLeDiff, Nat.reduceBEq, Int.reduceEq, Int.reduceNeg, Int.reduceToNat, Int.reduceLE, Int.reduceLT, cd81, Go.Proofs.Tryz.f81, h81.r, m81, lv_pl, pl81, c31]
  all_goals try simp only [bindN_eq]
end Go.Fs.Se

set_option linter.unusedVariables false
set_option linter.unusedSimpArgs false
set_option maxRecDepth 40000
set_option maxHeartbeats 4000000
open Go.RowKit
namespace Go.Fs.Se
open Cel (cel unc)
open Dat (enc dec)
open Arg (ea da)
/-! loop.example/smithy/laws.toTreeExprS -/
noncomputable def l31_3 (a0 : (List TreeExpr)) (t4 : Int) (r0 : List TreeExpr) : Option ((List TreeExpr)) := evRAt (envOf M .x) (lvT 31) cd31 [true, true, false, true, false] (endK (β := (List TreeExpr)) M 31 .x Go.Proofs.Tryz.f31.results.toList) (stL 23 [(0, AV.d (D.l 5 (List.map cel a0))), (3, AV.r 500000), (4, AV.d (D.i IntKind.i64 t4))] [(500000, some (Ob.row 5 (List.map cel r0) true false 0))])
theorem n31_eq (a0 : (List TreeExpr)) : n31 a0 = if 0 ≤ (↑a0.length : Int) ∧ (↑a0.length : Int) * 72 ≤ 140737488355328 ∧ (↑a0.length : Int) ≤ 140737488355328 then l31_3 a0 0 (List.replicate a0.length (TreeExpr.mk 0 0 ByteArray.empty ByteArray.empty [])) else none := by
  rw [n31, fnO_code h31 rfl Go.Proofs.Tryz.func31 (c := cd31) rfl (a0, ()) rfl]
  simp (maxSteps := 60000000) (disch := first | (intros; rename_i h; cases h; done) | decide +kernel) only [evS, seS, List.map_replicate, Nat.reduceDiv, Nat.reduceMod, Nat.reduceEqDiff, reduceCtorEq, ↓reduceIte, Nat.reduceLT, Nat.reduceAdd, Nat.reduceMul, Nat.reduceSub, Nat.reduceLeDiff, Nat.reduceBEq, Int.reduceEq, Int.reduceNeg, Int.reduceToNat, Int.reduceLE, Int.reduceLT, cd31, Go.Proofs.Tryz.f31, h31.r, m31, lv_pl, pl31, c81, lv31_3, l31_3]
  all_goals try simp only [rnS, seS, Nat.reduceEqDiff, reduceCtorEq, ↓reduceIte, Nat.reduceAdd, Nat.reduceLeDiff, Nat.reduceBEq, Nat.reduceMul, lv31_3]
theorem l31_3_eq (a0 : (List TreeExpr)) (t4 : Int) (r0 : List TreeExpr) : l31_3 a0 t4 r0 = if t4 < (↑a0.length : Int) then (getI a0 t4).bind fun y0 => (n81 y0).bind fun y1 => (getI r0 t4).bind fun y2 => r0[t4.toNat]?.bind fun y5 => l31_3 a0 (IntKind.i64.wrap (t4 + 1)) (r0.set t4.toNat y1) else some r0 := by
  rw [l31_3]
  simp only [evRAt, locS, cd31, Go.Proofs.Tryz.f31]
  rw [evR_eq]
  simp (maxSteps := 60000000) (disch := first | (intros; rename_i h; cases h; done) | decide +kernel) only [evS, seS, List.map_replicate, Nat.reduceDiv, Nat.reduceMod, Nat.reduceEqDiff, reduceCtorEq, ↓reduceIte, Nat.reduceLT, Nat.reduceAdd, Nat.reduceMul, Nat.reduceSub, Nat.reduceLeDiff, Nat.reduceBEq, Int.reduceEq, Int.reduceNeg, Int.reduceToNat, Int.reduceLE, Int.reduceLT, cd31, Go.Proofs.Tryz.f31, h31.r, m31, lv_pl, pl31, c81, lv31_3, l31_3]
  all_goals try simp only [rnS, seS, Nat.reduceEqDiff, reduceCtorEq, ↓reduceIte, Nat.reduceAdd, Nat.reduceLeDiff, Nat.reduceBEq, Nat.reduceMul, lv31_3]
  all_goals try simp only [bindN_eq]
end Go.Fs.Se

set_option linter.unusedVariables false
set_option linter.unusedSimpArgs false
set_option maxRecDepth 40000
set_option maxHeartbeats 4000000
open Go.RowKit
namespace Go.Fs.Se
open Cel (cel unc)
open Dat (enc dec)
open Arg (ea da)
/-! loop.example/smithy/laws.eqTreeExpr -/
theorem n92_eq (a0 : TreeExpr) (a1 : TreeExpr) : n92 a0 a1 = if decide (a0.kind = a1.kind) = false then some false else if decide (a0.num = a1.num) = false then some false else if decide (a0.name = a1.name) = false then some false else if decide (a0.mod = a1.mod) = false then some false else (n36 a0.kids a1.kids).bind fun y0 => if y0 = false then some false else some true := by
  rw [n92, fnO_code h92 rfl Go.Proofs.Tryz.func92 (c := cd92) rfl (a0, a1, ()) rfl]
  simp (maxSteps := 60000000) (disch := first | (intros; rename_i h; cases h; done) | decide +kernel) only [evS, seS, List.map_replicate, Nat.reduceDiv, Nat.reduceMod, Nat.reduceEqDiff, reduceCtorEq, ↓reduceIte, Nat.reduceLT, Nat.reduceAdd, Nat.reduceMul, Nat.reduceSub, Nat.reduceLeDiff, Nat.reduceBEq, Int.reduceEq, Int.reduceNeg, Int.reduceToNat, Int.reduceLE, Int.reduceLT, cd92, Go.Proofs.Tryz.f92, h92.r, m92, lv_pl, pl92, c36]
  all_goals try simp only [bindN_eq]
end Go.Fs.Se

set_option linter.unusedVariables false
set_option linter.unusedSimpArgs false
set_option maxRecDepth 40000
set_option maxHeartbeats 4000000
open Go.RowKit
namespace Go.Fs.Se
open Cel (cel unc)
open Dat (enc dec)
open Arg (ea da)
/-! loop.example/smithy/laws.eqTreeExprS -/
noncomputable def l36_4 (a0 : (List TreeExpr)) (a1 : (List TreeExpr)) (t5 : Int) : Option (Bool) := evRAt (envOf M .x) (lvT 36) cd36 [true, true, false, true, false] (endK (β := Bool) M 36 .x Go.Proofs.Tryz.f36.results.toList) (stL 27 [(0, AV.d (D.l 5 (List.map cel a0))), (1, AV.d (D.l 5 (List.map cel a1))), (5, AV.d (D.i IntKind.i64 t5))] [])
theorem n36_eq (a0 : (List TreeExpr)) (a1 : (List TreeExpr)) : n36 a0 a1 = if decide ((↑a0.length : Int) = (↑a1.length : Int)) = false then some false else l36_4 a0 a1 0 := by
  rw [n36, fnO_code h36 rfl Go.Proofs.Tryz.func36 (c := cd36) rfl (a0, a1, ()) rfl]
  simp (maxSteps := 60000000) (disch := first | (intros; rename_i h; cases h; done) | decide +kernel) only [evS, seS, List.map_replicate, Nat.reduceDiv, Nat.reduceMod, Nat.reduceEqDiff, reduceCtorEq, ↓reduceIte, Nat.reduceLT, Nat.reduceAdd, Nat.reduceMul, Nat.reduceSub, Nat.reduceLeDiff, Nat.reduceBEq, Int.reduceEq, Int.reduceNeg, Int.reduceToNat, Int.reduceLE, Int.reduceLT, cd36, Go.Proofs.Tryz.f36, h36.r, m36, lv_pl, pl36, c92, lv36_4, l36_4]
  all_goals try simp only [rnS, seS, Nat.reduceEqDiff, reduceCtorEq, ↓reduceIte, Nat.reduceAdd, Nat.reduceLeDiff, Nat.reduceBEq, Nat.reduceMul, lv36_4]
theorem l36_4_eq (a0 : (List TreeExpr)) (a1 : (List TreeExpr)) (t5 : Int) : l36_4 a0 a1 t5 = if t5 < (↑a0.length : Int) then (getI a0 t5).bind fun y0 => (getI a1 t5).bind fun y1 => (n92 y0 y1).bind fun y2 => if y2 = false then some false else l36_4 a0 a1 (IntKind.i64.wrap (t5 + 1)) else some true := by
  rw [l36_4]
  simp only [evRAt, locS, cd36, Go.Proofs.Tryz.f36]
  rw [evR_eq]
  simp (maxSteps := 60000000) (disch := first | (intros; rename_i h; cases h; done) | decide +kernel) only [evS, seS, List.map_replicate, Nat.reduceDiv, Nat.reduceMod, Nat.reduceEqDiff, reduceCtorEq, ↓reduceIte, Nat.reduceLT, Nat.reduceAdd, Nat.reduceMul, Nat.reduceSub, Nat.reduceLeDiff, Nat.reduceBEq, Int.reduceEq, Int.reduceNeg, Int.reduceToNat, Int.reduceLE, Int.reduceLT, cd36, Go.Proofs.Tryz.f36, h36.r, m36, lv_pl, pl36, c92, lv36_4, l36_4]
  all_goals try simp only [rnS, seS, Nat.reduceEqDiff, reduceCtorEq, ↓reduceIte, Nat.reduceAdd, Nat.reduceLeDiff, Nat.reduceBEq, Nat.reduceMul, lv36_4]
  all_goals try simp only [bindN_eq]
end Go.Fs.Se

set_option linter.unusedVariables false
set_option linter.unusedSimpArgs false
set_option maxRecDepth 40000
set_option maxHeartbeats 4000000
open Go.RowKit
namespace Go.Fs.Se
open Cel (cel unc)
open Dat (enc dec)
open Arg (ea da)
/-! loop.example/smithy/laws.szTreeMod -/
theorem n5_eq (a0 : TreeMod) (a1 : Int) : n5 a0 a1 = (n24 a0.uses a1).bind fun y0 => if y0 < 0 then some (-1) else (n25 a0.funs y0).bind fun y1 => if y1 < 0 then some (-1) else (n26 a0.main y1).bind fun y2 => if y2 < 0 then some (-1) else some y2 := by
  rw [n5, fnO_code h5 rfl Go.Proofs.Tryz.func5 (c := cd5) rfl (a0, a1, ()) rfl]
  simp (maxSteps := 60000000) (disch := first | (intros; rename_i h; cases h; done) | decide +kernel) only [evS, seS, List.map_replicate, Nat.reduceDiv, Nat.reduceMod, Nat.reduceEqDiff, reduceCtorEq, ↓reduceIte, Nat.reduceLT, Nat.reduceAdd, Nat.reduceMul, Nat.reduceSub, Nat.reduceLeDiff, Nat.reduceBEq, Int.reduceEq, Int.reduceNeg, Int.reduceToNat, Int.reduceLE, Int.reduceLT, cd5, Go.Proofs.Tryz.f5, h5.r, m5, lv_pl, pl5, c24, c25, c26]
  all_goals try simp only [bindN_eq]
end Go.Fs.Se

set_option linter.unusedVariables false
set_option linter.unusedSimpArgs false
set_option maxRecDepth 40000
set_option maxHeartbeats 4000000
open Go.RowKit
namespace Go.Fs.Se
open Cel (cel unc)
open Dat (enc dec)
open Arg (ea da)
/-! loop.example/smithy/laws.toTreeMod -/
theorem n7_eq (a0 : TreeMod) : n7 a0 = (n29 a0.uses).bind fun y0 => (n30 a0.funs).bind fun y1 => (n31 a0.main).bind fun y2 => some (TreeMod.mk y0 y1 y2) := by
  rw [n7, fnO_code h7 rfl Go.Proofs.Tryz.func7 (c := cd7) rfl (a0, ()) rfl]
  simp (maxSteps := 60000000) (disch := first | (intros; rename_i h; cases h; done) | decide +kernel) only [evS, seS, List.map_replicate, Nat.reduceDiv, Nat.reduceMod, Nat.reduceEqDiff, reduceCtorEq, ↓reduceIte, Nat.reduceLT, Nat.reduceAdd, Nat.reduceMul, Nat.reduceSub, Nat.reduceLeDiff, Nat.reduceBEq, Int.reduceEq, Int.reduceNeg, Int.reduceToNat, Int.reduceLE, Int.reduceLT, cd7, Go.Proofs.Tryz.f7, h7.r, m7, lv_pl, pl7, c29, c30, c31]
  all_goals try simp only [bindN_eq]
end Go.Fs.Se

set_option linter.unusedVariables false
set_option linter.unusedSimpArgs false
set_option maxRecDepth 40000
set_option maxHeartbeats 4000000
open Go.RowKit
namespace Go.Fs.Se
open Cel (cel unc)
open Dat (enc dec)
open Arg (ea da)
/-! loop.example/smithy/laws.eqTreeMod -/
theorem n9_eq (a0 : TreeMod) (a1 : TreeMod) : n9 a0 a1 = (n34 a0.uses a1.uses).bind fun y0 => if y0 = false then some false else (n35 a0.funs a1.funs).bind fun y1 => if y1 = false then some false else (n36 a0.main a1.main).bind fun y2 => if y2 = false then some false else some true := by
  rw [n9, fnO_code h9 rfl Go.Proofs.Tryz.func9 (c := cd9) rfl (a0, a1, ()) rfl]
  simp (maxSteps := 60000000) (disch := first | (intros; rename_i h; cases h; done) | decide +kernel) only [evS, seS, List.map_replicate, Nat.reduceDiv, Nat.reduceMod, Nat.reduceEqDiff, reduceCtorEq, ↓reduceIte, Nat.reduceLT, Nat.reduceAdd, Nat.reduceMul, Nat.reduceSub, Nat.reduceLeDiff, Nat.reduceBEq, Int.reduceEq, Int.reduceNeg, Int.reduceToNat, Int.reduceLE, Int.reduceLT, cd9, Go.Proofs.Tryz.f9, h9.r, m9, lv_pl, pl9, c34, c35, c36]
  all_goals try simp only [bindN_eq]
end Go.Fs.Se

set_option linter.unusedVariables false
set_option linter.unusedSimpArgs false
set_option maxRecDepth 40000
set_option maxHeartbeats 4000000
open Go.RowKit
namespace Go.Fs.Se
open Cel (cel unc)
open Dat (enc dec)
open Arg (ea da)
/-! loop.example/smithy/laws.szStringS -/
noncomputable def l24_5 (a0 : (List ByteArray)) (a1 : Int) (t1 : Int) (t5 : Int) : Option (Int) := evRAt (envOf M .x) (lvT 24) cd24 [true, true, true, false, true, false] (endK (β := Int) M 24 .x Go.Proofs.Tryz.f24.results.toList) (stL 28 [(0, AV.d (D.l 1 (List.map cel a0))), (1, AV.d (D.i IntKind.i64 t1)), (5, AV.d (D.i IntKind.i64 t5))] [])
theorem n24_eq (a0 : (List ByteArray)) (a1 : Int) : n24 a0 a1 = if IntKind.i64.wrap (a1 - (↑a0.length : Int)) < 0 then some (-1) else l24_5 a0 a1 (IntKind.i64.wrap (a1 - (↑a0.length : Int))) 0 := by
  rw [n24, fnO_code h24 rfl Go.Proofs.Tryz.func24 (c := cd24) rfl (a0, a1, ()) rfl]
  simp (maxSteps := 60000000) (disch := first | (intros; rename_i h; cases h; done) | decide +kernel) only [evS, seS, List.map_replicate, Nat.reduceDiv, Nat.reduceMod, Nat.reduceEqDiff, reduceCtorEq, ↓reduceIte, Nat.reduceLT, Nat.reduceAdd, Nat.reduceMul, Nat.reduceSub, Nat.reduceLeDiff, Nat.reduceBEq, Int.reduceEq, Int.reduceNeg, Int.reduceToNat, Int.reduceLE, Int.reduceLT, cd24, Go.Proofs.Tryz.f24, h24.r, m24, lv_pl, pl24, lv24_5, l24_5]
  all_goals try simp only [rnS, seS, Nat.reduceEqDiff, reduceCtorEq, ↓reduceIte, Nat.reduceAdd, Nat.reduceLeDiff, Nat.reduceBEq, Nat.reduceMul, lv24_5]
theorem l24_5_eq (a0 : (List ByteArray)) (a1 : Int) (t1 : Int) (t5 : Int) : l24_5 a0 a1 t1 t5 = if t5 < (↑a0.length : Int) then (getI a0 t5).bind fun y0 => if IntKind.i64.wrap (t1 - (↑y0.size : Int)) < 0 then some (-1) else l24_5 a0 a1 (IntKind.i64.wrap (t1 - (↑y0.size : Int))) (IntKind.i64.wrap (t5 + 1)) else some t1 := by
  rw [l24_5]
  simp only [evRAt, locS, cd24, Go.Proofs.Tryz.f24]
  rw [evR_eq]
  simp (maxSteps := 60000000) (disch := first | (intros; rename_i h; cases h; done) | decide +kernel) only [evS, seS, List.map_replicate, Nat.reduceDiv, Nat.reduceMod, Nat.reduceEqDiff, reduceCtorEq, ↓reduceIte, Nat.reduceLT, Nat.reduceAdd, Nat.reduceMul, Nat.reduceSub, Nat.reduceLeDiff, Nat.reduceBEq, Int.reduceEq, Int.reduceNeg, Int.reduceToNat, Int.reduceLE, Int.reduceLT, cd24, Go.Proofs.Tryz.f24, h24.r, m24, lv_pl, pl24, lv24_5, l24_5]
  all_goals try simp only [rnS, seS, Nat.reduceEqDiff, reduceCtorEq, ↓reduceIte, Nat.reduceAdd, Nat.reduceLeDiff, Nat.reduceBEq, Nat.reduceMul, lv24_5]
  all_goals try simp only [bindN_eq]
end Go.Fs.Se

set_option linter.unusedVariables false
set_option linter.unusedSimpArgs false
set_option maxRecDepth 40000
set_option maxHeartbeats 4000000
open Go.RowKit
namespace Go.Fs.Se
open Cel (cel unc)
open Dat (enc dec)
open Arg (ea da)
/-! loop.example/smithy/laws.szTreeFunS -/
noncomputable def l25_5 (a0 : (List TreeFun)) (a1 : Int) (t1 : Int) (t5 : Int) : Option (Int) := evRAt (envOf M .x) (lvT 25) cd25 [true, true, true, false, true, false] (endK (β := Int) M 25 .x Go.Proofs.Tryz.f25.results.toList) (stL 27 [(0, AV.d (D.l 9 (List.map cel a0))), (1, AV.d (D.i IntKind.i64 t1)), (5, AV.d (D.i IntKind.i64 t5))] [])
theorem n25_eq (a0 : (List TreeFun)) (a1 : Int) : n25 a0 a1 = if IntKind.i64.wrap (a1 - (↑a0.length : Int)) < 0 then some (-1) else l25_5 a0 a1 (IntKind.i64.wrap (a1 - (↑a0.length : Int))) 0 := by
  rw [n25, fnO_code h25 rfl Go.Proofs.Tryz.func25 (c := cd25) rfl (a0, a1, ()) rfl]
  simp (maxSteps := 60000000) (disch := first | (intros; rename_i h; cases h; done) | decide +kernel) only [evS, seS, List.map_replicate, Nat.reduceDiv, Nat.reduceMod, Nat.reduceEqDiff, reduceCtorEq, ↓reduceIte, Nat.reduceLT, Nat.reduceAdd, Nat.reduceMul, Nat.reduceSub, Nat.reduceLeDiff, Nat.reduceBEq, Int.reduceEq, Int.reduceNeg, Int.reduceToNat, Int.reduceLE, Int.reduceLT, cd25, Go.Proofs.Tryz.f25, h25.r, m25, lv_pl, pl25, c70, lv25_5, l25_5]
  all_goals try simp only [rnS, seS, Nat.reduceEqDiff, reduceCtorEq, ↓reduceIte, Nat.reduceAdd, Nat.reduceLeDiff, Nat.reduceBEq, Nat.reduceMul, lv25_5]
theorem l25_5_eq (a0 : (List TreeFun)) (a1 : Int) (t1 : Int) (t5 : Int) : l25_5 a0 a1 t1 t5 = if t5 < (↑a0.length : Int) then (getI a0 t5).bind fun y0 => (n70 y0 t1).bind fun y1 => if y1 < 0 then some (-1) else l25_5 a0 a1 y1 (IntKind.i64.wrap (t5 + 1)) else some t1 := by
  rw [l25_5]
  simp only [evRAt, locS, cd25, Go.Proofs.Tryz.f25]
  rw [evR_eq]
  simp (maxSteps := 60000000) (disch := first | (intros; rename_i h; cases h; done) | decide +kernel) only [evS, seS, List.map_replicate, Nat.reduceDiv, Nat.reduceMod, Nat.reduceEqDiff, reduceCtorEq, ↓reduceIte, Nat.reduceLT, Nat.reduceAdd, Nat.reduceMul, Nat.reduceSub, Nat.reduceLeDiff, Nat.reduceBEq, Int.reduceEq, Int.reduceNeg, Int.reduceToNat, Int.reduceLE, Int.reduceLT, cd25, Go.Proofs.Tryz.f25, h25.r, m25, lv_pl, pl25, c70, lv25_5, l25_5]
  all_goals try simp only [rnS, seS, Nat.reduceEqDiff, reduceCtorEq, ↓reduceIte, Nat.reduceAdd, Nat.reduceLeDiff, Nat.reduceBEq, Nat.reduceMul, lv25_5]
  all_goals try simp only [bindN_eq]
end Go.Fs.Se

set_option linter.unusedVariables false
set_option linter.unusedSimpArgs false
set_option maxRecDepth 40000
set_option maxHeartbeats 4000000
open Go.RowKit
namespace Go.Fs.Se
open Cel (cel unc)
open Dat (enc dec)
open Arg (ea da)
/-! loop.example/smithy/laws.toStringS -/
noncomputable def l29_3 (a0 : (List ByteArray)) (t4 : Int) (r0 : List ByteArray) : Option ((List ByteArray)) := evRAt (envOf M .x) (lvT 29) cd29 [true, true, false, true, false] (endK (β := (List ByteArray)) M 29 .x Go.Proofs.Tryz.f29.results.toList) (stL 22 [(0, AV.d (D.l 1 (List.map cel a0))), (3, AV.r 500000), (4, AV.d (D.i IntKind.i64 t4))] [(500000, some (Ob.row 1 (List.map cel r0) true false 0))])
theorem n29_eq (a0 : (List ByteArray)) : n29 a0 = if 0 ≤ (↑a0.length : Int) ∧ (↑a0.length : Int) * 16 ≤ 140737488355328 ∧ (↑a0.length : Int) ≤ 140737488355328 then l29_3 a0 0 (List.replicate a0.length ByteArray.empty) else none := by
  rw [n29, fnO_code h29 rfl Go.Proofs.Tryz.func29 (c := cd29) rfl (a0, ()) rfl]
  simp (maxSteps := 60000000) (disch := first | (intros; rename_i h; cases h; done) | decide +kernel) only [evS, seS, List.map_replicate, Nat.reduceDiv, Nat.reduceMod, Nat.reduceEqDiff, reduceCtorEq, ↓reduceIte, Nat.reduceLT, Nat.reduceAdd, Nat.reduceMul, Nat.reduceSub, Nat.reduceLeDiff, Nat.reduceBEq, Int.reduceEq, Int.reduceNeg, Int.reduceToNat, Int.reduceLE, Int.reduceLT, cd29, Go.Proofs.Tryz.f29, h29.r, m29, lv_pl, pl29, lv29_3, l29_3]
  all_goals try simp only [rnS, seS, Nat.reduceEqDiff, reduceCtorEq, ↓reduceIte, Nat.reduceAdd, Nat.reduceLeDiff, Nat.reduceBEq, Nat.reduceMul, lv29_3]
theorem l29_3_eq (a0 : (List ByteArray)) (t4 : Int) (r0 : List ByteArray) : l29_3 a0 t4 r0 = if t4 < (↑a0.length : Int) then (getI a0 t4).bind fun y0 => (getI r0 t4).bind fun y1 => r0[t4.toNat]?.bind fun y4 => l29_3 a0 (IntKind.i64.wrap (t4 + 1)) (r0.set t4.toNat y0) else some r0 := by
  rw [l29_3]
  simp only [evRAt, locS, cd29, Go.Proofs.Tryz.f29]
  rw [evR_eq]
  simp (maxSteps := 60000000) (disch := first | (intros; rename_i h; cases h; done) | decide +kernel) only [evS, seS, List.map_replicate, Nat.reduceDiv, Nat.reduceMod, Nat.reduceEqDiff, reduceCtorEq, ↓reduceIte, Nat.reduceLT, Nat.reduceAdd, Nat.reduceMul, Nat.reduceSub, Nat.reduceLeDiff, Nat.reduceBEq, Int.reduceEq, Int.reduceNeg, Int.reduceToNat, Int.reduceLE, Int.reduceLT, cd29, Go.Proofs.Tryz.f29, h29.r, m29, lv_pl, pl29, lv29_3, l29_3]
  all_goals try simp only [rnS, seS, Nat.reduceEqDiff, reduceCtorEq, ↓reduceIte, Nat.reduceAdd, Nat.reduceLeDiff, Nat.reduceBEq, Nat.reduceMul, lv29_3]
  all_goals try simp only [bindN_eq]
end Go.Fs.Se

set_option linter.unusedVariables false
set_option linter.unusedSimpArgs false
set_option maxRecDepth 40000
set_option maxHeartbeats 4000000
open Go.RowKit
namespace Go.Fs.Se
open Cel (cel unc)
open Dat (enc dec)
open Arg (ea da)
/-! loop.example/smithy/laws.toTreeFunS -/
noncomputable def l30_3 (a0 : (List TreeFun)) (t4 : Int) (r0 : List TreeFun) : Option ((List TreeFun)) := evRAt (envOf M .x) (lvT 30) cd30 [true, true, false, true, false] (endK (β := (List TreeFun)) M 30 .x Go.Proofs.Tryz.f30.results.toList) (stL 23 [(0, AV.d (D.l 9 (List.map cel a0))), (3, AV.r 500000), (4, AV.d (D.i IntKind.i64 t4))] [(500000, some (Ob.row 9 (List.map cel r0) true false 0))])
theorem n30_eq (a0 : (List TreeFun)) : n30 a0 = if 0 ≤ (↑a0.length : Int) ∧ (↑a0.length : Int) * 128 ≤ 140737488355328 ∧ (↑a0.length : Int) ≤ 140737488355328 then l30_3 a0 0 (List.replicate a0.length (TreeFun.mk ByteArray.empty false [] 0 (TreeExpr.mk 0 0 ByteArray.empty ByteArray.empty []))) else none := by
  rw [n30, fnO_code h30 rfl Go.Proofs.Tryz.func30 (c := cd30) rfl (a0, ()) rfl]
  simp (maxSteps := 60000000) (disch := first | (intros; rename_i h; cases h; done) | decide +kernel) only [evS, seS, List.map_replicate, Nat.reduceDiv, Nat.reduceMod, Nat.reduceEqDiff, reduceCtorEq, ↓reduceIte, Nat.reduceLT, Nat.reduceAdd, Nat.reduceMul, Nat.reduceSub, Nat.reduceLeDiff, Nat.reduceBEq, Int.reduceEq, Int.reduceNeg, Int.reduceToNat, Int.reduceLE, Int.reduceLT, cd30, Go.Proofs.Tryz.f30, h30.r, m30, lv_pl, pl30, c80, lv30_3, l30_3]
  all_goals try simp only [rnS, seS, Nat.reduceEqDiff, reduceCtorEq, ↓reduceIte, Nat.reduceAdd, Nat.reduceLeDiff, Nat.reduceBEq, Nat.reduceMul, lv30_3]
theorem l30_3_eq (a0 : (List TreeFun)) (t4 : Int) (r0 : List TreeFun) : l30_3 a0 t4 r0 = if t4 < (↑a0.length : Int) then (getI a0 t4).bind fun y0 => (n80 y0).bind fun y1 => (getI r0 t4).bind fun y2 => r0[t4.toNat]?.bind fun y5 => l30_3 a0 (IntKind.i64.wrap (t4 + 1)) (r0.set t4.toNat y1) else some r0 := by
  rw [l30_3]
  simp only [evRAt, locS, cd30, Go.Proofs.Tryz.f30]
  rw [evR_eq]
  simp (maxSteps := 60000000) (disch := first | (intros; rename_i h; cases h; done) | decide +kernel) only [evS, seS, List.map_replicate, Nat.reduceDiv, Nat.reduceMod, Nat.reduceEqDiff, reduceCtorEq, ↓reduceIte, Nat.reduceLT, Nat.reduceAdd, Nat.reduceMul, Nat.reduceSub, Nat.reduceLeDiff, Nat.reduceBEq, Int.reduceEq, Int.reduceNeg, Int.reduceToNat, Int.reduceLE, Int.reduceLT, cd30, Go.Proofs.Tryz.f30, h30.r, m30, lv_pl, pl30, c80, lv30_3, l30_3]
  all_goals try simp only [rnS, seS, Nat.reduceEqDiff, reduceCtorEq, ↓reduceIte, Nat.reduceAdd, Nat.reduceLeDiff, Nat.reduceBEq, Nat.reduceMul, lv30_3]
  all_goals try simp only [bindN_eq]
end Go.Fs.Se

set_option linter.unusedVariables false
set_option linter.unusedSimpArgs false
set_option maxRecDepth 40000
set_option maxHeartbeats 4000000
open Go.RowKit
namespace Go.Fs.Se
open Cel (cel unc)
open Dat (enc dec)
open Arg (ea da)
/-! loop.example/smithy/laws.eqStringS -/
noncomputable def l34_4 (a0 : (List ByteArray)) (a1 : (List ByteArray)) (t5 : Int) : Option (Bool) := evRAt (envOf M .x) (lvT 34) cd34 [true, true, false, true, false] (endK (β := Bool) M 34 .x Go.Proofs.Tryz.f34.results.toList) (stL 26 [(0, AV.d (D.l 1 (List.map cel a0))), (1, AV.d (D.l 1 (List.map cel a1))), (5, AV.d (D.i IntKind.i64 t5))] [])
theorem n34_eq (a0 : (List ByteArray)) (a1 : (List ByteArray)) : n34 a0 a1 = if decide ((↑a0.length : Int) = (↑a1.length : Int)) = false then some false else l34_4 a0 a1 0 := by
  rw [n34, fnO_code h34 rfl Go.Proofs.Tryz.func34 (c := cd34) rfl (a0, a1, ()) rfl]
  simp (maxSteps := 60000000) (disch := first | (intros; rename_i h; cases h; done) | decide +kernel) only [evS, seS, List.map_replicate, Nat.reduceDiv, Nat.reduceMod, Nat.reduceEqDiff, reduceCtorEq, ↓reduceIte, Nat.reduceLT, Nat.reduceAdd, Nat.reduceMul, Nat.reduceSub, Nat.reduceLeDiff, Nat.reduceBEq, Int.reduceEq, Int.reduceNeg, Int.reduceToNat, Int.reduceLE, Int.reduceLT, cd34, Go.Proofs.Tryz.f34, h34.r, m34, lv_pl, pl34, lv34_4, l34_4]
  all_goals try simp only [rnS, seS, Nat.reduceEqDiff, reduceCtorEq, ↓reduceIte, Nat.reduceAdd, Nat.reduceLeDiff, Nat.reduceBEq, Nat.reduceMul, lv34_4]
theorem l34_4_eq (a0 : (List ByteArray)) (a1 : (List ByteArray)) (t5 : Int) : l34_4 a0 a1 t5 = if t5 < (↑a0.length : Int) then (getI a0 t5).bind fun y0 => (getI a1 t5).bind fun y1 => if decide (y0 = y1) = false then some false else l34_4 a0 a1 (IntKind.i64.wrap (t5 + 1)) else some true := by
  rw [l34_4]
  simp only [evRAt, locS, cd34, Go.Proofs.Tryz.f34]
  rw [evR_eq]
  simp (maxSteps := 60000000) (disch := first | (intros; rename_i h; cases h; done) | decide +kernel) only [evS, seS, List.map_replicate, Nat.reduceDiv, Nat.reduceMod, Nat.reduceEqDiff, reduceCtorEq, ↓reduceIte, Nat.reduceLT, Nat.reduceAdd, Nat.reduceMul, Nat.reduceSub, Nat.reduceLeDiff, Nat.reduceBEq, Int.reduceEq, Int.reduceNeg, Int.reduceToNat, Int.reduceLE, Int.reduceLT, cd34, Go.Proofs.Tryz.f34, h34.r, m34, lv_pl, pl34, lv34_4, l34_4]
  all_goals try simp only [rnS, seS, Nat.reduceEqDiff, reduceCtorEq, ↓reduceIte, Nat.reduceAdd, Nat.reduceLeDiff, Nat.reduceBEq, Nat.reduceMul, lv34_4]
  all_goals try simp only [bindN_eq]
end Go.Fs.Se

set_option linter.unusedVariables false
set_option linter.unusedSimpArgs false
set_option maxRecDepth 40000
set_option maxHeartbeats 4000000
open Go.RowKit
namespace Go.Fs.Se
open Cel (cel unc)
open Dat (enc dec)
open Arg (ea da)
/-! loop.example/smithy/laws.eqTreeFunS -/
noncomputable def l35_4 (a0 : (List TreeFun)) (a1 : (List TreeFun)) (t5 : Int) : Option (Bool) := evRAt (envOf M .x) (lvT 35) cd35 [true, true, false, true, false] (endK (β := Bool) M 35 .x Go.Proofs.Tryz.f35.results.toList) (stL 27 [(0, AV.d (D.l 9 (List.map cel a0))), (1, AV.d (D.l 9 (List.map cel a1))), (5, AV.d (D.i IntKind.i64 t5))] [])
theorem n35_eq (a0 : (List TreeFun)) (a1 : (List TreeFun)) : n35 a0 a1 = if decide ((↑a0.length : Int) = (↑a1.length : Int)) = false then some false else l35_4 a0 a1 0 := by
  rw [n35, fnO_code h35 rfl Go.Proofs.Tryz.func35 (c := cd35) rfl (a0, a1, ()) rfl]
  simp (maxSteps := 60000000) (disch := first | (intros; rename_i h; cases h; done) | decide +kernel) only [evS, seS, List.map_replicate, Nat.reduceDiv, Nat.reduceMod, Nat.reduceEqDiff, reduceCtorEq, ↓reduceIte, Nat.reduceLT, Nat.reduceAdd, Nat.reduceMul, Nat.reduceSub, Nat.reduceLeDiff, Nat.reduceBEq, Int.reduceEq, Int.reduceNeg, Int.reduceToNat, Int.reduceLE, Int.reduceLT, cd35, Go.Proofs.Tryz.f35, h35.r, m35, lv_pl, pl35, c91, lv35_4, l35_4]
  all_goals try simp only [rnS, seS, Nat.reduceEqDiff, reduceCtorEq, ↓reduceIte, Nat.reduceAdd, Nat.reduceLeDiff, Nat.reduceBEq, Nat.reduceMul, lv35_4]
theorem l35_4_eq (a0 : (List TreeFun)) (a1 : (List TreeFun)) (t5 : Int) : l35_4 a0 a1 t5 = if t5 < (↑a0.length : Int) then (getI a0 t5).bind fun y0 => (getI a1 t5).bind fun y1 => (n91 y0 y1).bind fun y2 => if y2 = false then some false else l35_4 a0 a1 (IntKind.i64.wrap (t5 + 1)) else some true := by
  rw [l35_4]
  simp only [evRAt, locS, cd35, Go.Proofs.Tryz.f35]
  rw [evR_eq]
  simp (maxSteps := 60000000) (disch := first | (intros; rename_i h; cases h; done) | decide +kernel) only [evS, seS, List.map_replicate, Nat.reduceDiv, Nat.reduceMod, Nat.reduceEqDiff, reduceCtorEq, ↓reduceIte, Nat.reduceLT, Nat.reduceAdd, Nat.reduceMul, Nat.reduceSub, Nat.reduceLeDiff, Nat.reduceBEq, Int.reduceEq, Int.reduceNeg, Int.reduceToNat, Int.reduceLE, Int.reduceLT, cd35, Go.Proofs.Tryz.f35, h35.r, m35, lv_pl, pl35, c91, lv35_4, l35_4]
  all_goals try simp only [rnS, seS, Nat.reduceEqDiff, reduceCtorEq, ↓reduceIte, Nat.reduceAdd, Nat.reduceLeDiff, Nat.reduceBEq, Nat.reduceMul, lv35_4]
  all_goals try simp only [bindN_eq]
end Go.Fs.Se

set_option linter.unusedVariables false
set_option linter.unusedSimpArgs false
set_option maxRecDepth 40000
set_option maxHeartbeats 4000000
open Go.RowKit
namespace Go.Fs.Se
open Cel (cel unc)
open Dat (enc dec)
open Arg (ea da)
/-! loop.example/smithy/laws.szTreeFun -/
theorem n70_eq (a0 : TreeFun) (a1 : Int) : n70 a0 a1 = if IntKind.i64.wrap (a1 - (↑a0.name.size : Int)) < 0 then some (-1) else (n129 a0.args (IntKind.i64.wrap (a1 - (↑a0.name.size : Int)))).bind fun y0 => if y0 < 0 then some (-1) else (n71 a0.body y0).bind fun y1 => if y1 < 0 then some (-1) else some y1 := by
  rw [n70, fnO_code h70 rfl Go.Proofs.Tryz.func70 (c := cd70) rfl (a0, a1, ()) rfl]
  simp (maxSteps := 60000000) (disch := first | (intros; rename_i h; cases h; done) | decide +kernel) only [evS, seS, List.map_replicate, Nat.reduceDiv, Nat.reduceMod, Nat.reduceEqDiff, reduceCtorEq, ↓reduceIte, Nat.reduceLT, Nat.reduceAdd, Nat.reduceMul, Nat.reduceSub, Nat.reduceLeDiff, Nat.reduceBEq, Int.reduceEq, Int.reduceNeg, Int.reduceToNat, Int.reduceLE, Int.reduceLT, cd70, Go.Proofs.Tryz.f70, h70.r, m70, lv_pl, pl70, c71, c129]
  all_goals try simp only [bindN_eq]
end Go.Fs.Se

set_option linter.unusedVariables false
set_option linter.unusedSimpArgs false
set_option maxRecDepth 40000
set_option maxHeartbeats 4000000
open Go.RowKit
namespace Go.Fs.Se
open Cel (cel unc)
open Dat (enc dec)
open Arg (ea da)
/-! loop.example/smithy/laws.toTreeFun -/
theorem n80_eq (a0 : TreeFun) : n80 a0 = (n139 a0.args).bind fun y0 => (n81 a0.body).bind fun y1 => some (TreeFun.mk a0.name a0.pub y0 a0.type y1) := by
  rw [n80, fnO_code h80 rfl Go.Proofs.Tryz.func80 (c := cd80) rfl (a0, ()) rfl]
  simp (maxSteps := 60000000) (disch := first | (intros; rename_i h; cases h; done) | decide +kernel) only [evS, seS, List.map_replicate, Nat.reduceDiv, Nat.reduceMod, Nat.reduceEqDiff, reduceCtorEq, ↓reduceIte, Nat.reduceLT, Nat.reduceAdd, Nat.reduceMul, Nat.reduceSub, Nat.reduceLeDiff, Nat.reduceBEq, Int.reduceEq, Int.reduceNeg, Int.reduceToNat, Int.reduceLE, Int.reduceLT, cd80, Go.Proofs.Tryz.f80, h80.r, m80, lv_pl, pl80, c81, c139]
  all_goals try simp only [bindN_eq]
end Go.Fs.Se

set_option linter.unusedVariables false
set_option linter.unusedSimpArgs false
set_option maxRecDepth 40000
set_option maxHeartbeats 4000000
open Go.RowKit
namespace Go.Fs.Se
open Cel (cel unc)
open Dat (enc dec)
open Arg (ea da)
/-! loop.example/smithy/laws.eqTreeFun -/
theorem n91_eq (a0 : TreeFun) (a1 : TreeFun) : n91 a0 a1 = if decide (a0.name = a1.name) = false then some false else if (a0.pub == a1.pub) = false then some false else (n144 a0.args a1.args).bind fun y0 => if y0 = false then some false else if decide (a0.type = a1.type) = false then some false else (n92 a0.body a1.body).bind fun y1 => if y1 = false then some false else some true := by
  rw [n91, fnO_code h91 rfl Go.Proofs.Tryz.func91 (c := cd91) rfl (a0, a1, ()) rfl]
  simp (maxSteps := 60000000) (disch := first | (intros; rename_i h; cases h; done) | decide +kernel) only [evS, seS, List.map_replicate, Nat.reduceDiv, Nat.reduceMod, Nat.reduceEqDiff, reduceCtorEq, ↓reduceIte, Nat.reduceLT, Nat.reduceAdd, Nat.reduceMul, Nat.reduceSub, Nat.reduceLeDiff, Nat.reduceBEq, Int.reduceEq, Int.reduceNeg, Int.reduceToNat, Int.reduceLE, Int.reduceLT, cd91, Go.Proofs.Tryz.f91, h91.r, m91, lv_pl, pl91, c92, c144]
  all_goals try simp only [bindN_eq]
end Go.Fs.Se

set_option linter.unusedVariables false
set_option linter.unusedSimpArgs false
set_option maxRecDepth 40000
set_option maxHeartbeats 4000000
open Go.RowKit
namespace Go.Fs.Se
open Cel (cel unc)
open Dat (enc dec)
open Arg (ea da)
/-! loop.example/smithy/laws.szTreeArgS -/
noncomputable def l129_5 (a0 : (List TreeArg)) (a1 : Int) (t1 : Int) (t5 : Int) : Option (Int) := evRAt (envOf M .x) (lvT 129) cd129 [true, true, true, false, true, false] (endK (β := Int) M 129 .x Go.Proofs.Tryz.f129.results.toList) (stL 27 [(0, AV.d (D.l 2 (List.map cel a0))), (1, AV.d (D.i IntKind.i64 t1)), (5, AV.d (D.i IntKind.i64 t5))] [])
theorem n129_eq (a0 : (List TreeArg)) (a1 : Int) : n129 a0 a1 = if IntKind.i64.wrap (a1 - (↑a0.length : Int)) < 0 then some (-1) else l129_5 a0 a1 (IntKind.i64.wrap (a1 - (↑a0.length : Int))) 0 := by
  rw [n129, fnO_code h129 rfl Go.Proofs.Tryz.func129 (c := cd129) rfl (a0, a1, ()) rfl]
  simp (maxSteps := 60000000) (disch := first | (intros; rename_i h; cases h; done) | decide +kernel) only [evS, seS, List.map_replicate, Nat.reduceDiv, Nat.reduceMod, Nat.reduceEqDiff, reduceCtorEq, ↓reduceIte, Nat.reduceLT, Nat.reduceAdd, Nat.reduceMul, Nat.reduceSub, Nat.reduceLeDiff, Nat.reduceBEq, Int.reduceEq, Int.reduceNeg, Int.reduceToNat, Int.reduceLE, Int.reduceLT, cd129, Go.Proofs.Tryz.f129, h129.r, m129, lv_pl, pl129, c169, lv129_5, l129_5]
  all_goals try simp only [rnS, seS, Nat.reduceEqDiff, reduceCtorEq, ↓reduceIte, Nat.reduceAdd, Nat.reduceLeDiff, Nat.reduceBEq, Nat.reduceMul, lv129_5]
theorem l129_5_eq (a0 : (List TreeArg)) (a1 : Int) (t1 : Int) (t5 : Int) : l129_5 a0 a1 t1 t5 = if t5 < (↑a0.length : Int) then (getI a0 t5).bind fun y0 => (n169 y0 t1).bind fun y1 => if y1 < 0 then some (-1) else l129_5 a0 a1 y1 (IntKind.i64.wrap (t5 + 1)) else some t1 := by
  rw [l129_5]
  simp only [evRAt, locS, cd129, Go.Proofs.Tryz.f129]
  rw [evR_eq]
  simp (maxSteps := 60000000) (disch := first | (intros; rename_i h; cases h; done) | decide +kernel) only [evS, seS, List.map_replicate, Nat.reduceDiv, Nat.reduceMod, Nat.reduceEqDiff, reduceCtorEq, ↓reduceIte, Nat.reduceLT, Nat.reduceAdd, Nat.reduceMul, Nat.reduceSub, Nat.reduceLeDiff, Nat.reduceBEq, Int.reduceEq, Int.reduceNeg, Int.reduceToNat, Int.reduceLE, Int.reduceLT, cd129, Go.Proofs.Tryz.f129, h129.r, m129, lv_pl, pl129, c169, lv129_5, l129_5]
  all_goals try simp only [rnS, seS, Nat.reduceEqDiff, reduceCtorEq, ↓reduceIte, Nat.reduceAdd, Nat.reduceLeDiff, Nat.reduceBEq, Nat.reduceMul, lv129_5]
  all_goals try simp only [bindN_eq]
end Go.Fs.Se

set_option linter.unusedVariables false
set_option linter.unusedSimpArgs false
set_option maxRecDepth 40000
set_option maxHeartbeats 4000000
open Go.RowKit
namespace Go.Fs.Se
open Cel (cel unc)
open Dat (enc dec)
open Arg (ea da)
/-! loop.example/smithy/laws.toTreeArgS -/
noncomputable def l139_3 (a0 : (List TreeArg)) (t4 : Int) (r0 : List TreeArg) : Option ((List TreeArg)) := evRAt (envOf M .x) (lvT 139) cd139 [true, true, false, true, false] (endK (β := (List TreeArg)) M 139 .x Go.Proofs.Tryz.f139.results.toList) (stL 23 [(0, AV.d (D.l 2 (List.map cel a0))), (3, AV.r 500000), (4, AV.d (D.i IntKind.i64 t4))] [(500000, some (Ob.row 2 (List.map cel r0) true false 0))])
theorem n139_eq (a0 : (List TreeArg)) : n139 a0 = if 0 ≤ (↑a0.length : Int) ∧ (↑a0.length : Int) * 24 ≤ 140737488355328 ∧ (↑a0.length : Int) ≤ 140737488355328 then l139_3 a0 0 (List.replicate a0.length (TreeArg.mk ByteArray.empty 0)) else none := by
  rw [n139, fnO_code h139 rfl Go.Proofs.Tryz.func139 (c := cd139) rfl (a0, ()) rfl]
  simp (maxSteps := 60000000) (disch := first | (intros; rename_i h; cases h; done) | decide +kernel) only [evS, seS, List.map_replicate, Nat.reduceDiv, Nat.reduceMod, Nat.reduceEqDiff, reduceCtorEq, ↓reduceIte, Nat.reduceLT, Nat.reduceAdd, Nat.reduceMul, Nat.reduceSub, Nat.reduceLeDiff, Nat.reduceBEq, Int.reduceEq, Int.reduceNeg, Int.reduceToNat, Int.reduceLE, Int.reduceLT, cd139, Go.Proofs.Tryz.f139, h139.r, m139, lv_pl, pl139, c175, lv139_3, l139_3]
  all_goals try simp only [rnS, seS, Nat.reduceEqDiff, reduceCtorEq, ↓reduceIte, Nat.reduceAdd, Nat.reduceLeDiff, Nat.reduceBEq, Nat.reduceMul, lv139_3]
theorem l139_3_eq (a0 : (List TreeArg)) (t4 : Int) (r0 : List TreeArg) : l139_3 a0 t4 r0 = if t4 < (↑a0.length : Int) then (getI a0 t4).bind fun y0 => (n175 y0).bind fun y1 => (getI r0 t4).bind fun y2 => r0[t4.toNat]?.bind fun y5 => l139_3 a0 (IntKind.i64.wrap (t4 + 1)) (r0.set t4.toNat y1) else some r0 := by
  rw [l139_3]
  simp only [evRAt, locS, cd139, Go.Proofs.Tryz.f139]
  rw [evR_eq]
  simp (maxSteps := 60000000) (disch := first | (intros; rename_i h; cases h; done) | decide +kernel) only [evS, seS, List.map_replicate, Nat.reduceDiv, Nat.reduceMod, Nat.reduceEqDiff, reduceCtorEq, ↓reduceIte, Nat.reduceLT, Nat.reduceAdd, Nat.reduceMul, Nat.reduceSub, Nat.reduceLeDiff, Nat.reduceBEq, Int.reduceEq, Int.reduceNeg, Int.reduceToNat, Int.reduceLE, Int.reduceLT, cd139, Go.Proofs.Tryz.f139, h139.r, m139, lv_pl, pl139, c175, lv139_3, l139_3]
  all_goals try simp only [rnS, seS, Nat.reduceEqDiff, reduceCtorEq, ↓reduceIte, Nat.reduceAdd, Nat.reduceLeDiff, Nat.reduceBEq, Nat.reduceMul, lv139_3]
  all_goals try simp only [bindN_eq]
end Go.Fs.Se

set_option linter.unusedVariables false
set_option linter.unusedSimpArgs false
set_option maxRecDepth 40000
set_option maxHeartbeats 4000000
open Go.RowKit
namespace Go.Fs.Se
open Cel (cel unc)
open Dat (enc dec)
open Arg (ea da)
/-! loop.example/smithy/laws.eqTreeArgS -/
noncomputable def l144_4 (a0 : (List TreeArg)) (a1 : (List TreeArg)) (t5 : Int) : Option (Bool) := evRAt (envOf M .x) (lvT 144) cd144 [true, true, false, true, false] (endK (β := Bool) M 144 .x Go.Proofs.Tryz.f144.results.toList) (stL 27 [(0, AV.d (D.l 2 (List.map cel a0))), (1, AV.d (D.l 2 (List.map cel a1))), (5, AV.d (D.i IntKind.i64 t5))] [])
theorem n144_eq (a0 : (List TreeArg)) (a1 : (List TreeArg)) : n144 a0 a1 = if decide ((↑a0.length : Int) = (↑a1.length : Int)) = false then some false else l144_4 a0 a1 0 := by
  rw [n144, fnO_code h144 rfl Go.Proofs.Tryz.func144 (c := cd144) rfl (a0, a1, ()) rfl]
  simp (maxSteps := 60000000) (disch := first | (intros; rename_i h; cases h; done) | decide +kernel) only [evS, seS, List.map_replicate, Nat.reduceDiv, Nat.reduceMod, Nat.reduceEqDiff, reduceCtorEq, ↓reduceIte, Nat.reduceLT, Nat.reduceAdd, Nat.reduceMul, Nat.reduceSub, Nat.reduceLeDiff, Nat.reduceBEq, Int.reduceEq, Int.reduceNeg, Int.reduceToNat, Int.reduceLE, Int.reduceLT, cd144, Go.Proofs.Tryz.f144, h144.r, m144, lv_pl, pl144, c182, lv144_4, l144_4]
  all_goals try simp only [rnS, seS, Nat.reduceEqDiff, reduceCtorEq, ↓reduceIte, Nat.reduceAdd, Nat.reduceLeDiff, Nat.reduceBEq, Nat.reduceMul, lv144_4]
theorem l144_4_eq (a0 : (List TreeArg)) (a1 : (List TreeArg)) (t5 : Int) : l144_4 a0 a1 t5 = if t5 < (↑a0.length : Int) then (getI a0 t5).bind fun y0 => (getI a1 t5).bind fun y1 => (n182 y0 y1).bind fun y2 => if y2 = false then some false else l144_4 a0 a1 (IntKind.i64.wrap (t5 + 1)) else some true := by
  rw [l144_4]
  simp only [evRAt, locS, cd144, Go.Proofs.Tryz.f144]
  rw [evR_eq]
  simp (maxSteps := 60000000) (disch := first | (intros; rename_i h; cases h; done) | decide +kernel) only [evS, seS, List.map_replicate, Nat.reduceDiv, Nat.reduceMod, Nat.reduceEqDiff, reduceCtorEq, ↓reduceIte, Nat.reduceLT, Nat.reduceAdd, Nat.reduceMul, Nat.reduceSub, Nat.reduceLeDiff, Nat.reduceBEq, Int.reduceEq, Int.reduceNeg, Int.reduceToNat, Int.reduceLE, Int.reduceLT, cd144, Go.Proofs.Tryz.f144, h144.r, m144, lv_pl, pl144, c182, lv144_4, l144_4]
  all_goals try simp only [rnS, seS, Nat.reduceEqDiff, reduceCtorEq, ↓reduceIte, Nat.reduceAdd, Nat.reduceLeDiff, Nat.reduceBEq, Nat.reduceMul, lv144_4]
  all_goals try simp only [bindN_eq]
end Go.Fs.Se

set_option linter.unusedVariables false
set_option linter.unusedSimpArgs false
set_option maxRecDepth 40000
set_option maxHeartbeats 4000000
open Go.RowKit
namespace Go.Fs.Se
open Cel (cel unc)
open Dat (enc dec)
open Arg (ea da)
/-! loop.example/smithy/laws.szTreeArg -/
theorem n169_eq (a0 : TreeArg) (a1 : Int) : n169 a0 a1 = if IntKind.i64.wrap (a1 - (↑a0.name.size : Int)) < 0 then some (-1) else some (IntKind.i64.wrap (a1 - (↑a0.name.size : Int))) := by
  rw [n169, fnO_code h169 rfl Go.Proofs.Tryz.func169 (c := cd169) rfl (a0, a1, ()) rfl]
  simp (maxSteps := 60000000) (disch := first | (intros; rename_i h; cases h; done) | decide +kernel) only [evS, seS, List.map_replicate, Nat.reduceDiv, Nat.reduceMod, Nat.reduceEqDiff, reduceCtorEq, ↓reduceIte, Nat.reduceLT, Nat.reduceAdd, Nat.reduceMul, Nat.reduceSub, Nat.reduceLeDiff, Nat.reduceBEq, Int.reduceEq, Int.reduceNeg, Int.reduceToNat, Int.reduceLE, Int.reduceLT, cd169, Go.Proofs.Tryz.f169, h169.r, m169, lv_pl, pl169]
end Go.Fs.Se

set_option linter.unusedVariables false
set_option linter.unusedSimpArgs false
set_option maxRecDepth 40000
set_option maxHeartbeats 4000000
open Go.RowKit
namespace Go.Fs.Se
open Cel (cel unc)
open Dat (enc dec)
open Arg (ea da)
/-! loop.example/smithy/laws.toTreeArg -/
theorem n175_eq (a0 : TreeArg) : n175 a0 = some a0 := by
  rw [n175, fnO_code h175 rfl Go.Proofs.Tryz.func175 (c := cd175) rfl (a0, ()) rfl]
  simp (maxSteps := 60000000) (disch := first | (intros; rename_i h; cases h; done) | decide +kernel) only [evS, seS, List.map_replicate, Nat.reduceDiv, Nat.reduceMod, Nat.reduceEqDiff, reduceCtorEq, ↓reduceIte, Nat.reduceLT, Nat.reduceAdd, Nat.reduceMul, Nat.reduceSub, Nat.reduceLeDiff, Nat.reduceBEq, Int.reduceEq, Int.reduceNeg, Int.reduceToNat, Int.reduceLE, Int.reduceLT, cd175, Go.Proofs.Tryz.f175, h175.r, m175, lv_pl, pl175]
end Go.Fs.Se

set_option linter.unusedVariables false
set_option linter.unusedSimpArgs false
set_option maxRecDepth 40000
set_option maxHeartbeats 4000000
open Go.RowKit
namespace Go.Fs.Se
open Cel (cel unc)
open Dat (enc dec)
open Arg (ea da)
/-! loop.example/smithy/laws.eqTreeArg -/
theorem n182_eq (a0 : TreeArg) (a1 : TreeArg) : n182 a0 a1 = if decide (a0.name = a1.name) = false then some false else if decide (a0.type = a1.type) = false then some false else some true := by
  rw [n182, fnO_code h182 rfl Go.Proofs.Tryz.func182 (c := cd182) rfl (a0, a1, ()) rfl]
  simp (maxSteps := 60000000) (disch := first | (intros; rename_i h; cases h; done) | decide +kernel) only [evS, seS, List.map_replicate, Nat.reduceDiv, Nat.reduceMod, Nat.reduceEqDiff, reduceCtorEq, ↓reduceIte, Nat.reduceLT, Nat.reduceAdd, Nat.reduceMul, Nat.reduceSub, Nat.reduceLeDiff, Nat.reduceBEq, Int.reduceEq, Int.reduceNeg, Int.reduceToNat, Int.reduceLE, Int.reduceLT, cd182, Go.Proofs.Tryz.f182, h182.r, m182, lv_pl, pl182]
end Go.Fs.Se

set_option linter.unusedVariables false
set_option linter.unusedSimpArgs false
set_option maxRecDepth 40000
set_option maxHeartbeats 4000000
open Go.RowKit
namespace Go.Fs.Se
open Cel (cel unc)
open Dat (enc dec)
open Arg (ea da)
/-! loop.example/smithy/spec.TreeNodes -/
noncomputable def l101_4 (a0 : TreeExpr) (t4 : Int) (t5 : Int) (t6 : Int) : Option (Int × Int) := evRAt (envOf M .x) (lvT 101) cd101 [true, true, true, false, true, false] (endK (β := Int × Int) M 101 .x Go.Proofs.Tryz.f101.results.toList) (stL 35 [(1, AV.a 500000 0), (4, AV.d (D.i IntKind.i64 t4)), (5, AV.d (D.i IntKind.i64 t5)), (6, AV.d (D.i IntKind.i64 t6))] [(500000, some (Ob.box [AV.d (D.i IntKind.i64 a0.kind), AV.d (D.i IntKind.i64 a0.num), AV.d (D.s a0.name), AV.d (D.s a0.mod), AV.d (D.l 5 (List.map cel a0.kids))]))])
theorem n101_eq (a0 : TreeExpr) : n101 a0 = l101_4 a0 1 0 0 := by
  rw [n101, fnO_code h101 rfl Go.Proofs.Tryz.func101 (c := cd101) rfl (a0, ()) rfl]
  simp (maxSteps := 60000000) (disch := first | (intros; rename_i h; cases h; done) | decide +kernel) only [evS, seS, List.map_replicate, Nat.reduceDiv, Nat.reduceMod, Nat.reduceEqDiff, reduceCtorEq, ↓reduceIte, Nat.reduceLT, Nat.reduceAdd, Nat.reduceMul, Nat.reduceSub, Nat.reduceLeDiff, Nat.reduceBEq, Int.reduceEq, Int.reduceNeg, Int.reduceToNat, Int.reduceLE, Int.reduceLT, cd101, Go.Proofs.Tryz.f101, h101.r, m101, lv_pl, pl101, c101, lv101_4, l101_4]
  all_goals try simp only [rnS, seS, Nat.reduceEqDiff, reduceCtorEq, ↓reduceIte, Nat.reduceAdd, Nat.reduceLeDiff, Nat.reduceBEq, Nat.reduceMul, lv101_4]
theorem l101_4_eq (a0 : TreeExpr) (t4 : Int) (t5 : Int) (t6 : Int) : l101_4 a0 t4 t5 t6 = if t6 < (↑a0.kids.length : Int) then (getI a0.kids t6).bind fun y0 => (n101 y0).bind fun y1 => if t5 < y1.snd then l101_4 a0 (IntKind.i64.wrap (t4 + y1.fst)) y1.snd (IntKind.i64.wrap (t6 + 1)) else l101_4 a0 (IntKind.i64.wrap (t4 + y1.fst)) t5 (IntKind.i64.wrap (t6 + 1)) else some (t4, IntKind.i64.wrap (t5 + 1)) := by
  rw [l101_4]
  simp only [evRAt, locS, cd101, Go.Proofs.Tryz.f101]
  rw [evR_eq]
  simp (maxSteps := 60000000) (disch := first | (intros; rename_i h; cases h; done) | decide +kernel) only [evS, seS, List.map_replicate, Nat.reduceDiv, Nat.reduceMod, Nat.reduceEqDiff, reduceCtorEq, ↓reduceIte, Nat.reduceLT, Nat.reduceAdd, Nat.reduceMul, Nat.reduceSub, Nat.reduceLeDiff, Nat.reduceBEq, Int.reduceEq, Int.reduceNeg, Int.reduceToNat, Int.reduceLE, Int.reduceLT, cd101, Go.Proofs.Tryz.f101, h101.r, m101, lv_pl, pl101, c101, lv101_4, l101_4]
  all_goals try simp only [rnS, seS, Nat.reduceEqDiff, reduceCtorEq, ↓reduceIte, Nat.reduceAdd, Nat.reduceLeDiff, Nat.reduceBEq, Nat.reduceMul, lv101_4]
  all_goals try simp only [bindN_eq]
end Go.Fs.Se

set_option linter.unusedVariables false
set_option linter.unusedSimpArgs false
set_option maxRecDepth 40000
set_option maxHeartbeats 4000000
open Go.RowKit
namespace Go.Fs.Se
open Cel (cel unc)
open Dat (enc dec)
open Arg (ea da)
/-! loop.example/smithy/impl.TreeNodes -/
noncomputable def l88_3 (a0 : TreeExpr) (t4 : Int) (t5 : Int) (t13 : Int) : Option (Int × Int) := evRAt (envOf M .x) (lvT 88) cd88 [true, true, false, true, false] (endK (β := Int × Int) M 88 .x Go.Proofs.Tryz.f88.results.toList) (stL 32 [(4, AV.d (D.i IntKind.i64 t4)), (5, AV.d (D.i IntKind.i64 t5)), (11, AV.d (D.l 5 (List.map cel a0.kids))), (12, AV.d (D.i IntKind.i64 (↑a0.kids.length : Int))), (13, AV.d (D.i IntKind.i64 t13))] [])
theorem n88_eq (a0 : TreeExpr) : n88 a0 = l88_3 a0 1 0 0 := by
  rw [n88, fnO_code h88 rfl Go.Proofs.Tryz.func88 (c := cd88) rfl (a0, ()) rfl]
  simp (maxSteps := 60000000) (disch := first | (intros; rename_i h; cases h; done) | decide +kernel) only [evS, seS, List.map_replicate, Nat.reduceDiv, Nat.reduceMod, Nat.reduceEqDiff, reduceCtorEq, ↓reduceIte, Nat.reduceLT, Nat.reduceAdd, Nat.reduceMul, Nat.reduceSub, Nat.reduceLeDiff, Nat.reduceBEq, Int.reduceEq, Int.reduceNeg, Int.reduceToNat, Int.reduceLE, Int.reduceLT, cd88, Go.Proofs.Tryz.f88, h88.r, m88, lv_pl, pl88, c88, lv88_3, l88_3]
  all_goals try simp only [rnS, seS, Nat.reduceEqDiff, reduceCtorEq, ↓reduceIte, Nat.reduceAdd, Nat.reduceLeDiff, Nat.reduceBEq, Nat.reduceMul, lv88_3]
theorem l88_3_eq (a0 : TreeExpr) (t4 : Int) (t5 : Int) (t13 : Int) : l88_3 a0 t4 t5 t13 = if t13 < (↑a0.kids.length : Int) then (getI a0.kids t13).bind fun y0 => (n88 y0).bind fun y1 => l88_3 a0 (IntKind.i64.wrap (t4 + y1.fst)) (max t5 y1.snd) (IntKind.i64.wrap (t13 + 1)) else some (t4, IntKind.i64.wrap (t5 + 1)) := by
  rw [l88_3]
  simp only [evRAt, locS, cd88, Go.Proofs.Tryz.f88]
  rw [evR_eq]
  simp (maxSteps := 60000000) (disch := first | (intros; rename_i h; cases h; done) | decide +kernel) only [evS, seS, List.map_replicate, Nat.reduceDiv, Nat.reduceMod, Nat.reduceEqDiff, reduceCtorEq, ↓reduceIte, Nat.reduceLT, Nat.reduceAdd, Nat.reduceMul, Nat.reduceSub, Nat.reduceLeDiff, Nat.reduceBEq, Int.reduceEq, Int.reduceNeg, Int.reduceToNat, Int.reduceLE, Int.reduceLT, cd88, Go.Proofs.Tryz.f88, h88.r, m88, lv_pl, pl88, c88, lv88_3, l88_3]
  all_goals try simp only [rnS, seS, Nat.reduceEqDiff, reduceCtorEq, ↓reduceIte, Nat.reduceAdd, Nat.reduceLeDiff, Nat.reduceBEq, Nat.reduceMul, lv88_3]
  all_goals try simp only [bindN_eq]
end Go.Fs.Se

set_option linter.unusedVariables false
set_option linter.unusedSimpArgs false
set_option maxRecDepth 40000
set_option maxHeartbeats 4000000
open Go.RowKit
namespace Go.Fs.Se
open Cel (cel unc)
open Dat (enc dec)
open Arg (ea da)
/-! loop.example/smithy/spec.LexName -/
noncomputable def l130_4 (a0 : ByteArray) (t3 : Int) : Option (Bool) := evRAt (envOf M .x) (lvT 130) cd130 [true, true, false, true, false] (endK (β := Bool) M 130 .x Go.Proofs.Tryz.f130.results.toList) (stL 32 [(0, AV.d (D.s a0)), (3, AV.d (D.i IntKind.i64 t3))] [])
theorem n130_eq (a0 : ByteArray) : n130 a0 = bindB (if (↑a0.size : Int) < 1 ∨ 8 < (↑a0.size : Int) then some true else n170 a0) fun y0 => if y0 = true then some false else l130_4 a0 0 := by
  rw [n130, fnO_code h130 rfl Go.Proofs.Tryz.func130 (c := cd130) rfl (a0, ()) rfl]
  simp (maxSteps := 60000000) (disch := first | (intros; rename_i h; cases h; done) | decide +kernel) only [evS, seS, List.map_replicate, Nat.reduceDiv, Nat.reduceMod, Nat.reduceEqDiff, reduceCtorEq, ↓reduceIte, Nat.reduceLT, Nat.reduceAdd, Nat.reduceMul, Nat.reduceSub, Nat.reduceLeDiff, Nat.reduceBEq, Int.reduceEq, Int.reduceNeg, Int.reduceToNat, Int.reduceLE, Int.reduceLT, cd130, Go.Proofs.Tryz.f130, h130.r, m130, lv_pl, pl130, c170, lv130_4, l130_4]
  all_goals try simp only [rnS, seS, Nat.reduceEqDiff, reduceCtorEq, ↓reduceIte, Nat.reduceAdd, Nat.reduceLeDiff, Nat.reduceBEq, Nat.reduceMul, lv130_4]
theorem l130_4_eq (a0 : ByteArray) (t3 : Int) : l130_4 a0 t3 = if t3 < (↑a0.size : Int) then bindB (if 0 ≤ t3 ∧ t3 < (↑a0.size : Int) then if byteAt a0 t3 < 97 then some true else if 0 ≤ t3 ∧ t3 < (↑a0.size : Int) then some (decide (122 < byteAt a0 t3)) else none else none) fun y0 => if y0 = true then some false else l130_4 a0 (IntKind.i64.wrap (t3 + 1)) else some true := by
  rw [l130_4]
  simp only [evRAt, locS, cd130, Go.Proofs.Tryz.f130]
  rw [evR_eq]
  simp (maxSteps := 60000000) (disch := first | (intros; rename_i h; cases h; done) | decide +kernel) only [evS, seS, List.map_replicate, Nat.reduceDiv, Nat.reduceMod, Nat.reduceEqDiff, reduceCtorEq, ↓reduceIte, Nat.reduceLT, Nat.reduceAdd, Nat.reduceMul, Nat.reduceSub, Nat.reduceLeDiff, Nat.reduceBEq, Int.reduceEq, Int.reduceNeg, Int.reduceToNat, Int.reduceLE, Int.reduceLT, cd130, Go.Proofs.Tryz.f130, h130.r, m130, lv_pl, pl130, c170, lv130_4, l130_4]
  all_goals try simp only [rnS, seS, Nat.reduceEqDiff, reduceCtorEq, ↓reduceIte, Nat.reduceAdd, Nat.reduceLeDiff, Nat.reduceBEq, Nat.reduceMul, lv130_4]
end Go.Fs.Se

set_option linter.unusedVariables false
set_option linter.unusedSimpArgs false
set_option maxRecDepth 40000
set_option maxHeartbeats 4000000
open Go.RowKit
namespace Go.Fs.Se
open Cel (cel unc)
open Dat (enc dec)
open Arg (ea da)
/-! loop.example/smithy/spec.l1Kept -/
noncomputable def l170_3 (a0 : ByteArray) (t4 : Int) (r0 : List ByteArray) : Option (Bool) := evRAt (envOf M .x) (lvT 170) cd170 [true, true, false, true, false] (endK (β := Bool) M 170 .x Go.Proofs.Tryz.f170.results.toList) (stL 18 [(0, AV.d (D.s a0)), (3, AV.r 500000), (4, AV.d (D.i IntKind.i64 t4))] [(500000, some (Ob.row 1 (List.map cel r0) true false 0))])
theorem n170_eq (a0 : ByteArray) : n170 a0 = l170_3 a0 0 [ByteArray.mk #[117, 115, 101], ByteArray.mk #[102, 117, 110], ByteArray.mk #[112, 117, 98], ByteArray.mk #[109, 97, 105, 110], ByteArray.mk #[105, 110, 116], ByteArray.mk #[98, 111, 111, 108], ByteArray.mk #[114, 111, 119], ByteArray.mk #[105, 102], ByteArray.mk #[108, 101, 116], ByteArray.mk #[116, 114, 117, 101], ByteArray.mk #[102, 97, 108, 115, 101], ByteArray.mk #[97, 110, 100], ByteArray.mk #[111, 114], ByteArray.mk #[110, 111, 116], ByteArray.mk #[97, 116], ByteArray.mk #[108, 101, 110], ByteArray.mk #[112, 117, 116], ByteArray.mk #[106, 111, 105, 110], ByteArray.mk #[112, 114, 105, 110, 116]] := by
  rw [n170, fnO_code h170 rfl Go.Proofs.Tryz.func170 (c := cd170) rfl (a0, ()) rfl]
  simp (maxSteps := 60000000) (disch := first | (intros; rename_i h; cases h; done) | decide +kernel) only [evS, seS, List.map_replicate, Nat.reduceDiv, Nat.reduceMod, Nat.reduceEqDiff, reduceCtorEq, ↓reduceIte, Nat.reduceLT, Nat.reduceAdd, Nat.reduceMul, Nat.reduceSub, Nat.reduceLeDiff, Nat.reduceBEq, Int.reduceEq, Int.reduceNeg, Int.reduceToNat, Int.reduceLE, Int.reduceLT, cd170, Go.Proofs.Tryz.f170, h170.r, m170, lv_pl, pl170, lv170_3, l170_3]
  all_goals try simp only [rnS, seS, Nat.reduceEqDiff, reduceCtorEq, ↓reduceIte, Nat.reduceAdd, Nat.reduceLeDiff, Nat.reduceBEq, Nat.reduceMul, lv170_3]
theorem l170_3_eq (a0 : ByteArray) (t4 : Int) (r0 : List ByteArray) : l170_3 a0 t4 r0 = if t4 < (↑r0.length : Int) then (getI r0 t4).bind fun y0 => r0[t4.toNat]?.bind fun y3 => if y3 = a0 then some true else l170_3 a0 (IntKind.i64.wrap (t4 + 1)) r0 else some false := by
  rw [l170_3]
  simp only [evRAt, locS, cd170, Go.Proofs.Tryz.f170]
  rw [evR_eq]
  simp (maxSteps := 60000000) (disch := first | (intros; rename_i h; cases h; done) | decide +kernel) only [evS, seS, List.map_replicate, Nat.reduceDiv, Nat.reduceMod, Nat.reduceEqDiff, reduceCtorEq, ↓reduceIte, Nat.reduceLT, Nat.reduceAdd, Nat.reduceMul, Nat.reduceSub, Nat.reduceLeDiff, Nat.reduceBEq, Int.reduceEq, Int.reduceNeg, Int.reduceToNat, Int.reduceLE, Int.reduceLT, cd170, Go.Proofs.Tryz.f170, h170.r, m170, lv_pl, pl170, lv170_3, l170_3]
  all_goals try simp only [rnS, seS, Nat.reduceEqDiff, reduceCtorEq, ↓reduceIte, Nat.reduceAdd, Nat.reduceLeDiff, Nat.reduceBEq, Nat.reduceMul, lv170_3]
  all_goals try simp only [bindN_eq]
end Go.Fs.Se

set_option linter.unusedVariables false
set_option linter.unusedSimpArgs false
set_option maxRecDepth 40000
set_option maxHeartbeats 4000000
open Go.RowKit
namespace Go.Fs.Se
open Cel (cel unc)
open Dat (enc dec)
open Arg (ea da)
/-! loop.example/smithy/impl.LexName -/
noncomputable def l140_2 (a0 : ByteArray) (t6 : Int) : Option (Bool) := evRAt (envOf M .x) (lvT 140) cd140 [true, false, true, false] (endK (β := Bool) M 140 .x Go.Proofs.Tryz.f140.results.toList) (stL 28 [(0, AV.d (D.s a0)), (5, AV.d (D.i IntKind.i64 (↑a0.size : Int))), (6, AV.d (D.i IntKind.i64 t6))] [])
theorem n140_eq (a0 : ByteArray) : n140 a0 = l140_2 a0 0 := by
  rw [n140, fnO_code h140 rfl Go.Proofs.Tryz.func140 (c := cd140) rfl (a0, ()) rfl]
  simp (maxSteps := 60000000) (disch := first | (intros; rename_i h; cases h; done) | decide +kernel) only [evS, seS, List.map_replicate, Nat.reduceDiv, Nat.reduceMod, Nat.reduceEqDiff, reduceCtorEq, ↓reduceIte, Nat.reduceLT, Nat.reduceAdd, Nat.reduceMul, Nat.reduceSub, Nat.reduceLeDiff, Nat.reduceBEq, Int.reduceEq, Int.reduceNeg, Int.reduceToNat, Int.reduceLE, Int.reduceLT, cd140, Go.Proofs.Tryz.f140, h140.r, m140, lv_pl, pl140, c118, c176, lv140_2, l140_2]
  all_goals try simp only [rnS, seS, Nat.reduceEqDiff, reduceCtorEq, ↓reduceIte, Nat.reduceAdd, Nat.reduceLeDiff, Nat.reduceBEq, Nat.reduceMul, lv140_2]
theorem l140_2_eq (a0 : ByteArray) (t6 : Int) : l140_2 a0 t6 = if t6 < (↑a0.size : Int) then bindB (if 0 ≤ t6 ∧ t6 < (↑a0.size : Int) then if byteAt a0 t6 < 97 then some true else if 0 ≤ t6 ∧ t6 < (↑a0.size : Int) then some (decide (122 < byteAt a0 t6)) else none else none) fun y0 => if y0 = true then some false else l140_2 a0 (IntKind.i64.wrap (t6 + 1)) else (n118 (↑a0.size : Int) 1 8).bind fun y1 => if y1 = true then (n176 a0).bind fun y2 => some !y2 else some false := by
  rw [l140_2]
  simp only [evRAt, locS, cd140, Go.Proofs.Tryz.f140]
  rw [evR_eq]
  simp (maxSteps := 60000000) (disch := first | (intros; rename_i h; cases h; done) | decide +kernel) only [evS, seS, List.map_replicate, Nat.reduceDiv, Nat.reduceMod, Nat.reduceEqDiff, reduceCtorEq, ↓reduceIte, Nat.reduceLT, Nat.reduceAdd, Nat.reduceMul, Nat.reduceSub, Nat.reduceLeDiff, Nat.reduceBEq, Int.reduceEq, Int.reduceNeg, Int.reduceToNat, Int.reduceLE, Int.reduceLT, cd140, Go.Proofs.Tryz.f140, h140.r, m140, lv_pl, pl140, c118, c176, lv140_2, l140_2]
  all_goals try simp only [rnS, seS, Nat.reduceEqDiff, reduceCtorEq, ↓reduceIte, Nat.reduceAdd, Nat.reduceLeDiff, Nat.reduceBEq, Nat.reduceMul, lv140_2]
  all_goals try simp only [bindN_eq]
end Go.Fs.Se

set_option linter.unusedVariables false
set_option linter.unusedSimpArgs false
set_option maxRecDepth 40000
set_option maxHeartbeats 4000000
open Go.RowKit
namespace Go.Fs.Se
open Cel (cel unc)
open Dat (enc dec)
open Arg (ea da)
/-! loop.example/smithy/impl.isOwn -/
theorem n176_eq (a0 : ByteArray) : n176 a0 = n117 [ByteArray.mk #[117, 115, 101], ByteArray.mk #[102, 117, 110], ByteArray.mk #[112, 117, 98], ByteArray.mk #[109, 97, 105, 110], ByteArray.mk #[105, 110, 116], ByteArray.mk #[98, 111, 111, 108], ByteArray.mk #[114, 111, 119], ByteArray.mk #[105, 102], ByteArray.mk #[108, 101, 116], ByteArray.mk #[116, 114, 117, 101], ByteArray.mk #[102, 97, 108, 115, 101], ByteArray.mk #[97, 110, 100], ByteArray.mk #[111, 114], ByteArray.mk #[110, 111, 116], ByteArray.mk #[97, 116], ByteArray.mk #[108, 101, 110], ByteArray.mk #[112, 117, 116], ByteArray.mk #[106, 111, 105, 110], ByteArray.mk #[112, 114, 105, 110, 116]] a0 := by
  rw [n176, fnO_code h176 rfl Go.Proofs.Tryz.func176 (c := cd176) rfl (a0, ()) rfl]
  simp (maxSteps := 60000000) (disch := first | (intros; rename_i h; cases h; done) | decide +kernel) only [evS, seS, List.map_replicate, Nat.reduceDiv, Nat.reduceMod, Nat.reduceEqDiff, reduceCtorEq, ↓reduceIte, Nat.reduceLT, Nat.reduceAdd, Nat.reduceMul, Nat.reduceSub, Nat.reduceLeDiff, Nat.reduceBEq, Int.reduceEq, Int.reduceNeg, Int.reduceToNat, Int.reduceLE, Int.reduceLT, cd176, Go.Proofs.Tryz.f176, h176.r, m176, lv_pl, pl176, c117]
end Go.Fs.Se
