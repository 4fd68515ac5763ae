/- A part of the proof: an evaluator of the program's code over plain data, proved sound, and walks of the program's functions by it. No conditions beyond those in the theorems. -/
import Derived.Test.YtbgbnmghhmfihaaLawGp13
import Derived.Test.YtbgbnmghhmfihaaLawGp16
import Derived.Test.YtbgbnmghhmfihaaLawGp18
import Derived.Test.YtbgbnmghhmfihaaLawGp20
import Derived.Test.YtbgbnmghhmfihaaLawGp19
set_option linter.unusedVariables false
set_option linter.unusedSimpArgs false
set_option linter.constructorNameAsVariable false
set_option linter.unusedSectionVars false
set_option linter.defProp false
set_option linter.unusedVariables false
set_option linter.unusedSimpArgs false
set_option maxRecDepth 40000
set_option maxHeartbeats 4000000
open Go.RowKit
namespace Go.Fs.Se
open Cel (cel unc)
open Dat (enc dec)
open Arg (ea da)
/-! loop.example/smithy/spec.l2Fun -/
noncomputable def l113_4 (a0 : TreeFun) (t3 : Int) : Option (Bool) := evRAt (envOf M .x) (lvT 113) cd113 [true, true, false, true, false] (endK (β := Bool) M 113 .x Go.Proofs.Try.f113.results.toList) (stL 70 [(1, AV.a 500000 0), (3, AV.d (D.i IntKind.i64 t3))] [(500000, some (Ob.box [AV.d (D.s a0.name), AV.d (D.b a0.pub), AV.d (D.l 2 (List.map cel a0.args)), AV.d (D.i IntKind.i64 a0.type), AV.d (D.i IntKind.i64 a0.body.kind), AV.d (D.i IntKind.i64 a0.body.num), AV.d (D.s a0.body.name), AV.d (D.s a0.body.mod), AV.d (D.l 5 (List.map cel a0.body.kids))]))])
noncomputable def l113_9 (a0 : TreeFun) (t3 : Int) (t4 : Int) : Option (Bool) := evRAt (envOf M .x) (lvT 113) cd113 [true, true, false, true, false, false, true, false, false, true, true, false] (endK (β := Bool) M 113 .x Go.Proofs.Try.f113.results.toList) (stL 70 [(1, AV.a 500000 0), (3, AV.d (D.i IntKind.i64 t3)), (4, AV.d (D.i IntKind.i64 t4))] [(500000, some (Ob.box [AV.d (D.s a0.name), AV.d (D.b a0.pub), AV.d (D.l 2 (List.map cel a0.args)), AV.d (D.i IntKind.i64 a0.type), AV.d (D.i IntKind.i64 a0.body.kind), AV.d (D.i IntKind.i64 a0.body.num), AV.d (D.s a0.body.name), AV.d (D.s a0.body.mod), AV.d (D.l 5 (List.map cel a0.body.kids))]))])
theorem n113_eq (a0 : TreeFun) : n113 a0 = (n85 a0.name).bind fun y0 => bindB (if y0 = false ∨ 4 < (↑a0.args.length : Int) then some true else (n126 a0.type).bind fun y1 => some (decide (y1 = ByteArray.mk #[]))) fun y2 => bindB (if y2 = true then some true else (n102 a0.body).bind fun y3 => some !y3) fun y4 => if y4 = true then some false else l113_4 a0 0 := by
  rw [n113, fnO_code h113 rfl Go.Proofs.Try.func113 (c := cd113) rfl (a0, ()) rfl]
  simp (maxSteps := 60000000) (disch := first | (intros; rename_i h; cases h; done) | decide +kernel) only [evS, seS, List.map_replicate, Nat.reduceDiv, Nat.reduceMod, Nat.reduceEqDiff, reduceCtorEq, ↓reduceIte, Nat.reduceLT, Nat.reduceAdd, Nat.reduceMul, Nat.reduceSub, Nat.reduceLeDiff, Nat.reduceBEq, Int.reduceEq, Int.reduceNeg, Int.reduceToNat, Int.reduceLE, Int.reduceLT, cd113, Go.Proofs.Try.f113, h113.r, m113, lv_pl, pl113, c85, c102, c126, lv113_9, lv113_4, l113_4, l113_9]
  all_goals try simp only [rnS, seS, Nat.reduceEqDiff, reduceCtorEq, ↓reduceIte, Nat.reduceAdd, Nat.reduceLeDiff, Nat.reduceBEq, Nat.reduceMul, lv113_9, lv113_4]
  all_goals try simp only [bindN_eq]
theorem l113_4_eq (a0 : TreeFun) (t3 : Int) : l113_4 a0 t3 = if t3 < (↑a0.args.length : Int) then bindB ((getI a0.args t3).bind fun y0 => (n85 y0.name).bind fun y1 => if y1 = false then some true else (getI a0.args t3).bind fun y2 => (n126 y2.type).bind fun y3 => some (decide (y3 = ByteArray.mk #[]))) fun y4 => if y4 = true then some false else l113_9 a0 t3 0 else some true := by
  rw [l113_4]
  simp only [evRAt, locS, cd113, Go.Proofs.Try.f113]
  rw [evR_eq]
  simp (maxSteps := 60000000) (disch := first | (intros; rename_i h; cases h; done) | decide +kernel) only [evS, seS, List.map_replicate, Nat.reduceDiv, Nat.reduceMod, Nat.reduceEqDiff, reduceCtorEq, ↓reduceIte, Nat.reduceLT, Nat.reduceAdd, Nat.reduceMul, Nat.reduceSub, Nat.reduceLeDiff, Nat.reduceBEq, Int.reduceEq, Int.reduceNeg, Int.reduceToNat, Int.reduceLE, Int.reduceLT, cd113, Go.Proofs.Try.f113, h113.r, m113, lv_pl, pl113, c85, c102, c126, lv113_9, lv113_4, l113_4, l113_9]
  all_goals try simp only [rnS, seS, Nat.reduceEqDiff, reduceCtorEq, ↓reduceIte, Nat.reduceAdd, Nat.reduceLeDiff, Nat.reduceBEq, Nat.reduceMul, lv113_9, lv113_4]
  all_goals try simp only [bindN_eq]
theorem l113_9_eq (a0 : TreeFun) (t3 : Int) (t4 : Int) : l113_9 a0 t3 t4 = if t4 < t3 then (getI a0.args t4).bind fun y0 => (getI a0.args t3).bind fun y1 => if y0.name = y1.name then some false else l113_9 a0 t3 (IntKind.i64.wrap (t4 + 1)) else l113_4 a0 (IntKind.i64.wrap (t3 + 1)) := by
  rw [l113_9]
  simp only [evRAt, locS, cd113, Go.Proofs.Try.f113]
  rw [evR_eq]
  simp (maxSteps := 60000000) (disch := first | (intros; rename_i h; cases h; done) | decide +kernel) only [evS, seS, List.map_replicate, Nat.reduceDiv, Nat.reduceMod, Nat.reduceEqDiff, reduceCtorEq, ↓reduceIte, Nat.reduceLT, Nat.reduceAdd, Nat.reduceMul, Nat.reduceSub, Nat.reduceLeDiff, Nat.reduceBEq, Int.reduceEq, Int.reduceNeg, Int.reduceToNat, Int.reduceLE, Int.reduceLT, cd113, Go.Proofs.Try.f113, h113.r, m113, lv_pl, pl113, c85, c102, c126, lv113_9, lv113_4, l113_4, l113_9]
  all_goals try simp only [rnS, seS, Nat.reduceEqDiff, reduceCtorEq, ↓reduceIte, Nat.reduceAdd, Nat.reduceLeDiff, Nat.reduceBEq, Nat.reduceMul, lv113_9, lv113_4]
  all_goals try simp only [bindN_eq]
end Go.Fs.Se

set_option linter.unusedVariables false
set_option linter.unusedSimpArgs false
set_option maxRecDepth 40000
set_option maxHeartbeats 4000000
open Go.RowKit
namespace Go.Fs.Se
open Cel (cel unc)
open Dat (enc dec)
open Arg (ea da)
/-! loop.example/smithy/impl.areNames -/
noncomputable def l115_2 (a0 : (List ByteArray)) (t7 : Int) : Option (Bool) := evRAt (envOf M .x) (lvT 115) cd115 [true, false, true, false] (endK (β := Bool) M 115 .x Go.Proofs.Try.f115.results.toList) (stL 23 [(0, AV.d (D.l 1 (List.map cel a0))), (5, AV.d (D.l 1 (List.map cel a0))), (6, AV.d (D.i IntKind.i64 (↑a0.length : Int))), (7, AV.d (D.i IntKind.i64 t7))] [])
theorem n115_eq (a0 : (List ByteArray)) : n115 a0 = l115_2 a0 0 := by
  rw [n115, fnO_code h115 rfl Go.Proofs.Try.func115 (c := cd115) rfl (a0, ()) rfl]
  simp (maxSteps := 60000000) (disch := first | (intros; rename_i h; cases h; done) | decide +kernel) only [evS, seS, List.map_replicate, Nat.reduceDiv, Nat.reduceMod, Nat.reduceEqDiff, reduceCtorEq, ↓reduceIte, Nat.reduceLT, Nat.reduceAdd, Nat.reduceMul, Nat.reduceSub, Nat.reduceLeDiff, Nat.reduceBEq, Int.reduceEq, Int.reduceNeg, Int.reduceToNat, Int.reduceLE, Int.reduceLT, cd115, Go.Proofs.Try.f115, h115.r, m115, lv_pl, pl115, c88, c148, lv115_2, l115_2]
  all_goals try simp only [rnS, seS, Nat.reduceEqDiff, reduceCtorEq, ↓reduceIte, Nat.reduceAdd, Nat.reduceLeDiff, Nat.reduceBEq, Nat.reduceMul, lv115_2]
theorem l115_2_eq (a0 : (List ByteArray)) (t7 : Int) : l115_2 a0 t7 = if t7 < (↑a0.length : Int) then (getI a0 t7).bind fun y0 => bindB ((n88 y0).bind fun y1 => if y1 = false then some true else if 0 ≤ t7 then if 0 ≤ t7.toNat ∧ t7.toNat ≤ a0.length then n148 (List.take (t7.toNat - 0) a0) y0 else none else none) fun y2 => if y2 = true then some false else l115_2 a0 (IntKind.i64.wrap (t7 + 1)) else some true := by
  rw [l115_2]
  simp only [evRAt, locS, cd115, Go.Proofs.Try.f115]
  rw [evR_eq]
  simp (maxSteps := 60000000) (disch := first | (intros; rename_i h; cases h; done) | decide +kernel) only [evS, seS, List.map_replicate, Nat.reduceDiv, Nat.reduceMod, Nat.reduceEqDiff, reduceCtorEq, ↓reduceIte, Nat.reduceLT, Nat.reduceAdd, Nat.reduceMul, Nat.reduceSub, Nat.reduceLeDiff, Nat.reduceBEq, Int.reduceEq, Int.reduceNeg, Int.reduceToNat, Int.reduceLE, Int.reduceLT, cd115, Go.Proofs.Try.f115, h115.r, m115, lv_pl, pl115, c88, c148, lv115_2, l115_2]
  all_goals try simp only [rnS, seS, Nat.reduceEqDiff, reduceCtorEq, ↓reduceIte, Nat.reduceAdd, Nat.reduceLeDiff, Nat.reduceBEq, Nat.reduceMul, lv115_2]
  all_goals try simp only [bindN_eq]
end Go.Fs.Se

set_option linter.unusedVariables false
set_option linter.unusedSimpArgs false
set_option maxRecDepth 40000
set_option maxHeartbeats 4000000
open Go.RowKit
namespace Go.Fs.Se
open Cel (cel unc)
open Dat (enc dec)
open Arg (ea da)
/-! loop.example/smithy/impl.argNames -/
noncomputable def l116_3 (a0 : (List TreeArg)) (t9 : Int) (r0 : List ByteArray) : Option ((List ByteArray)) := evRAt (envOf M .x) (lvT 116) cd116 [true, true, false, true, false] (endK (β := (List ByteArray)) M 116 .x Go.Proofs.Try.f116.results.toList) (stL 20 [(3, AV.r 500000), (7, AV.d (D.l 2 (List.map cel a0))), (8, AV.d (D.i IntKind.i64 (↑a0.length : Int))), (9, AV.d (D.i IntKind.i64 t9))] [(500000, some (Ob.row 1 (List.map cel r0) true false 0))])
theorem n116_eq (a0 : (List TreeArg)) : n116 a0 = l116_3 a0 0 [] := by
  rw [n116, fnO_code h116 rfl Go.Proofs.Try.func116 (c := cd116) rfl (a0, ()) rfl]
  simp (maxSteps := 60000000) (disch := first | (intros; rename_i h; cases h; done) | decide +kernel) only [evS, seS, List.map_replicate, Nat.reduceDiv, Nat.reduceMod, Nat.reduceEqDiff, reduceCtorEq, ↓reduceIte, Nat.reduceLT, Nat.reduceAdd, Nat.reduceMul, Nat.reduceSub, Nat.reduceLeDiff, Nat.reduceBEq, Int.reduceEq, Int.reduceNeg, Int.reduceToNat, Int.reduceLE, Int.reduceLT, cd116, Go.Proofs.Try.f116, h116.r, m116, lv_pl, pl116, lv116_3, l116_3]
  all_goals try simp only [rnS, seS, Nat.reduceEqDiff, reduceCtorEq, ↓reduceIte, Nat.reduceAdd, Nat.reduceLeDiff, Nat.reduceBEq, Nat.reduceMul, lv116_3]
theorem l116_3_eq (a0 : (List TreeArg)) (t9 : Int) (r0 : List ByteArray) : l116_3 a0 t9 r0 = if t9 < (↑a0.length : Int) then (getI a0 t9).bind fun y0 => if (r0.length + 1) * 16 ≤ 140737488355328 ∧ r0.length ≤ 140737488355327 then l116_3 a0 (IntKind.i64.wrap (t9 + 1)) (r0 ++ [y0.name]) else none else some r0 := by
  rw [l116_3]
  simp only [evRAt, locS, cd116, Go.Proofs.Try.f116]
  rw [evR_eq]
  simp (maxSteps := 60000000) (disch := first | (intros; rename_i h; cases h; done) | decide +kernel) only [evS, seS, List.map_replicate, Nat.reduceDiv, Nat.reduceMod, Nat.reduceEqDiff, reduceCtorEq, ↓reduceIte, Nat.reduceLT, Nat.reduceAdd, Nat.reduceMul, Nat.reduceSub, Nat.reduceLeDiff, Nat.reduceBEq, Int.reduceEq, Int.reduceNeg, Int.reduceToNat, Int.reduceLE, Int.reduceLT, cd116, Go.Proofs.Try.f116, h116.r, m116, lv_pl, pl116, lv116_3, l116_3]
  all_goals try simp only [rnS, seS, Nat.reduceEqDiff, reduceCtorEq, ↓reduceIte, Nat.reduceAdd, Nat.reduceLeDiff, Nat.reduceBEq, Nat.reduceMul, lv116_3]
  all_goals try simp only [bindN_eq]
end Go.Fs.Se

set_option linter.unusedVariables false
set_option linter.unusedSimpArgs false
set_option maxRecDepth 40000
set_option maxHeartbeats 4000000
open Go.RowKit
namespace Go.Fs.Se
open Cel (cel unc)
open Dat (enc dec)
open Arg (ea da)
/-! loop.example/smithy/impl.isType -/
theorem n117_eq (a0 : Int) : n117 a0 = n99 a0 1 3 := by
  rw [n117, fnO_code h117 rfl Go.Proofs.Try.func117 (c := cd117) rfl (a0, ()) rfl]
  simp (maxSteps := 60000000) (disch := first | (intros; rename_i h; cases h; done) | decide +kernel) only [evS, seS, List.map_replicate, Nat.reduceDiv, Nat.reduceMod, Nat.reduceEqDiff, reduceCtorEq, ↓reduceIte, Nat.reduceLT, Nat.reduceAdd, Nat.reduceMul, Nat.reduceSub, Nat.reduceLeDiff, Nat.reduceBEq, Int.reduceEq, Int.reduceNeg, Int.reduceToNat, Int.reduceLE, Int.reduceLT, cd117, Go.Proofs.Try.f117, h117.r, m117, lv_pl, pl117, c99]
end Go.Fs.Se

set_option linter.unusedVariables false
set_option linter.unusedSimpArgs false
set_option maxRecDepth 40000
set_option maxHeartbeats 4000000
open Go.RowKit
namespace Go.Fs.Se
open Cel (cel unc)
open Dat (enc dec)
open Arg (ea da)
/-! slices.ContainsFunc[[]loop.example/smithy/impl.TreeArg,loop.example/smithy/impl.TreeArg] -/
theorem n118_119_eq (a0 : (List TreeArg)) : n118 a0 (Fv.mk (D.f 119 [])) = (n149 a0 (Fv.mk (D.f 119 []))).bind fun y0 => some (decide (0 ≤ y0)) := by
  rw [n118, fnO_code h118 rfl Go.Proofs.Try.func118 (c := cd118) rfl (a0, (Fv.mk (D.f 119 [])), ()) rfl]
  simp (maxSteps := 60000000) (disch := first | (intros; rename_i h; cases h; done) | decide +kernel) only [evS, seS, List.map_replicate, Nat.reduceDiv, Nat.reduceMod, Nat.reduceEqDiff, reduceCtorEq, ↓reduceIte, Nat.reduceLT, Nat.reduceAdd, Nat.reduceMul, Nat.reduceSub, Nat.reduceLeDiff, Nat.reduceBEq, Int.reduceEq, Int.reduceNeg, Int.reduceToNat, Int.reduceLE, Int.reduceLT, cd118, Go.Proofs.Try.f118, h118.r, m118, lv_pl, pl118, c149, c119]
  all_goals try simp only [bindN_eq]
end Go.Fs.Se

set_option linter.unusedVariables false
set_option linter.unusedSimpArgs false
set_option maxRecDepth 40000
set_option maxHeartbeats 4000000
open Go.RowKit
namespace Go.Fs.Se
open Cel (cel unc)
open Dat (enc dec)
open Arg (ea da)
/-! slices.IndexFunc[[]loop.example/smithy/impl.TreeArg,loop.example/smithy/impl.TreeArg] -/
noncomputable def l149_119_2 (a0 : (List TreeArg)) (t8 : Int) : Option (Int) := evRAt (envOf M .x) (lvT 149) cd149 [true, false, true, false] (endK (β := Int) M 149 .x Go.Proofs.Try.f149.results.toList) (stL 19 [(0, AV.d (D.l 2 (List.map cel a0))), (1, AV.d (D.f 119 [])), (7, AV.d (D.i IntKind.i64 (↑a0.length : Int))), (8, AV.d (D.i IntKind.i64 t8))] [])
theorem n149_119_eq (a0 : (List TreeArg)) : n149 a0 (Fv.mk (D.f 119 [])) = l149_119_2 a0 0 := by
  rw [n149, fnO_code h149 rfl Go.Proofs.Try.func149 (c := cd149) rfl (a0, (Fv.mk (D.f 119 [])), ()) rfl]
  simp (maxSteps := 60000000) (disch := first | (intros; rename_i h; cases h; done) | decide +kernel) only [evS, seS, List.map_replicate, Nat.reduceDiv, Nat.reduceMod, Nat.reduceEqDiff, reduceCtorEq, ↓reduceIte, Nat.reduceLT, Nat.reduceAdd, Nat.reduceMul, Nat.reduceSub, Nat.reduceLeDiff, Nat.reduceBEq, Int.reduceEq, Int.reduceNeg, Int.reduceToNat, Int.reduceLE, Int.reduceLT, cd149, Go.Proofs.Try.f149, h149.r, m149, lv_pl, pl149, c119, lv149_2, l149_119_2]
  all_goals try simp only [rnS, seS, Nat.reduceEqDiff, reduceCtorEq, ↓reduceIte, Nat.reduceAdd, Nat.reduceLeDiff, Nat.reduceBEq, Nat.reduceMul, lv149_2]
theorem l149_119_2_eq (a0 : (List TreeArg)) (t8 : Int) : l149_119_2 a0 t8 = if t8 < (↑a0.length : Int) then (getI a0 t8).bind fun y0 => (n119 y0).bind fun y1 => if y1 = true then some t8 else l149_119_2 a0 (IntKind.i64.wrap (t8 + 1)) else some (-1) := by
  rw [l149_119_2]
  simp only [evRAt, locS, cd149, Go.Proofs.Try.f149]
  rw [evR_eq]
  simp (maxSteps := 60000000) (disch := first | (intros; rename_i h; cases h; done) | decide +kernel) only [evS, seS, List.map_replicate, Nat.reduceDiv, Nat.reduceMod, Nat.reduceEqDiff, reduceCtorEq, ↓reduceIte, Nat.reduceLT, Nat.reduceAdd, Nat.reduceMul, Nat.reduceSub, Nat.reduceLeDiff, Nat.reduceBEq, Int.reduceEq, Int.reduceNeg, Int.reduceToNat, Int.reduceLE, Int.reduceLT, cd149, Go.Proofs.Try.f149, h149.r, m149, lv_pl, pl149, c119, lv149_2, l149_119_2]
  all_goals try simp only [rnS, seS, Nat.reduceEqDiff, reduceCtorEq, ↓reduceIte, Nat.reduceAdd, Nat.reduceLeDiff, Nat.reduceBEq, Nat.reduceMul, lv149_2]
  all_goals try simp only [bindN_eq]
end Go.Fs.Se

set_option linter.unusedVariables false
set_option linter.unusedSimpArgs false
set_option maxRecDepth 40000
set_option maxHeartbeats 4000000
open Go.RowKit
namespace Go.Fs.Se
open Cel (cel unc)
open Dat (enc dec)
open Arg (ea da)
/-! loop.example/smithy/impl.TreeOk$1 -/
theorem n119_eq (a0 : TreeArg) : n119 a0 = (n117 a0.type).bind fun y0 => some !y0 := by
  rw [n119, fnO_code h119 rfl Go.Proofs.Try.func119 (c := cd119) rfl (a0, ()) rfl]
  simp (maxSteps := 60000000) (disch := first | (intros; rename_i h; cases h; done) | decide +kernel) only [evS, seS, List.map_replicate, Nat.reduceDiv, Nat.reduceMod, Nat.reduceEqDiff, reduceCtorEq, ↓reduceIte, Nat.reduceLT, Nat.reduceAdd, Nat.reduceMul, Nat.reduceSub, Nat.reduceLeDiff, Nat.reduceBEq, Int.reduceEq, Int.reduceNeg, Int.reduceToNat, Int.reduceLE, Int.reduceLT, cd119, Go.Proofs.Try.f119, h119.r, m119, lv_pl, pl119, c117]
  all_goals try simp only [bindN_eq]
end Go.Fs.Se

set_option linter.unusedVariables false
set_option linter.unusedSimpArgs false
set_option maxRecDepth 40000
set_option maxHeartbeats 4000000
open Go.RowKit
namespace Go.Fs.Se
open Cel (cel unc)
open Dat (enc dec)
open Arg (ea da)
/-! (loop.example/smithy/impl.TreeMod).bodies -/
noncomputable def l120_3 (a0 : TreeMod) (t10 : Int) (r1 : List TreeExpr) (r1d : Bool) : Option ((List TreeExpr)) := evRAt (envOf M .x) (lvT 120) cd120 [true, true, false, true, false] (endK (β := (List TreeExpr)) M 120 .x Go.Proofs.Try.f120.results.toList) (stL 24 [(1, AV.a 500000 0), (3, AV.r 500001), (8, AV.d (D.l 9 (List.map cel a0.funs))), (9, AV.d (D.i IntKind.i64 (↑a0.funs.length : Int))), (10, AV.d (D.i IntKind.i64 t10))] [(500000, some (Ob.box [AV.d (D.l 1 (List.map cel a0.uses)), AV.d (D.l 9 (List.map cel a0.funs)), AV.d (D.l 5 (List.map cel a0.main))])), (500001, some (Ob.row 5 (List.map cel r1) r1d false 0))])
theorem n120_eq (a0 : TreeMod) : n120 a0 = l120_3 a0 0 [] true := by
  rw [n120, fnO_code h120 rfl Go.Proofs.Try.func120 (c := cd120) rfl (a0, ()) rfl]
  simp (maxSteps := 60000000) (disch := first | (intros; rename_i h; cases h; done) | decide +kernel) only [evS, seS, List.map_replicate, Nat.reduceDiv, Nat.reduceMod, Nat.reduceEqDiff, reduceCtorEq, ↓reduceIte, Nat.reduceLT, Nat.reduceAdd, Nat.reduceMul, Nat.reduceSub, Nat.reduceLeDiff, Nat.reduceBEq, Int.reduceEq, Int.reduceNeg, Int.reduceToNat, Int.reduceLE, Int.reduceLT, cd120, Go.Proofs.Try.f120, h120.r, m120, lv_pl, pl120, lv120_3, l120_3]
  all_goals try simp only [rnS, seS, Nat.reduceEqDiff, reduceCtorEq, ↓reduceIte, Nat.reduceAdd, Nat.reduceLeDiff, Nat.reduceBEq, Nat.reduceMul, lv120_3]
theorem l120_3_eq (a0 : TreeMod) (t10 : Int) (r1 : List TreeExpr) (r1d : Bool) : l120_3 a0 t10 r1 r1d = if t10 < (↑a0.funs.length : Int) then (getI a0.funs t10).bind fun y0 => if (r1.length + 1) * 72 ≤ 140737488355328 ∧ r1.length ≤ 140737488355327 then l120_3 a0 (IntKind.i64.wrap (t10 + 1)) (r1 ++ [y0.body]) false else none else if (r1.length + a0.main.length) * 72 ≤ 140737488355328 ∧ r1.length + a0.main.length ≤ 140737488355328 then some (r1 ++ a0.main) else none := by
  rw [l120_3]
  simp only [evRAt, locS, cd120, Go.Proofs.Try.f120]
  rw [evR_eq]
  simp (maxSteps := 60000000) (disch := first | (intros; rename_i h; cases h; done) | decide +kernel) only [evS, seS, List.map_replicate, Nat.reduceDiv, Nat.reduceMod, Nat.reduceEqDiff, reduceCtorEq, ↓reduceIte, Nat.reduceLT, Nat.reduceAdd, Nat.reduceMul, Nat.reduceSub, Nat.reduceLeDiff, Nat.reduceBEq, Int.reduceEq, Int.reduceNeg, Int.reduceToNat, Int.reduceLE, Int.reduceLT, cd120, Go.Proofs.Try.f120, h120.r, m120, lv_pl, pl120, lv120_3, l120_3]
  all_goals try simp only [rnS, seS, Nat.reduceEqDiff, reduceCtorEq, ↓reduceIte, Nat.reduceAdd, Nat.reduceLeDiff, Nat.reduceBEq, Nat.reduceMul, lv120_3]
  all_goals try simp only [bindN_eq]
end Go.Fs.Se

set_option linter.unusedVariables false
set_option linter.unusedSimpArgs false
set_option maxRecDepth 40000
set_option maxHeartbeats 4000000
open Go.RowKit
namespace Go.Fs.Se
open Cel (cel unc)
open Dat (enc dec)
open Arg (ea da)
/-! loop.example/smithy/spec.TreeType -/
theorem n126_eq (a0 : Int) : n126 a0 = if a0 < 1 ∨ 3 < a0 then some (ByteArray.mk #[]) else (getI [ByteArray.mk #[105, 110, 116], ByteArray.mk #[98, 111, 111, 108], ByteArray.mk #[114, 111, 119]] (IntKind.i64.wrap (a0 - 1))).bind fun y0 => [ByteArray.mk #[105, 110, 116], ByteArray.mk #[98, 111, 111, 108], ByteArray.mk #[114, 111, 119]][(IntKind.i64.wrap (a0 - 1)).toNat]? := by
  rw [n126, fnO_code h126 rfl Go.Proofs.Try.func126 (c := cd126) rfl (a0, ()) rfl]
  simp (maxSteps := 60000000) (disch := first | (intros; rename_i h; cases h; done) | decide +kernel) only [evS, seS, List.map_replicate, Nat.reduceDiv, Nat.reduceMod, Nat.reduceEqDiff, reduceCtorEq, ↓reduceIte, Nat.reduceLT, Nat.reduceAdd, Nat.reduceMul, Nat.reduceSub, Nat.reduceLeDiff, Nat.reduceBEq, Int.reduceEq, Int.reduceNeg, Int.reduceToNat, Int.reduceLE, Int.reduceLT, cd126, Go.Proofs.Try.f126, h126.r, m126, lv_pl, pl126]
  all_goals try simp only [bindN_eq]
end Go.Fs.Se

set_option linter.unusedVariables false
set_option maxRecDepth 4000
namespace Go.Fs.Se
open Cel (cel unc)
open Dat (enc dec)
open Arg (ea da)
/-! ### right modules -/
noncomputable instance (s : ByteArray) (r : List ByteArray) : Decidable (s ∈ r) := Classical.propDecidable _
theorem cont_ok (r : List ByteArray) (s : ByteArray) (hr : r.length ≤ 140737488355328) : n148 r s = some (decide (s ∈ r)) := by
  have loop : ∀ (ys : List ByteArray) (i : Nat), r.drop i = ys → i ≤ r.length → ∃ j, l166_2 r s (i : Int) = some j ∧ (0 ≤ j ↔ s ∈ ys) := by
    intro ys
    induction ys with
    | nil =>
      intro i hd hi
      have := dropEnd hd
      exact ⟨-1, by rw [l166_2_eq, if_neg (by omega)], by simp⟩
    | cons y ys ih =>
      intro i hd hi
      obtain ⟨d1, d2, d3, d4⟩ := dropAt hd
      obtain ⟨j, r1, r2⟩ := ih (i + 1) d4 (by omega)
      rw [l166_2_eq, if_pos (by omega)]
      simp only [d2, Option.bind_some, wrN (n := i) (by omega)]
      by_cases h : s = y
      · subst h; exact ⟨i, by simp, by simp⟩
      · exact ⟨j, by rw [if_neg h]; exact r1, by rw [r2]; simp [h]⟩
  obtain ⟨j, r1, r2⟩ := loop r 0 rfl (by omega)
  have z : ((0 : Nat) : Int) = 0 := rfl
  rw [z] at r1
  rw [n148_eq, n166_eq, r1, Option.bind_some]
  congr 1
  exact decide_eq_decide.2 r2
/-- From a place on, texts are names and none stands before. -/
def QN (xs : List ByteArray) (i : Nat) : Prop := ∀ (k : Nat) (y : ByteArray), i ≤ k → xs[k]? = some y → n85 y = some true ∧ y ∉ xs.take k
theorem QN_end {xs : List ByteArray} {i : Nat} (h : xs.length ≤ i) : QN xs i := fun k y hk e => by
  rw [List.getElem?_eq_none (by omega)] at e; cases e
theorem QN_step {xs : List ByteArray} {i : Nat} {x : ByteArray} (e : xs[i]? = some x) : QN xs i ↔ (n85 x = some true ∧ x ∉ xs.take i) ∧ QN xs (i + 1) := by
  constructor
  · intro h
    exact ⟨h i x (Nat.le_refl _) e, fun k y hk e => h k y (by omega) e⟩
  · rintro ⟨h1, h2⟩ k y hk e'
    by_cases hki : k = i
    · subst hki; rw [e] at e'; cases e'; exact h1
    · exact h2 k y (by omega) e'
theorem names_ok (xs : List ByteArray) (hl : xs.length ≤ 1048576) (hs : ∀ s ∈ xs, s.size ≤ 140737488355328) : ∃ b, n111 xs = some b ∧ n115 xs = some b ∧ (b = true ↔ QN xs 0) := by
  have inner : ∀ (n i j : Nat) (x : ByteArray), i - j = n → j ≤ i → xs[i]? = some x → i < xs.length → l111_7 xs (i : Int) (j : Int) = if x ∈ (xs.take i).drop j then some false else l111_2 xs ((i + 1 : Nat) : Int) := by
    intro n
    induction n with
    | zero =>
      intro i j x h1 h2 e hi
      have : (xs.take i).drop j = [] := List.drop_eq_nil_of_le (by rw [List.length_take]; omega)
      rw [l111_7_eq, if_neg (by omega), this, wrN (by omega)]
      simp
    | succ n ih =>
      intro i j x h1 h2 e hi
      have hj : j < xs.length := by omega
      have gx : getI xs (i : Int) = some x := by unfold getI; rw [if_pos (by omega), Int.toNat_natCast, e]
      have gj : getI xs (j : Int) = some xs[j] := by unfold getI; rw [if_pos (by omega), Int.toNat_natCast, List.getElem?_eq_getElem hj]
      have hd : (xs.take i).drop j = xs[j] :: (xs.take i).drop (j + 1) := by
        rw [List.drop_eq_getElem_cons (by rw [List.length_take]; omega), List.getElem_take]
      rw [l111_7_eq, if_pos (by omega), gj, Option.bind_some, gx, Option.bind_some, wrN (by omega), ih i (j + 1) x (by omega) (by omega) e hi, hd]
      by_cases h : xs[j] = x
      · rw [if_pos h, if_pos (by rw [h]; exact .head _)]
      · rw [if_neg h]
        have : (x ∈ xs[j] :: (xs.take i).drop (j + 1)) ↔ x ∈ (xs.take i).drop (j + 1) := by simp [Ne.symm h, show ¬ x = xs[j] from fun e => h e.symm]
        simp only [this]
  have outer : ∀ (ys : List ByteArray) (i : Nat), xs.drop i = ys → i ≤ xs.length → ∃ b, l111_2 xs (i : Int) = some b ∧ l115_2 xs (i : Int) = some b ∧ (b = true ↔ QN xs i) := by
    intro ys
    induction ys with
    | nil =>
      intro i hd hi
      have := dropEnd hd
      exact ⟨true, by rw [l111_2_eq, if_neg (by omega)], by rw [l115_2_eq, if_neg (by omega)], by simp [QN_end this]⟩
    | cons y ys ih =>
      intro i hd hi
      obtain ⟨d1, d2, d3, d4⟩ := dropAt hd
      obtain ⟨b, r1, r2, r3⟩ := ih (i + 1) d4 (by omega)
      obtain ⟨c, c1, c2⟩ := name_ok y (hs y (mem_drop hd))
      rw [l111_2_eq, l115_2_eq, if_pos (by omega), if_pos (by omega), QN_step d3]
      simp only [d2, Option.bind_some, c1, c2, bindB, wrN (n := i) (by omega)]
      cases c with
      | false => exact ⟨false, by simp, by simp, by simp⟩
      | true =>
        have hin := inner i i 0 y (by omega) (by omega) d3 d1
        have z : ((0 : Nat) : Int) = 0 := rfl
        rw [z, List.drop_zero] at hin
        have hc : n148 (List.take (((i : Int).toNat) - 0) xs) y = some (decide (y ∈ xs.take i)) := by
          rw [Int.toNat_natCast, Nat.sub_zero, cont_ok _ _ (by rw [List.length_take]; omega)]
        have hp : 0 ≤ (i : Int).toNat ∧ (i : Int).toNat ≤ xs.length := by rw [Int.toNat_natCast]; omega
        simp only [Bool.true_eq_false, if_false, hin, hc, hp, and_self, if_true, show (0 : Int) ≤ (i : Int) by omega, Option.bind_some]
        by_cases hm : y ∈ xs.take i
        · exact ⟨false, by simp [hm], by simp [hm], by simp [hm]⟩
        · exact ⟨b, by simp only [hm, if_false]; exact r1, by simp only [hm, decide_false, Bool.false_eq_true, if_false]; exact r2, by simp [hm, r3]⟩
  obtain ⟨b, r1, r2, r3⟩ := outer xs 0 rfl (by omega)
  rw [n111_eq, n115_eq]
  exact ⟨b, r1, r2, r3⟩
/-! types -/
def isT (t : Int) : Prop := 1 ≤ t ∧ t ≤ 3
theorem type_word (t : Int) : ∃ w, n126 t = some w ∧ (w = ⟨#[]⟩ ↔ ¬ isT t) := by
  rw [n126_eq]
  by_cases h : t < 1 ∨ 3 < t
  · exact ⟨_, by rw [if_pos h], by unfold isT; simp; omega⟩
  · rw [if_neg h]
    rcases (by omega : t = 1 ∨ t = 2 ∨ t = 3) with rfl | rfl | rfl
    · exact ⟨⟨#[105, 110, 116]⟩, by decide +kernel, by unfold isT; simp⟩
    · exact ⟨⟨#[98, 111, 111, 108]⟩, by decide +kernel, by unfold isT; simp⟩
    · exact ⟨⟨#[114, 111, 119]⟩, by decide +kernel, by unfold isT; simp⟩
instance (t : Int) : Decidable (isT t) := by unfold isT; exact inferInstance
theorem is_type (t : Int) : n117 t = some (decide (isT t)) := by
  rw [n117_eq, n99_eq]
  congr 1
  rw [Bool.eq_iff_iff]
  simp only [Bool.and_eq_true, decide_eq_true_eq]
  exact Iff.rfl
theorem argNames_ok (ars : List TreeArg) (hl : ars.length ≤ 1048576) : n116 ars = some (ars.map (·.name)) := by
  have loop : ∀ (ys : List TreeArg) (i : Nat) (r : List ByteArray), ars.drop i = ys → r.length = i → i ≤ ars.length → l116_3 ars (i : Int) r = some (r ++ ys.map (·.name)) := by
    intro ys
    induction ys with
    | nil =>
      intro i r hd hr hi
      have := dropEnd hd
      rw [l116_3_eq, if_neg (by omega)]; simp
    | cons y ys ih =>
      intro i r hd hr hi
      obtain ⟨d1, d2, d3, d4⟩ := dropAt hd
      rw [l116_3_eq, if_pos (by omega), d2, Option.bind_some, if_pos ⟨by omega, by omega⟩, wrN (by omega), ih (i + 1) _ d4 (by simp [hr]) (by omega)]
      simp
  rw [n116_eq]
  simpa using loop ars 0 [] rfl rfl (by omega)
theorem badType_ok (ars : List TreeArg) (hl : ars.length ≤ 1048576) : ∃ b, n118 ars (Fv.mk (D.f 119 [])) = some b ∧ (b = true ↔ ∃ a ∈ ars, ¬ isT a.type) := by
  have loop : ∀ (ys : List TreeArg) (i : Nat), ars.drop i = ys → i ≤ ars.length → ∃ j, l149_119_2 ars (i : Int) = some j ∧ (0 ≤ j ↔ ∃ a ∈ ys, ¬ isT a.type) := by
    intro ys
    induction ys with
    | nil =>
      intro i hd hi
      have := dropEnd hd
      exact ⟨-1, by rw [l149_119_2_eq, if_neg (by omega)], by simp⟩
    | cons y ys ih =>
      intro i hd hi
      obtain ⟨d1, d2, d3, d4⟩ := dropAt hd
      obtain ⟨j, r1, r2⟩ := ih (i + 1) d4 (by omega)
      rw [l149_119_2_eq, if_pos (by omega)]
      simp only [d2, Option.bind_some, n119_eq, is_type, wrN (n := i) (by omega)]
      by_cases h : isT y.type
      · exact ⟨j, by simp only [h, decide_true, Bool.not_true, Bool.false_eq_true, if_false]; exact r1, by rw [r2]; simp [h]⟩
      · exact ⟨i, by simp [h], by simp [h]⟩
  obtain ⟨j, r1, r2⟩ := loop ars 0 rfl (by omega)
  have z : ((0 : Nat) : Int) = 0 := rfl
  rw [z] at r1
  exact ⟨decide (0 ≤ j), by rw [n118_119_eq, n149_119_eq, r1, Option.bind_some], by simp [r2]⟩
/-- What is right of a function, its body's size not being looked at. -/
def FunP (f : TreeFun) : Prop := n85 f.name = some true ∧ f.args.length ≤ 4 ∧ isT f.type ∧ RightP f.body ∧ QN (f.args.map (·.name)) 0 ∧ ∀ a ∈ f.args, isT a.type
theorem fun_ok (f : TreeFun) (hok : okC f) (hl : f.args.length ≤ 1048576) : ∃ b, n113 f = some b ∧ (b = true ↔ FunP f) := by
  obtain ⟨k1, k2, _, k3⟩ := (okC_F f).1 hok
  obtain ⟨c, c1, c2⟩ := name_ok f.name k1
  obtain ⟨w, w1, w2⟩ := type_word f.type
  obtain ⟨r, r1, _⟩ := right_ok f.body k3
  have inner : ∀ (n i j : Nat) (x : TreeArg), i - j = n → j ≤ i → f.args[i]? = some x → i < f.args.length → l113_9 f (i : Int) (j : Int) = if x.name ∈ ((f.args.map (·.name)).take i).drop j then some false else l113_4 f ((i + 1 : Nat) : Int) := by
    intro n
    induction n with
    | zero =>
      intro i j x h1 h2 e hi
      have : ((f.args.map (·.name)).take i).drop j = [] := List.drop_eq_nil_of_le (by rw [List.length_take]; omega)
      rw [l113_9_eq, if_neg (by omega), this, wrN (by omega)]
      simp
    | succ n ih =>
      intro i j x h1 h2 e hi
      have hj : j < f.args.length := by omega
      have gx : getI f.args (i : Int) = some x := by unfold getI; rw [if_pos (by omega), Int.toNat_natCast, e]
      have gj : getI f.args (j : Int) = some f.args[j] := by unfold getI; rw [if_pos (by omega), Int.toNat_natCast, List.getElem?_eq_getElem hj]
      have hd : ((f.args.map (·.name)).take i).drop j = f.args[j].name :: ((f.args.map (·.name)).take i).drop (j + 1) := by
        rw [List.drop_eq_getElem_cons (by rw [List.length_take, List.length_map]; omega), List.getElem_take, List.getElem_map]
      rw [l113_9_eq, if_pos (by omega), gj, Option.bind_some, gx, Option.bind_some, wrN (by omega), ih i (j + 1) x (by omega) (by omega) e hi, hd]
      by_cases h : f.args[j].name = x.name
      · rw [if_pos h, if_pos (by rw [h]; exact .head _)]
      · rw [if_neg h]
        have : (x.name ∈ f.args[j].name :: ((f.args.map (·.name)).take i).drop (j + 1)) ↔ x.name ∈ ((f.args.map (·.name)).take i).drop (j + 1) := by simp [show ¬ x.name = f.args[j].name from fun e => h e.symm]
        simp only [this]
  have outer : ∀ (ys : List TreeArg) (i : Nat), f.args.drop i = ys → i ≤ f.args.length → ∃ b, l113_4 f (i : Int) = some b ∧ (b = true ↔ (QN (f.args.map (·.name)) i ∧ ∀ a ∈ ys, isT a.type)) := by
    intro ys
    induction ys with
    | nil =>
      intro i hd hi
      have := dropEnd hd
      exact ⟨true, by rw [l113_4_eq, if_neg (by omega)], by simp [QN_end (xs := f.args.map (·.name)) (i := i) (by rw [List.length_map]; exact this)]⟩
    | cons y ys ih =>
      intro i hd hi
      obtain ⟨d1, d2, d3, d4⟩ := dropAt hd
      obtain ⟨b, r1, r2⟩ := ih (i + 1) d4 (by omega)
      obtain ⟨c, c1, _⟩ := name_ok y.name ((okC_A y).1 (okLC_mem k2.2 y (mem_drop hd))).1
      obtain ⟨w, w1, w2⟩ := type_word y.type
      have d3' : (f.args.map (·.name))[i]? = some y.name := by rw [List.getElem?_map, d3]; rfl
      rw [l113_4_eq, if_pos (by omega), QN_step d3']
      simp only [d2, Option.bind_some, c1, w1, bindB]
      cases c with
      | false => exact ⟨false, by simp, by simp⟩
      | true =>
        by_cases ht : isT y.type
        · have hw : ¬ w = ⟨#[]⟩ := fun e => (w2.1 e) ht
          have hin := inner i i 0 y (by omega) (by omega) d3 d1
          have z : ((0 : Nat) : Int) = 0 := rfl
          rw [z, List.drop_zero] at hin
          simp only [Bool.true_eq_false, if_false, Option.bind_some, hw, decide_false, Bool.false_eq_true, hin]
          by_cases hm : y.name ∈ (f.args.map (·.name)).take i
          · exact ⟨false, by simp [hm], by simp [hm]⟩
          · refine ⟨b, by simp only [hm, if_false]; exact r1, ?_⟩
            rw [r2]
            simp [hm, ht, and_assoc]
        · have hw : w = ⟨#[]⟩ := w2.2 ht
          exact ⟨false, by simp [hw], by simp [ht]⟩
  obtain ⟨b, l1, l2⟩ := outer f.args 0 rfl (by omega)
  have z : ((0 : Nat) : Int) = 0 := rfl
  rw [z] at l1
  rw [n113_eq]
  unfold FunP RightP
  rw [c1, r1]
  simp only [Option.bind_some, w1, bindB]
  cases c with
  | false => exact ⟨false, by simp, by simp⟩
  | true =>
    by_cases h4 : 4 < (f.args.length : Int)
    · exact ⟨false, by simp [h4], by simp; intro h; omega⟩
    · by_cases ht : isT f.type
      · have hw : ¬ w = ⟨#[]⟩ := fun e => (w2.1 e) ht
        cases r with
        | false => exact ⟨false, by simp [h4, hw], by simp⟩
        | true =>
          refine ⟨b, by simp [h4, hw, l1], ?_⟩
          rw [l2]
          have : f.args.length ≤ 4 := by omega
          simp [this, ht]
      · have hw : w = ⟨#[]⟩ := w2.2 ht
        exact ⟨false, by simp [h4, hw], by simp [ht]⟩
end Go.Fs.Se

set_option linter.unusedVariables false
set_option maxRecDepth 4000
namespace Go.Fs.Se
open Cel (cel unc)
open Dat (enc dec)
open Arg (ea da)
/-! ### right modules, whole -/
def bodies (m : TreeMod) : List TreeExpr := m.funs.map (·.body) ++ m.main
theorem NL_app : ∀ (a b : List TreeExpr), NL (a ++ b) = NL a + NL b
  | [], b => by simp [NL_nil]
  | e :: a, b => by rw [List.cons_append, NL_cons, NL_cons, NL_app a b]; omega
theorem WB_le : ∀ fs : List TreeFun, ∀ f ∈ fs, W f.body ≤ WLC fs := by
  intro fs f hf
  have h1 := WLC_mem (xs := fs) f hf
  rw [WC_F] at h1
  omega
theorem body_W {m : TreeMod} (hw : WM m ≤ 1048576) : ∀ e ∈ bodies m, W e ≤ 1048576 := by
  rw [WM_eq] at hw
  intro e he
  rcases List.mem_append.1 he with he | he
  · obtain ⟨f, hf, rfl⟩ := List.mem_map.1 he
    have := WB_le m.funs f hf
    omega
  · have := WL_mem (es := m.main) e he
    omega
theorem body_ok {m : TreeMod} (hok : okM m) : ∀ e ∈ bodies m, okE e := by
  obtain ⟨k1, k2, k3⟩ := (okM_iff m).1 hok
  intro e he
  rcases List.mem_append.1 he with he | he
  · obtain ⟨f, hf, rfl⟩ := List.mem_map.1 he
    exact ((okC_F f).1 (okLC_mem k2.2 f hf)).2.2.2
  · exact okEs_mem k3.2 e he
theorem body_len (m : TreeMod) : (bodies m).length = m.funs.length + m.main.length := by simp [bodies]
theorem NL_W : ∀ es : List TreeExpr, NL es ≤ es.length + WL es := NL_le
theorem bodies_NL {m : TreeMod} (hw : WM m ≤ 1048576) : NL (bodies m) ≤ 2097152 := by
  rw [WM_eq] at hw
  unfold bodies
  rw [NL_app]
  have h1 := NL_le m.main
  have h2 : ∀ fs : List TreeFun, NL (fs.map (·.body)) ≤ fs.length + WLC fs := by
    intro fs
    induction fs with
    | nil => simp [NL_nil]
    | cons f fs ih =>
      have := NE_le f.body
      rw [List.map_cons, NL_cons, WLC_cons, WC_F, List.length_cons]
      omega
  have := h2 m.funs
  omega
theorem expr_is (y : TreeExpr) (hok : okE y) (hw : W y ≤ 1048576) : ∃ b, n66 y = some b ∧ (b = true ↔ NE y ≤ 150 ∧ DE y ≤ 16 ∧ RightP y) := by
  obtain ⟨_, t2⟩ := nodes_ok y hw
  obtain ⟨b, b1, b2⟩ := right_ok y hok
  rw [n66_eq, t2, Option.bind_some]
  unfold RightP
  rw [b1]
  by_cases hc : (NE y : Int) ≤ 150 ∧ (DE y : Int) ≤ 16
  · rw [if_pos hc, b2]
    refine ⟨b, rfl, ?_⟩
    have h1 : NE y ≤ 150 := by omega
    have h2 : DE y ≤ 16 := by omega
    simp [h1, h2]
  · rw [if_neg hc]
    refine ⟨false, rfl, ?_⟩
    simp only [Bool.false_eq_true, false_iff]
    omega
theorem size_ok (m : TreeMod) (hw : WM m ≤ 1048576) : ∃ b, n112 m = some b ∧ (b = true ↔ NL (bodies m) ≤ 150 ∧ ∀ e ∈ bodies m, DE e ≤ 16) := by
  have hB := bodies_NL hw
  have hW := body_W hw
  have hlen : m.funs.length + m.main.length ≤ 1048576 := by rw [WM_eq] at hw; omega
  have loop : ∀ (ys : List TreeExpr) (i t : Nat), (bodies m).drop i = ys → i ≤ (bodies m).length → t ≤ 150 → NL ys ≤ 2097152 → ∃ b, l112_3 m (t : Int) (i : Int) = some b ∧ (b = true ↔ t + NL ys ≤ 150 ∧ ∀ e ∈ ys, DE e ≤ 16) := by
    intro ys
    have w0 : IntKind.i64.wrap ((m.funs.length : Int) + (m.main.length : Int)) = ((m.funs.length + m.main.length : Nat) : Int) := by rw [wrap64 (by omega) (by omega)]; omega
    induction ys with
    | nil =>
      intro i t hd hi ht hn
      have := dropEnd hd
      rw [body_len] at this
      exact ⟨true, by rw [l112_3_eq, w0, if_neg (by omega)], by simp [NL_nil, ht]⟩
    | cons y ys ih =>
      intro i t hd hi ht hn
      obtain ⟨d1, d2, d3, d4⟩ := dropAt hd
      have hy := mem_drop hd
      rw [body_len] at d1
      rw [NL_cons] at hn ⊢
      obtain ⟨t1, _⟩ := nodes_ok y (hW y hy)
      have w1 : IntKind.i64.wrap ((t : Int) + (NE y : Int)) = ((t + NE y : Nat) : Int) := by rw [wrap64 (by omega) (by omega)]; omega
      have next : ∃ b, (if 150 < ((t + NE y : Nat) : Int) ∨ 16 < (DE y : Int) then some false else l112_3 m ((t + NE y : Nat) : Int) ((i + 1 : Nat) : Int)) = some b ∧ (b = true ↔ t + (NE y + NL ys) ≤ 150 ∧ ∀ e ∈ y :: ys, DE e ≤ 16) := by
        by_cases hc : 150 < ((t + NE y : Nat) : Int) ∨ 16 < (DE y : Int)
        · refine ⟨false, by rw [if_pos hc], ?_⟩
          simp only [Bool.false_eq_true, false_iff]
          rintro ⟨h1, h2⟩
          have := h2 y (.head _)
          omega
        · obtain ⟨b, r1, r2⟩ := ih (i + 1) (t + NE y) d4 (by rw [body_len]; omega) (by omega) (by omega)
          refine ⟨b, by rw [if_neg hc]; exact r1, ?_⟩
          rw [r2]
          simp only [List.mem_cons, forall_eq_or_imp]
          have h16 : DE y ≤ 16 := by omega
          simp only [h16, true_and]
          rw [show t + NE y + NL ys = t + (NE y + NL ys) from by omega]
      obtain ⟨b, r1, r2⟩ := next
      refine ⟨b, ?_, r2⟩
      rw [l112_3_eq, w0, if_pos (by omega)]
      by_cases hf : (i : Int) < (m.funs.length : Int)
      · rw [if_pos hf]
        have hfi : i < m.funs.length := by omega
        have hb : m.funs[i].body = y := by
          unfold bodies at d3
          rw [List.getElem?_append_left (by rw [List.length_map]; exact hfi), List.getElem?_map, List.getElem?_eq_getElem hfi] at d3
          simpa using d3
        have gf : getI m.funs (i : Int) = some m.funs[i] := by unfold getI; rw [if_pos (by omega), Int.toNat_natCast, List.getElem?_eq_getElem hfi]
        rw [gf, Option.bind_some, hb, t1, Option.bind_some]
        simp only [w1, wrN (n := i) (by omega)]
        exact r1
      · rw [if_neg hf]
        have hfi : m.funs.length ≤ i := by omega
        have hb : m.main[i - m.funs.length]? = some y := by
          unfold bodies at d3
          rw [List.getElem?_append_right (by rw [List.length_map]; exact hfi), List.length_map] at d3
          exact d3
        have w2 : IntKind.i64.wrap ((i : Int) - (m.funs.length : Int)) = ((i - m.funs.length : Nat) : Int) := by rw [wrap64 (by omega) (by omega)]; omega
        have gf : getI m.main ((i - m.funs.length : Nat) : Int) = some y := by unfold getI; rw [if_pos (by omega), Int.toNat_natCast, hb]
        rw [w2, gf, Option.bind_some, t1, Option.bind_some]
        simp only [w1, wrN (n := i) (by omega)]
        exact r1
  obtain ⟨b, r1, r2⟩ := loop (bodies m) 0 0 rfl (by omega) (by omega) hB
  rw [n112_eq]
  refine ⟨b, r1, ?_⟩
  rw [r2]; simp
theorem bodies_is (m : TreeMod) (hw : WM m ≤ 1048576) : n120 m = some (bodies m) := by
  have hlen : m.funs.length + m.main.length ≤ 1048576 := by rw [WM_eq] at hw; omega
  have loop : ∀ (ys : List TreeFun) (i : Nat) (r : List TreeExpr) (d : Bool), m.funs.drop i = ys → r.length = i → i ≤ m.funs.length → l120_3 m (i : Int) r d = some (r ++ (ys.map (·.body) ++ m.main)) := by
    intro ys
    induction ys with
    | nil =>
      intro i r d hd hr hi
      have := dropEnd hd
      rw [l120_3_eq, if_neg (by omega), if_pos ⟨by omega, by omega⟩]; simp
    | cons y ys ih =>
      intro i r d hd hr hi
      obtain ⟨d1, d2, d3, d4⟩ := dropAt hd
      rw [l120_3_eq, if_pos (by omega), d2, Option.bind_some, if_pos ⟨by omega, by omega⟩, wrN (by omega), ih (i + 1) _ _ d4 (by simp [hr]) (by omega)]
      simp
  rw [n120_eq]
  simpa [bodies] using loop m.funs 0 [] true rfl rfl (by omega)
def F1 (f : TreeFun) : Prop := f.args.length ≤ 4 ∧ QN (f.args.map (·.name)) 0 ∧ isT f.type ∧ ∀ a ∈ f.args, isT a.type
def BodyP (e : TreeExpr) : Prop := NE e ≤ 150 ∧ DE e ≤ 16 ∧ RightP e
/-- What the two say of a module. -/
def SpecP (m : TreeMod) : Prop := (m.uses.length ≤ 4 ∧ m.funs.length ≤ 8 ∧ m.main.length ≤ 1) ∧ QN m.uses 0 ∧ (NL (bodies m) ≤ 150 ∧ ∀ e ∈ bodies m, DE e ≤ 16) ∧ (∀ f ∈ m.funs, FunP f) ∧ QN (m.funs.map (·.name)) 0 ∧ ∀ e ∈ m.main, RightP e
def ImplP (m : TreeMod) : Prop := (m.uses.length ≤ 4 ∧ m.funs.length ≤ 8 ∧ m.main.length ≤ 1) ∧ QN m.uses 0 ∧ (∀ f ∈ m.funs, F1 f) ∧ (NL (bodies m) ≤ 150 ∧ ∀ e ∈ bodies m, BodyP e) ∧ QN (m.funs.map (·.name)) 0
theorem spec_impl (m : TreeMod) : SpecP m ↔ ImplP m := by
  constructor
  · rintro ⟨h1, h2, ⟨h3, h4⟩, h5, h6, h7⟩
    refine ⟨h1, h2, fun f hf => ⟨(h5 f hf).2.1, (h5 f hf).2.2.2.2.1, (h5 f hf).2.2.1, (h5 f hf).2.2.2.2.2⟩, ⟨h3, fun e he => ⟨?_, h4 e he, ?_⟩⟩, h6⟩
    · have := NE_mem (es := bodies m) e he; omega
    · rcases List.mem_append.1 he with he | he
      · obtain ⟨f, hf, rfl⟩ := List.mem_map.1 he
        exact (h5 f hf).2.2.2.1
      · exact h7 e he
  · rintro ⟨h1, h2, h3, ⟨h4, h5⟩, h6⟩
    refine ⟨h1, h2, ⟨h4, fun e he => (h5 e he).2.1⟩, fun f hf => ?_, h6, fun e he => (h5 e (List.mem_append_right _ he)).2.2⟩
    obtain ⟨a1, a2, a3, a4⟩ := h3 f hf
    refine ⟨?_, a1, a3, (h5 f.body (List.mem_append_left _ (List.mem_map.2 ⟨f, hf, rfl⟩))).2.2, a2, a4⟩
    obtain ⟨k, hk, e⟩ := List.mem_iff_getElem.1 hf
    exact (h6 k f.name (Nat.zero_le _) (by rw [List.getElem?_map, List.getElem?_eq_getElem hk, e]; rfl)).1
theorem names_size {m : TreeMod} (hok : okM m) : ∀ s ∈ m.funs.map (·.name), s.size ≤ 140737488355328 := by
  obtain ⟨k1, k2, k3⟩ := (okM_iff m).1 hok
  intro s hs
  obtain ⟨f, hf, rfl⟩ := List.mem_map.1 hs
  exact ((okC_F f).1 (okLC_mem k2.2 f hf)).1
theorem uses_size {m : TreeMod} (hok : okM m) : ∀ s ∈ m.uses, s.size ≤ 140737488355328 := by
  obtain ⟨k1, k2, k3⟩ := (okM_iff m).1 hok
  intro s hs
  exact (okC_S s).1 (okLC_mem k1.2 s hs)
theorem spec_ok (m : TreeMod) (hok : okM m) (hw : WM m ≤ 1048576) : ∃ b, n73 m = some b ∧ (b = true ↔ SpecP m) := by
  have hlen := hw
  rw [WM_eq] at hlen
  obtain ⟨k1, k2, k3⟩ := (okM_iff m).1 hok
  obtain ⟨u, u1, _, u3⟩ := names_ok m.uses (by omega) (uses_size hok)
  obtain ⟨s, s1, s2⟩ := size_ok m hw
  obtain ⟨n, q1, _, q3⟩ := names_ok (m.funs.map (·.name)) (by rw [List.length_map]; omega) (names_size hok)
  have loop : ∀ (ys : List TreeFun) (i : Nat) (r : List ByteArray), m.funs.drop i = ys → r.length = i → i ≤ m.funs.length → r ++ ys.map (·.name) = m.funs.map (·.name) → m.main.length ≤ 1 →
      ∃ b, l73_5 m (i : Int) r = some b ∧ (b = true ↔ (∀ f ∈ ys, FunP f) ∧ QN (m.funs.map (·.name)) 0 ∧ ∀ e ∈ m.main, RightP e) := by
    intro ys
    induction ys with
    | nil =>
      intro i r hd hr hi hn hm
      have := dropEnd hd
      simp only [List.map_nil, List.append_nil] at hn
      rw [l73_5_eq, if_neg (by omega), hn, q1, Option.bind_some]
      cases n with
      | false =>
        have : ¬ QN (m.funs.map (·.name)) 0 := fun h => by cases q3.2 h
        exact ⟨false, by simp, by simp [this]⟩
      | true =>
        have hq := q3.1 rfl
        rw [if_pos rfl]
        match hmm : m.main with
        | [] => exact ⟨true, by simp, by simp [hq]⟩
        | [e] =>
          obtain ⟨c, c1, _⟩ := right_ok e (okEs_mem k3.2 e (by rw [hmm]; simp))
          refine ⟨c, ?_, ?_⟩
          · rw [if_neg (by simp)]
            show (some e).bind _ = _
            rw [Option.bind_some, c1]
          · simp only [List.not_mem_nil, false_implies, implies_true, hq, true_and, List.mem_singleton, forall_eq]
            unfold RightP
            rw [c1]
            simp
        | _ :: _ :: _ => rw [hmm] at hm; simp at hm
    | cons y ys ih =>
      intro i r hd hr hi hn hm
      obtain ⟨d1, d2, d3, d4⟩ := dropAt hd
      have hy := mem_drop hd
      have hyw := WLC_mem (xs := m.funs) y hy
      rw [WC_F] at hyw
      obtain ⟨b, b1, b2⟩ := fun_ok y (okLC_mem k2.2 y hy) (by omega)
      rw [l73_5_eq, if_pos (by omega), d2, Option.bind_some, if_pos ⟨by omega, by omega⟩, Option.bind_some, b1, Option.bind_some, wrN (by omega)]
      cases b with
      | false =>
        have : ¬ FunP y := fun h => by cases b2.2 h
        exact ⟨false, by simp, by simp [this]⟩
      | true =>
        obtain ⟨c, c1, c2⟩ := ih (i + 1) (r ++ [y.name]) d4 (by simp [hr]) (by omega) (by simpa using hn) hm
        refine ⟨c, by rw [if_neg (by decide)]; exact c1, ?_⟩
        rw [c2]
        simp [b2.1 rfl]
  rw [n73_eq, u1, s1]
  unfold SpecP
  by_cases hc : (4 < (m.uses.length : Int) ∨ 8 < (m.funs.length : Int)) ∨ 1 < (m.main.length : Int)
  · refine ⟨false, by simp [bindB, hc], ?_⟩
    simp only [Bool.false_eq_true, false_iff]
    rintro ⟨h, _⟩
    omega
  · have hc' : m.uses.length ≤ 4 ∧ m.funs.length ≤ 8 ∧ m.main.length ≤ 1 := by omega
    simp only [if_neg hc, bindB, Option.bind_some]
    cases u with
    | false =>
      have : ¬ QN m.uses 0 := fun h => by cases u3.2 h
      exact ⟨false, by simp, by simp [this]⟩
    | true =>
      cases s with
      | false =>
        have : ¬ (NL (bodies m) ≤ 150 ∧ ∀ e ∈ bodies m, DE e ≤ 16) := fun h => by cases s2.2 h
        refine ⟨false, by simp, ?_⟩
        simp only [Bool.false_eq_true, false_iff]
        rintro ⟨_, _, h, _⟩
        exact this h
      | true =>
        obtain ⟨b, b1, b2⟩ := loop m.funs 0 [] rfl rfl (by omega) (by simp) hc'.2.2
        refine ⟨b, by simpa using b1, ?_⟩
        rw [b2]
        exact ⟨fun ⟨a, b, c⟩ => ⟨hc', u3.1 rfl, s2.1 rfl, a, b, c⟩, fun ⟨_, _, _, a, b, c⟩ => ⟨a, b, c⟩⟩
theorem impl_ok (m : TreeMod) (hok : okM m) (hw : WM m ≤ 1048576) : ∃ b, n78 m = some b ∧ (b = true ↔ ImplP m) := by
  have hlen := hw
  rw [WM_eq] at hlen
  obtain ⟨k1, k2, k3⟩ := (okM_iff m).1 hok
  obtain ⟨u, _, u1, u3⟩ := names_ok m.uses (by omega) (uses_size hok)
  obtain ⟨n, _, q1, q3⟩ := names_ok (m.funs.map (·.name)) (by rw [List.length_map]; omega) (names_size hok)
  have hB := bodies_NL hw
  have hW := body_W hw
  have hO := body_ok hok
  have loop2 : ∀ (ys : List TreeExpr) (i t : Nat), (bodies m).drop i = ys → i ≤ (bodies m).length → t ≤ 150 → NL ys ≤ 2097152 →
      ∃ b, l78_12 m (t : Int) (bodies m) ((bodies m).length : Int) (i : Int) (m.funs.map (·.name)) = some b ∧ (b = true ↔ (t + NL ys ≤ 150 ∧ ∀ e ∈ ys, BodyP e) ∧ QN (m.funs.map (·.name)) 0) := by
    intro ys
    induction ys with
    | nil =>
      intro i t hd hi ht hn
      have := dropEnd hd
      exact ⟨n, by rw [l78_12_eq, if_neg (by omega), q1], by rw [q3]; simp [NL_nil, ht]⟩
    | cons y ys ih =>
      intro i t hd hi ht hn
      obtain ⟨d1, d2, d3, d4⟩ := dropAt hd
      have hy := mem_drop hd
      have hbl : (bodies m).length ≤ 1048576 := by rw [body_len]; omega
      rw [NL_cons] at hn ⊢
      obtain ⟨_, t2⟩ := nodes_ok y (hW y hy)
      obtain ⟨c, c1, c2⟩ := expr_is y (hO y hy) (hW y hy)
      have w1 : IntKind.i64.wrap ((t : Int) + (NE y : Int)) = ((t + NE y : Nat) : Int) := by rw [wrap64 (by omega) (by omega)]; omega
      rw [l78_12_eq, if_pos (by omega), d2, Option.bind_some, t2, Option.bind_some]
      simp only [w1, wrN (n := i) (by omega), c1, bindB, Option.bind_some]
      by_cases hc : 150 < ((t + NE y : Nat) : Int)
      · refine ⟨false, by simp only [if_pos hc, Option.bind_some, if_true], ?_⟩
        simp only [Bool.false_eq_true, false_iff]
        rintro ⟨⟨h, _⟩, _⟩
        omega
      · simp only [if_neg hc, Option.bind_some]
        cases c with
        | false =>
          have : ¬ BodyP y := fun h => by cases c2.2 h
          exact ⟨false, by simp, by simp [this]⟩
        | true =>
          obtain ⟨b, r1, r2⟩ := ih (i + 1) (t + NE y) d4 (by omega) (by omega) (by omega)
          refine ⟨b, by simpa using r1, ?_⟩
          rw [r2]
          have hb : BodyP y := c2.1 rfl
          simp only [List.mem_cons, forall_eq_or_imp, hb, true_and]
          rw [show t + NE y + NL ys = t + (NE y + NL ys) from by omega]
  have loop : ∀ (ys : List TreeFun) (i : Nat) (r : List ByteArray), m.funs.drop i = ys → r.length = i → i ≤ m.funs.length → r ++ ys.map (·.name) = m.funs.map (·.name) →
      ∃ b, l78_5 m 0 (i : Int) r = some b ∧ (b = true ↔ (∀ f ∈ ys, F1 f) ∧ (NL (bodies m) ≤ 150 ∧ ∀ e ∈ bodies m, BodyP e) ∧ QN (m.funs.map (·.name)) 0) := by
    intro ys
    induction ys with
    | nil =>
      intro i r hd hr hi hn
      have := dropEnd hd
      simp only [List.map_nil, List.append_nil] at hn
      obtain ⟨b, r1, r2⟩ := loop2 (bodies m) 0 0 rfl (by omega) (by omega) hB
      rw [l78_5_eq, if_neg (by omega), bodies_is m hw, Option.bind_some, hn]
      refine ⟨b, r1, ?_⟩
      rw [r2]; simp
    | cons y ys ih =>
      intro i r hd hr hi hn
      obtain ⟨d1, d2, d3, d4⟩ := dropAt hd
      have hy := mem_drop hd
      have hyw := WLC_mem (xs := m.funs) y hy
      rw [WC_F] at hyw
      obtain ⟨o1, o2, _, o3⟩ := (okC_F y).1 (okLC_mem k2.2 y hy)
      obtain ⟨a, _, a1, a3⟩ := names_ok (y.args.map (·.name)) (by rw [List.length_map]; omega) (fun s hs => by
        obtain ⟨x, hx, rfl⟩ := List.mem_map.1 hs
        exact ((okC_A x).1 (okLC_mem o2.2 x hx)).1)
      obtain ⟨t, t1, t2⟩ := badType_ok y.args (by omega)
      obtain ⟨b, b1, b2⟩ := ih (i + 1) (r ++ [y.name]) d4 (by simp [hr]) (by omega) (by simpa using hn)
      rw [l78_5_eq, if_pos (by omega), d2, Option.bind_some, if_pos ⟨by omega, by omega⟩]
      simp only [argNames_ok y.args (by omega), Option.bind_some, a1, is_type, t1, bindB, wrN (n := i) (by omega), List.mem_cons, forall_eq_or_imp]
      unfold F1 at b2 ⊢
      by_cases h4 : 4 < (y.args.length : Int)
      · refine ⟨false, by simp [h4], ?_⟩
        simp only [Bool.false_eq_true, false_iff]
        rintro ⟨⟨⟨h, _⟩, _⟩, _⟩
        omega
      have h4' : y.args.length ≤ 4 := by omega
      simp only [if_neg h4, Option.bind_some]
      cases a with
      | false =>
        have : ¬ QN (y.args.map (·.name)) 0 := fun h => by cases a3.2 h
        exact ⟨false, by simp, by simp [this]⟩
      | true =>
        have ha := a3.1 rfl
        by_cases hT : isT y.type
        · cases t with
          | true =>
            obtain ⟨x, hx, hxt⟩ := t2.1 rfl
            refine ⟨false, by simp [hT], ?_⟩
            simp only [Bool.false_eq_true, false_iff]
            rintro ⟨⟨⟨_, _, _, h⟩, _⟩, _⟩
            exact hxt (h x hx)
          | false =>
            have hA : ∀ x ∈ y.args, isT x.type := fun x hx => Classical.byContradiction fun h => by cases t2.2 ⟨x, hx, h⟩
            refine ⟨b, by simpa [hT] using b1, ?_⟩
            rw [b2]
            simp only [h4', ha, hT, true_and]
            constructor
            · rintro ⟨p, q⟩; exact ⟨⟨hA, p⟩, q⟩
            · rintro ⟨⟨_, p⟩, q⟩; exact ⟨p, q⟩
        · exact ⟨false, by simp [hT], by simp [hT]⟩
  rw [n78_eq, u1]
  unfold ImplP
  by_cases hc : (4 < (m.uses.length : Int) ∨ 8 < (m.funs.length : Int)) ∨ 1 < (m.main.length : Int)
  · refine ⟨false, by simp [bindB, hc], ?_⟩
    simp only [Bool.false_eq_true, false_iff]
    rintro ⟨h, _⟩
    omega
  · have hc' : m.uses.length ≤ 4 ∧ m.funs.length ≤ 8 ∧ m.main.length ≤ 1 := by omega
    simp only [if_neg hc, bindB, Option.bind_some]
    cases u with
    | false =>
      have : ¬ QN m.uses 0 := fun h => by cases u3.2 h
      exact ⟨false, by simp, by simp [this]⟩
    | true =>
      obtain ⟨b, b1, b2⟩ := loop m.funs 0 [] rfl rfl (by omega) (by simp)
      refine ⟨b, by simpa using b1, ?_⟩
      rw [b2]
      simp only [hc', u3.1 rfl, and_self, true_and]
theorem treeOk (m : TreeMod) (hok : okM m) (hw : WM m ≤ 1048576) : ∃ b, n73 m = some b ∧ n78 m = some b ∧ (b = true ↔ ImplP m) := by
  obtain ⟨b, b1, b2⟩ := spec_ok m hok hw
  obtain ⟨c, c1, c2⟩ := impl_ok m hok hw
  have : b = c := by rw [Bool.eq_iff_iff, b2, c2]; exact spec_impl m
  subst this
  exact ⟨b, b1, c1, c2⟩
end Go.Fs.Se

set_option linter.unusedVariables false
set_option linter.unusedSimpArgs false
set_option maxRecDepth 40000
set_option maxHeartbeats 4000000
open Go.RowKit
namespace Go.Fs.Se
open Cel (cel unc)
open Dat (enc dec)
open Arg (ea da)
/-! loop.example/smithy/laws.markText -/
noncomputable def l44_4 (a0 : Int) (t0 : Int) (t3 : ByteArray) : Option (ByteArray) := evRAt (envOf M .x) (lvT 44) cd44 [true, true, true, false, false] (endK (β := ByteArray) M 44 .x Go.Proofs.Try.f44.results.toList) (stL 20 [(0, AV.d (D.i IntKind.i64 t0)), (3, AV.d (D.s t3))] [])
theorem n44_eq (a0 : Int) : n44 a0 = if a0 ≤ 0 then some (ByteArray.mk #[109, 48]) else l44_4 a0 a0 (ByteArray.mk #[]) := by
  rw [n44, fnO_code h44 rfl Go.Proofs.Try.func44 (c := cd44) rfl (a0, ()) rfl]
  simp (maxSteps := 60000000) (disch := first | (intros; rename_i h; cases h; done) | decide +kernel) only [evS, seS, List.map_replicate, Nat.reduceDiv, Nat.reduceMod, Nat.reduceEqDiff, reduceCtorEq, ↓reduceIte, Nat.reduceLT, Nat.reduceAdd, Nat.reduceMul, Nat.reduceSub, Nat.reduceLeDiff, Nat.reduceBEq, Int.reduceEq, Int.reduceNeg, Int.reduceToNat, Int.reduceLE, Int.reduceLT, cd44, Go.Proofs.Try.f44, h44.r, m44, lv_pl, pl44, lv44_4, l44_4]
  all_goals try simp only [rnS, seS, Nat.reduceEqDiff, reduceCtorEq, ↓reduceIte, Nat.reduceAdd, Nat.reduceLeDiff, Nat.reduceBEq, Nat.reduceMul, lv44_4]
theorem l44_4_eq (a0 : Int) (t0 : Int) (t3 : ByteArray) : l44_4 a0 t0 t3 = if 0 < t0 then if (bytesS [IntKind.u8.wrap (IntKind.i64.wrap (48 + t0.tmod 10))]).size + t3.size ≤ 9223372036854775807 then l44_4 a0 (IntKind.i64.wrap (t0.tdiv 10)) (bytesS [IntKind.u8.wrap (IntKind.i64.wrap (48 + t0.tmod 10))] ++ t3) else none else if (ByteArray.mk #[109]).size + t3.size ≤ 9223372036854775807 then some (ByteArray.mk #[109] ++ t3) else none := by
  rw [l44_4]
  simp only [evRAt, locS, cd44, Go.Proofs.Try.f44]
  rw [evR_eq]
  simp (maxSteps := 60000000) (disch := first | (intros; rename_i h; cases h; done) | decide +kernel) only [evS, seS, List.map_replicate, Nat.reduceDiv, Nat.reduceMod, Nat.reduceEqDiff, reduceCtorEq, ↓reduceIte, Nat.reduceLT, Nat.reduceAdd, Nat.reduceMul, Nat.reduceSub, Nat.reduceLeDiff, Nat.reduceBEq, Int.reduceEq, Int.reduceNeg, Int.reduceToNat, Int.reduceLE, Int.reduceLT, cd44, Go.Proofs.Try.f44, h44.r, m44, lv_pl, pl44, lv44_4, l44_4]
  all_goals try simp only [rnS, seS, Nat.reduceEqDiff, reduceCtorEq, ↓reduceIte, Nat.reduceAdd, Nat.reduceLeDiff, Nat.reduceBEq, Nat.reduceMul, lv44_4]
end Go.Fs.Se

set_option linter.unusedVariables false
set_option linter.unusedSimpArgs false
set_option maxRecDepth 40000
set_option maxHeartbeats 4000000
open Go.RowKit
namespace Go.Fs.Se
open Cel (cel unc)
open Dat (enc dec)
open Arg (ea da)
/-! loop.example/smithy/laws.markTreeExprS -/
noncomputable def l69_2 (a0 : (List TreeExpr)) (a1 : Int) (t1 : Int) (t5 : Int) (z0 : List TreeExpr) : Option (Int × (List TreeExpr)) := evRAt (envOf M (inAV (.io (enc a0)))) (lvT 69) cd69 [true, false, true, false] (endI (α := (List TreeExpr)) (β := Int) M 69 (inAV (.io (enc a0))) Go.Proofs.Try.f69.results.toList) (stL 50 [(0, AV.r 900000), (1, AV.d (D.i IntKind.i64 t1)), (5, AV.d (D.i IntKind.i64 t5))] [(900000, some (Ob.row 5 (List.map cel z0) true false 0))])
theorem n69_eq (a0 : (List TreeExpr)) (a1 : Int) : n69 a0 a1 = l69_2 a0 a1 a1 0 a0 := by
  rw [n69, fnI_code h69 Go.Proofs.Try.func69 (c := cd69) rfl (a0, a1, ()) rfl]
  simp (maxSteps := 60000000) (disch := first | (intros; rename_i h; cases h; done) | decide +kernel) only [evS, seS, List.map_replicate, Nat.reduceDiv, Nat.reduceMod, Nat.reduceEqDiff, reduceCtorEq, ↓reduceIte, Nat.reduceLT, Nat.reduceAdd, Nat.reduceMul, Nat.reduceSub, Nat.reduceLeDiff, Nat.reduceBEq, Int.reduceEq, Int.reduceNeg, Int.reduceToNat, Int.reduceLE, Int.reduceLT, cd69, Go.Proofs.Try.f69, h69.r, m69, lv_pl, pl69, c44, c69, lv69_2, l69_2]
  all_goals try simp only [rnS, seS, Nat.reduceEqDiff, reduceCtorEq, ↓reduceIte, Nat.reduceAdd, Nat.reduceLeDiff, Nat.reduceBEq, Nat.reduceMul, lv69_2]
theorem l69_2_eq (a0 : (List TreeExpr)) (a1 : Int) (t1 : Int) (t5 : Int) (z0 : List TreeExpr) : l69_2 a0 a1 t1 t5 z0 = if t5 < (↑z0.length : Int) then (getI z0 t5).bind fun y0 => z0[t5.toNat]?.bind fun y3 => (getI z0 t5).bind fun y4 => z0[t5.toNat]?.bind fun y7 => (n44 (IntKind.i64.wrap (IntKind.i64.wrap (t1 + 1) + 1))).bind fun y8 => (getI z0 t5).bind fun y9 => z0[t5.toNat]?.bind fun y12 => (n44 (IntKind.i64.wrap (IntKind.i64.wrap (IntKind.i64.wrap (t1 + 1) + 1) + 1))).bind fun y13 => (getI z0 t5).bind fun y14 => z0[t5.toNat]?.bind fun y17 => (getI z0 t5).bind fun y18 => z0[t5.toNat]?.bind fun y21 => z0[t5.toNat]?.bind fun y24 => (n69 y3.kids (IntKind.i64.wrap (IntKind.i64.wrap (IntKind.i64.wrap (IntKind.i64.wrap (t1 + 1) + 1) + 1) + 1))).bind fun y25 => l69_2 a0 a1 y25.fst (IntKind.i64.wrap (t5 + 1)) (z0.set t5.toNat (TreeExpr.mk t1 (IntKind.i64.wrap (t1 + 1)) y8 y13 y25.snd)) else some (t1, z0) := by
  rw [l69_2]
  simp only [evRAt, locS, cd69, Go.Proofs.Try.f69]
  rw [evR_eq]
  simp (maxSteps := 60000000) (disch := first | (intros; rename_i h; cases h; done) | decide +kernel) only [evS, seS, List.map_replicate, Nat.reduceDiv, Nat.reduceMod, Nat.reduceEqDiff, reduceCtorEq, ↓reduceIte, Nat.reduceLT, Nat.reduceAdd, Nat.reduceMul, Nat.reduceSub, Nat.reduceLeDiff, Nat.reduceBEq, Int.reduceEq, Int.reduceNeg, Int.reduceToNat, Int.reduceLE, Int.reduceLT, cd69, Go.Proofs.Try.f69, h69.r, m69, lv_pl, pl69, c44, c69, lv69_2, l69_2]
  all_goals try simp only [rnS, seS, Nat.reduceEqDiff, reduceCtorEq, ↓reduceIte, Nat.reduceAdd, Nat.reduceLeDiff, Nat.reduceBEq, Nat.reduceMul, lv69_2]
  all_goals try simp only [bindN_eq]
end Go.Fs.Se

set_option linter.unusedVariables false
set_option linter.unusedSimpArgs false
set_option maxRecDepth 40000
set_option maxHeartbeats 4000000
open Go.RowKit
namespace Go.Fs.Se
open Cel (cel unc)
open Dat (enc dec)
open Arg (ea da)
/-! loop.example/smithy/laws.heldTreeExprS -/
noncomputable def l70_2 (a0 : (List TreeExpr)) (a1 : Int) (t1 : Int) (t5 : Int) : Option (Int) := evRAt (envOf M .x) (lvT 70) cd70 [true, false, true, false] (endK (β := Int) M 70 .x Go.Proofs.Try.f70.results.toList) (stL 60 [(0, AV.d (D.l 5 (List.map cel a0))), (1, AV.d (D.i IntKind.i64 t1)), (5, AV.d (D.i IntKind.i64 t5))] [])
theorem n70_eq (a0 : (List TreeExpr)) (a1 : Int) : n70 a0 a1 = l70_2 a0 a1 a1 0 := by
  rw [n70, fnO_code h70 rfl Go.Proofs.Try.func70 (c := cd70) rfl (a0, a1, ()) rfl]
  simp (maxSteps := 60000000) (disch := first | (intros; rename_i h; cases h; done) | decide +kernel) only [evS, seS, List.map_replicate, Nat.reduceDiv, Nat.reduceMod, Nat.reduceEqDiff, reduceCtorEq, ↓reduceIte, Nat.reduceLT, Nat.reduceAdd, Nat.reduceMul, Nat.reduceSub, Nat.reduceLeDiff, Nat.reduceBEq, Int.reduceEq, Int.reduceNeg, Int.reduceToNat, Int.reduceLE, Int.reduceLT, cd70, Go.Proofs.Try.f70, h70.r, m70, lv_pl, pl70, c44, c70, lv70_2, l70_2]
  all_goals try simp only [rnS, seS, Nat.reduceEqDiff, reduceCtorEq, ↓reduceIte, Nat.reduceAdd, Nat.reduceLeDiff, Nat.reduceBEq, Nat.reduceMul, lv70_2]
theorem l70_2_eq (a0 : (List TreeExpr)) (a1 : Int) (t1 : Int) (t5 : Int) : l70_2 a0 a1 t1 t5 = if t5 < (↑a0.length : Int) then (getI a0 t5).bind fun y0 => if decide (y0.kind = t1) = false then some (-1) else (getI a0 t5).bind fun y1 => if decide (y1.num = IntKind.i64.wrap (t1 + 1)) = false then some (-1) else (getI a0 t5).bind fun y2 => (n44 (IntKind.i64.wrap (IntKind.i64.wrap (t1 + 1) + 1))).bind fun y3 => if decide (y2.name = y3) = false then some (-1) else (getI a0 t5).bind fun y4 => (n44 (IntKind.i64.wrap (IntKind.i64.wrap (IntKind.i64.wrap (t1 + 1) + 1) + 1))).bind fun y5 => if decide (y4.mod = y5) = false then some (-1) else (getI a0 t5).bind fun y6 => (n70 y6.kids (IntKind.i64.wrap (IntKind.i64.wrap (IntKind.i64.wrap (IntKind.i64.wrap (t1 + 1) + 1) + 1) + 1))).bind fun y7 => if y7 < 0 then some (-1) else l70_2 a0 a1 y7 (IntKind.i64.wrap (t5 + 1)) else some t1 := by
  rw [l70_2]
  simp only [evRAt, locS, cd70, Go.Proofs.Try.f70]
  rw [evR_eq]
  simp (maxSteps := 60000000) (disch := first | (intros; rename_i h; cases h; done) | decide +kernel) only [evS, seS, List.map_replicate, Nat.reduceDiv, Nat.reduceMod, Nat.reduceEqDiff, reduceCtorEq, ↓reduceIte, Nat.reduceLT, Nat.reduceAdd, Nat.reduceMul, Nat.reduceSub, Nat.reduceLeDiff, Nat.reduceBEq, Int.reduceEq, Int.reduceNeg, Int.reduceToNat, Int.reduceLE, Int.reduceLT, cd70, Go.Proofs.Try.f70, h70.r, m70, lv_pl, pl70, c44, c70, lv70_2, l70_2]
  all_goals try simp only [rnS, seS, Nat.reduceEqDiff, reduceCtorEq, ↓reduceIte, Nat.reduceAdd, Nat.reduceLeDiff, Nat.reduceBEq, Nat.reduceMul, lv70_2]
  all_goals try simp only [bindN_eq]
end Go.Fs.Se

set_option linter.unusedVariables false
set_option linter.unusedSimpArgs false
set_option maxRecDepth 40000
set_option maxHeartbeats 4000000
open Go.RowKit
namespace Go.Fs.Se
open Cel (cel unc)
open Dat (enc dec)
open Arg (ea da)
/-! loop.example/smithy/laws.markTreeExpr -/
theorem n32_eq (a0 : TreeExpr) (a1 : Int) : n32 a0 a1 = (n69 a0.kids a1).bind fun y0 => some (y0.fst, TreeExpr.mk a0.kind a0.num a0.name a0.mod y0.snd) := by
  rw [n32, fnI_code h32 Go.Proofs.Try.func32 (c := cd32) rfl (a0, a1, ()) rfl]
  simp (maxSteps := 60000000) (disch := first | (intros; rename_i h; cases h; done) | decide +kernel) only [evS, seS, List.map_replicate, Nat.reduceDiv, Nat.reduceMod, Nat.reduceEqDiff, reduceCtorEq, ↓reduceIte, Nat.reduceLT, Nat.reduceAdd, Nat.reduceMul, Nat.reduceSub, Nat.reduceLeDiff, Nat.reduceBEq, Int.reduceEq, Int.reduceNeg, Int.reduceToNat, Int.reduceLE, Int.reduceLT, cd32, Go.Proofs.Try.f32, h32.r, m32, lv_pl, pl32, c69]
  all_goals try simp only [bindN_eq]
end Go.Fs.Se

set_option linter.unusedVariables false
set_option linter.unusedSimpArgs false
set_option maxRecDepth 40000
set_option maxHeartbeats 4000000
open Go.RowKit
namespace Go.Fs.Se
open Cel (cel unc)
open Dat (enc dec)
open Arg (ea da)
/-! loop.example/smithy/laws.heldTreeExpr -/
theorem n33_eq (a0 : TreeExpr) (a1 : Int) : n33 a0 a1 = (n70 a0.kids a1).bind fun y0 => if y0 < 0 then some (-1) else some y0 := by
  rw [n33, fnO_code h33 rfl Go.Proofs.Try.func33 (c := cd33) rfl (a0, a1, ()) rfl]
  simp (maxSteps := 60000000) (disch := first | (intros; rename_i h; cases h; done) | decide +kernel) only [evS, seS, List.map_replicate, Nat.reduceDiv, Nat.reduceMod, Nat.reduceEqDiff, reduceCtorEq, ↓reduceIte, Nat.reduceLT, Nat.reduceAdd, Nat.reduceMul, Nat.reduceSub, Nat.reduceLeDiff, Nat.reduceBEq, Int.reduceEq, Int.reduceNeg, Int.reduceToNat, Int.reduceLE, Int.reduceLT, cd33, Go.Proofs.Try.f33, h33.r, m33, lv_pl, pl33, c70]
  all_goals try simp only [bindN_eq]
end Go.Fs.Se
