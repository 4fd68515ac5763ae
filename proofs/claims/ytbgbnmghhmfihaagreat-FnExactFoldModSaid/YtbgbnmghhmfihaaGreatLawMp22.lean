/- A part of the proof: an evaluator of the program's code over plain data, proved sound, and walks of the program's functions by it. No conditions beyond those in the theorems. -/
import Derived.Test.YtbgbnmghhmfihaaGreatLawMp15
import Derived.Test.YtbgbnmghhmfihaaGreatLawMp18
import Derived.Test.YtbgbnmghhmfihaaGreatLawMp19
import Derived.Test.YtbgbnmghhmfihaaGreatLawMp10
set_option linter.unusedVariables false
set_option linter.unusedSimpArgs false
set_option linter.constructorNameAsVariable false
set_option linter.unusedSectionVars false
set_option linter.defProp false
set_option linter.unusedVariables false
set_option linter.unusedSimpArgs false
set_option maxRecDepth 40000
set_option maxHeartbeats 4000000
open Go.RowKit
namespace Go.Fs.Se
open Cel (cel unc)
open Dat (enc dec)
open Arg (ea da)
/-! loop.example/smithy/spec.FoldMod -/
noncomputable def l6_5 (a0 : TreeMod) (t4 : Int) (r7 : List TreeFun) : Option (TreeMod) := evRAt (envOf M .x) (lvT 6) cd6 [true, true, true, false, true, false] (endK (β := TreeMod) M 6 .x Go.Proofs.Tryz.f6.results.toList) (stL 62 [(1, AV.a 500000 0), (2, AV.a 500001 0), (3, AV.a 500002 0), (4, AV.d (D.i IntKind.i64 t4))] [(500000, some (Ob.box [AV.d (D.l 1 (List.map cel a0.uses)), AV.d (D.l 9 (List.map cel a0.funs)), AV.d (D.l 5 (List.map cel a0.main))])), (500001, some (Ob.box [AV.r 500003, AV.r 500004, AV.r 500005])), (500002, some (Ob.box [AV.r 500006, AV.r 500007, AV.r 500008])), (500003, some (Ob.row 1 [] true false 0)), (500004, some (Ob.row 9 [] true false 0)), (500005, some (Ob.row 5 [] true false 0)), (500006, some (Ob.row 1 (List.map cel a0.uses) true false 0)), (500007, some (Ob.row 9 (List.map cel r7) true false 0)), (500008, some (Ob.row 5 [] true false 0))])
noncomputable def l6_12 (a0 : TreeMod) (t6 : Int) (r7 : List TreeFun) (r8 : List TreeExpr) : Option (TreeMod) := evRAt (envOf M .x) (lvT 6) cd6 [true, true, true, true, false, true, false] (endK (β := TreeMod) M 6 .x Go.Proofs.Tryz.f6.results.toList) (stL 62 [(1, AV.a 500000 0), (2, AV.a 500001 0), (3, AV.a 500002 0), (6, AV.d (D.i IntKind.i64 t6))] [(500000, some (Ob.box [AV.d (D.l 1 (List.map cel a0.uses)), AV.d (D.l 9 (List.map cel a0.funs)), AV.d (D.l 5 (List.map cel a0.main))])), (500001, some (Ob.box [AV.r 500003, AV.r 500004, AV.r 500005])), (500002, some (Ob.box [AV.r 500006, AV.r 500007, AV.r 500008])), (500003, some (Ob.row 1 [] true false 0)), (500004, some (Ob.row 9 [] true false 0)), (500005, some (Ob.row 5 [] true false 0)), (500006, some (Ob.row 1 (List.map cel a0.uses) true false 0)), (500007, some (Ob.row 9 (List.map cel r7) true false 0)), (500008, some (Ob.row 5 (List.map cel r8) true false 0))])
theorem n6_eq (a0 : TreeMod) : n6 a0 = (n27 a0).bind fun y0 => if y0 = false then some (TreeMod.mk [] [] []) else if a0.uses.length * 16 ≤ 140737488355328 ∧ a0.uses.length ≤ 140737488355328 then l6_5 a0 0 [] else none := by
  rw [n6, fnO_code h6 rfl Go.Proofs.Tryz.func6 (c := cd6) rfl (a0, ()) rfl]
  simp (maxSteps := 60000000) (disch := first | (intros; rename_i h; cases h; done) | decide +kernel) only [evS, seS, List.map_replicate, Nat.reduceDiv, Nat.reduceMod, Nat.reduceEqDiff, reduceCtorEq, ↓reduceIte, Nat.reduceLT, Nat.reduceAdd, Nat.reduceMul, Nat.reduceSub, Nat.reduceLeDiff, Nat.reduceBEq, Int.reduceEq, Int.reduceNeg, Int.reduceToNat, Int.reduceLE, Int.reduceLT, cd6, Go.Proofs.Tryz.f6, h6.r, m6, lv_pl, pl6, c27, c28, lv6_12, lv6_5, l6_12, l6_5]
  all_goals try simp only [rnS, seS, Nat.reduceEqDiff, reduceCtorEq, ↓reduceIte, Nat.reduceAdd, Nat.reduceLeDiff, Nat.reduceBEq, Nat.reduceMul, lv6_12, lv6_5]
  all_goals try simp only [bindN_eq]
theorem l6_5_eq (a0 : TreeMod) (t4 : Int) (r7 : List TreeFun) : l6_5 a0 t4 r7 = if t4 < (↑a0.funs.length : Int) then (getI a0.funs t4).bind fun y0 => if y0.args.length * 24 ≤ 140737488355328 ∧ y0.args.length ≤ 140737488355328 then (n28 y0.body).bind fun y1 => if (r7.length + 1) * 128 ≤ 140737488355328 ∧ r7.length ≤ 140737488355327 then l6_5 a0 (IntKind.i64.wrap (t4 + 1)) (r7 ++ [TreeFun.mk y0.name y0.pub y0.args y0.type y1]) else none else none else l6_12 a0 0 r7 [] := by
  rw [l6_5]
  simp only [evRAt, locS, cd6, Go.Proofs.Tryz.f6]
  rw [evR_eq]
  simp (maxSteps := 60000000) (disch := first | (intros; rename_i h; cases h; done) | decide +kernel) only [evS, seS, List.map_replicate, Nat.reduceDiv, Nat.reduceMod, Nat.reduceEqDiff, reduceCtorEq, ↓reduceIte, Nat.reduceLT, Nat.reduceAdd, Nat.reduceMul, Nat.reduceSub, Nat.reduceLeDiff, Nat.reduceBEq, Int.reduceEq, Int.reduceNeg, Int.reduceToNat, Int.reduceLE, Int.reduceLT, cd6, Go.Proofs.Tryz.f6, h6.r, m6, lv_pl, pl6, c27, c28, lv6_12, lv6_5, l6_12, l6_5]
  all_goals try simp only [rnS, seS, Nat.reduceEqDiff, reduceCtorEq, ↓reduceIte, Nat.reduceAdd, Nat.reduceLeDiff, Nat.reduceBEq, Nat.reduceMul, lv6_12, lv6_5]
  all_goals try simp only [bindN_eq]
theorem l6_12_eq (a0 : TreeMod) (t6 : Int) (r7 : List TreeFun) (r8 : List TreeExpr) : l6_12 a0 t6 r7 r8 = if t6 < (↑a0.main.length : Int) then (getI a0.main t6).bind fun y0 => (n28 y0).bind fun y1 => if (r8.length + 1) * 72 ≤ 140737488355328 ∧ r8.length ≤ 140737488355327 then l6_12 a0 (IntKind.i64.wrap (t6 + 1)) r7 (r8 ++ [y1]) else none else some (TreeMod.mk a0.uses r7 r8) := by
  rw [l6_12]
  simp only [evRAt, locS, cd6, Go.Proofs.Tryz.f6]
  rw [evR_eq]
  simp (maxSteps := 60000000) (disch := first | (intros; rename_i h; cases h; done) | decide +kernel) only [evS, seS, List.map_replicate, Nat.reduceDiv, Nat.reduceMod, Nat.reduceEqDiff, reduceCtorEq, ↓reduceIte, Nat.reduceLT, Nat.reduceAdd, Nat.reduceMul, Nat.reduceSub, Nat.reduceLeDiff, Nat.reduceBEq, Int.reduceEq, Int.reduceNeg, Int.reduceToNat, Int.reduceLE, Int.reduceLT, cd6, Go.Proofs.Tryz.f6, h6.r, m6, lv_pl, pl6, c27, c28, lv6_12, lv6_5, l6_12, l6_5]
  all_goals try simp only [rnS, seS, Nat.reduceEqDiff, reduceCtorEq, ↓reduceIte, Nat.reduceAdd, Nat.reduceLeDiff, Nat.reduceBEq, Nat.reduceMul, lv6_12, lv6_5]
  all_goals try simp only [bindN_eq]
end Go.Fs.Se

set_option linter.unusedVariables false
set_option linter.unusedSimpArgs false
set_option maxRecDepth 40000
set_option maxHeartbeats 4000000
open Go.RowKit
namespace Go.Fs.Se
open Cel (cel unc)
open Dat (enc dec)
open Arg (ea da)
/-! loop.example/smithy/impl.FoldMod -/
noncomputable def l8_5 (a0 : TreeMod) (t20 : Int) (r7 : List TreeFun) : Option (TreeMod) := evRAt (envOf M .x) (lvT 8) cd8 [true, true, true, false, true, false] (endK (β := TreeMod) M 8 .x Go.Proofs.Tryz.f8.results.toList) (stL 56 [(1, AV.a 500000 0), (2, AV.a 500001 0), (3, AV.a 500002 0), (18, AV.d (D.l 9 (List.map cel a0.funs))), (19, AV.d (D.i IntKind.i64 (↑a0.funs.length : Int))), (20, AV.d (D.i IntKind.i64 t20))] [(500000, some (Ob.box [AV.d (D.l 1 (List.map cel a0.uses)), AV.d (D.l 9 (List.map cel a0.funs)), AV.d (D.l 5 (List.map cel a0.main))])), (500001, some (Ob.box [AV.r 500003, AV.r 500004, AV.r 500005])), (500002, some (Ob.box [AV.r 500006, AV.r 500007, AV.r 500008])), (500003, some (Ob.row 1 [] true false 0)), (500004, some (Ob.row 9 [] true false 0)), (500005, some (Ob.row 5 [] true false 0)), (500006, some (Ob.row 1 (List.map cel a0.uses) true false 0)), (500007, some (Ob.row 9 (List.map cel r7) true false 0)), (500008, some (Ob.row 5 [] true false 0))])
noncomputable def l8_11 (a0 : TreeMod) (t43 : Int) (r6 : List TreeFun) (r7 : List TreeExpr) : Option (TreeMod) := evRAt (envOf M .x) (lvT 8) cd8 [true, true, true, true, false, true, false] (endK (β := TreeMod) M 8 .x Go.Proofs.Tryz.f8.results.toList) (stL 56 [(2, AV.a 500000 0), (3, AV.a 500001 0), (41, AV.d (D.l 5 (List.map cel a0.main))), (42, AV.d (D.i IntKind.i64 (↑a0.main.length : Int))), (43, AV.d (D.i IntKind.i64 t43))] [(500000, some (Ob.box [AV.r 500002, AV.r 500003, AV.r 500004])), (500001, some (Ob.box [AV.r 500005, AV.r 500006, AV.r 500007])), (500002, some (Ob.row 1 [] true false 0)), (500003, some (Ob.row 9 [] true false 0)), (500004, some (Ob.row 5 [] true false 0)), (500005, some (Ob.row 1 (List.map cel a0.uses) true false 0)), (500006, some (Ob.row 9 (List.map cel r6) true false 0)), (500007, some (Ob.row 5 (List.map cel r7) true false 0))])
theorem n8_eq (a0 : TreeMod) : n8 a0 = (n32 a0).bind fun y0 => if y0 = false then some (TreeMod.mk [] [] []) else if a0.uses.length * 16 ≤ 140737488355328 ∧ a0.uses.length ≤ 140737488355328 then l8_5 a0 0 [] else none := by
  rw [n8, fnO_code h8 rfl Go.Proofs.Tryz.func8 (c := cd8) rfl (a0, ()) rfl]
  simp (maxSteps := 60000000) (disch := first | (intros; rename_i h; cases h; done) | decide +kernel) only [evS, seS, List.map_replicate, Nat.reduceDiv, Nat.reduceMod, Nat.reduceEqDiff, reduceCtorEq, ↓reduceIte, Nat.reduceLT, Nat.reduceAdd, Nat.reduceMul, Nat.reduceSub, Nat.reduceLeDiff, Nat.reduceBEq, Int.reduceEq, Int.reduceNeg, Int.reduceToNat, Int.reduceLE, Int.reduceLT, cd8, Go.Proofs.Tryz.f8, h8.r, m8, lv_pl, pl8, c32, c33, lv8_11, lv8_5, l8_11, l8_5]
  all_goals try simp only [rnS, seS, Nat.reduceEqDiff, reduceCtorEq, ↓reduceIte, Nat.reduceAdd, Nat.reduceLeDiff, Nat.reduceBEq, Nat.reduceMul, lv8_11, lv8_5]
  all_goals try simp only [bindN_eq]
theorem l8_5_eq (a0 : TreeMod) (t20 : Int) (r7 : List TreeFun) : l8_5 a0 t20 r7 = if t20 < (↑a0.funs.length : Int) then (getI a0.funs t20).bind fun y0 => if y0.args.length * 24 ≤ 140737488355328 ∧ y0.args.length ≤ 140737488355328 then (n33 y0.body).bind fun y1 => if (r7.length + 1) * 128 ≤ 140737488355328 ∧ r7.length ≤ 140737488355327 then l8_5 a0 (IntKind.i64.wrap (t20 + 1)) (r7 ++ [TreeFun.mk y0.name y0.pub y0.args y0.type y1]) else none else none else l8_11 a0 0 r7 [] := by
  rw [l8_5]
  simp only [evRAt, locS, cd8, Go.Proofs.Tryz.f8]
  rw [evR_eq]
  simp (maxSteps := 60000000) (disch := first | (intros; rename_i h; cases h; done) | decide +kernel) only [evS, seS, List.map_replicate, Nat.reduceDiv, Nat.reduceMod, Nat.reduceEqDiff, reduceCtorEq, ↓reduceIte, Nat.reduceLT, Nat.reduceAdd, Nat.reduceMul, Nat.reduceSub, Nat.reduceLeDiff, Nat.reduceBEq, Int.reduceEq, Int.reduceNeg, Int.reduceToNat, Int.reduceLE, Int.reduceLT, cd8, Go.Proofs.Tryz.f8, h8.r, m8, lv_pl, pl8, c32, c33, lv8_11, lv8_5, l8_11, l8_5]
  all_goals try simp only [rnS, seS, Nat.reduceEqDiff, reduceCtorEq, ↓reduceIte, Nat.reduceAdd, Nat.reduceLeDiff, Nat.reduceBEq, Nat.reduceMul, lv8_11, lv8_5]
  all_goals try simp only [bindN_eq]
theorem l8_11_eq (a0 : TreeMod) (t43 : Int) (r6 : List TreeFun) (r7 : List TreeExpr) : l8_11 a0 t43 r6 r7 = if t43 < (↑a0.main.length : Int) then (getI a0.main t43).bind fun y0 => (n33 y0).bind fun y1 => if (r7.length + 1) * 72 ≤ 140737488355328 ∧ r7.length ≤ 140737488355327 then l8_11 a0 (IntKind.i64.wrap (t43 + 1)) r6 (r7 ++ [y1]) else none else some (TreeMod.mk a0.uses r6 r7) := by
  rw [l8_11]
  simp only [evRAt, locS, cd8, Go.Proofs.Tryz.f8]
  rw [evR_eq]
  simp (maxSteps := 60000000) (disch := first | (intros; rename_i h; cases h; done) | decide +kernel) only [evS, seS, List.map_replicate, Nat.reduceDiv, Nat.reduceMod, Nat.reduceEqDiff, reduceCtorEq, ↓reduceIte, Nat.reduceLT, Nat.reduceAdd, Nat.reduceMul, Nat.reduceSub, Nat.reduceLeDiff, Nat.reduceBEq, Int.reduceEq, Int.reduceNeg, Int.reduceToNat, Int.reduceLE, Int.reduceLT, cd8, Go.Proofs.Tryz.f8, h8.r, m8, lv_pl, pl8, c32, c33, lv8_11, lv8_5, l8_11, l8_5]
  all_goals try simp only [rnS, seS, Nat.reduceEqDiff, reduceCtorEq, ↓reduceIte, Nat.reduceAdd, Nat.reduceLeDiff, Nat.reduceBEq, Nat.reduceMul, lv8_11, lv8_5]
  all_goals try simp only [bindN_eq]
end Go.Fs.Se

set_option linter.unusedVariables false
set_option linter.unusedSimpArgs false
set_option maxRecDepth 40000
set_option maxHeartbeats 4000000
open Go.RowKit
namespace Go.Fs.Se
open Cel (cel unc)
open Dat (enc dec)
open Arg (ea da)
/-! loop.example/smithy/laws.FnExactFoldMod -/
theorem n3_eq (a0 : TreeMod) : n3 a0 = (n5 a0 1048576).bind fun y0 => if y0 < 0 then some true else (n7 a0).bind fun y1 => (n6 y1).bind fun y2 => (n7 a0).bind fun y3 => (n8 y3).bind fun y4 => (n9 y4 y2).bind fun y5 => if y5 = false then some false else (n7 a0).bind fun y6 => (n9 y3 y6).bind fun y7 => if y7 = false then some false else (n10 y3 1).bind fun y8 => bindB (if y8.fst < 0 then some true else (n9 y4 y2).bind fun y9 => some !y9) fun y10 => if y10 = true then some false else (n10 y4 1).bind fun y11 => (n11 y11.snd 1).bind fun y12 => if y12 < 0 then some false else if decide (y12 = y11.fst) = false then some false else (n7 a0).bind fun y13 => (n8 y13).bind fun y14 => (n9 y14 y2).bind fun y15 => if y15 = false then some false else (n11 y11.snd 1).bind fun y16 => if y16 < 0 then some false else if decide (y16 = y11.fst) = false then some false else some true := by
  rw [n3, fnO_code h3 rfl Go.Proofs.Tryz.func3 (c := cd3) rfl (a0, ()) rfl]
  simp (maxSteps := 60000000) (disch := first | (intros; rename_i h; cases h; done) | decide +kernel) only [evS, seS, List.map_replicate, Nat.reduceDiv, Nat.reduceMod, Nat.reduceEqDiff, reduceCtorEq, ↓reduceIte, Nat.reduceLT, Nat.reduceAdd, Nat.reduceMul, Nat.reduceSub, Nat.reduceLeDiff, Nat.reduceBEq, Int.reduceEq, Int.reduceNeg, Int.reduceToNat, Int.reduceLE, Int.reduceLT, cd3, Go.Proofs.Tryz.f3, h3.r, m3, lv_pl, pl3, c5, c6, c7, c8, c9, c10, c11]
  all_goals try simp only [bindN_eq]
end Go.Fs.Se

set_option linter.unusedVariables false
set_option linter.unusedSimpArgs false
set_option maxRecDepth 40000
set_option maxHeartbeats 4000000
open Go.RowKit
namespace Go.Fs.Se
open Cel (cel unc)
open Dat (enc dec)
open Arg (ea da)
/-! loop.example/smithy/laws.markTreeMod -/
theorem n10_eq (a0 : TreeMod) (a1 : Int) : n10 a0 a1 = (n37 a0.uses a1).bind fun y0 => (n38 a0.funs y0.fst).bind fun y1 => (n39 a0.main y1.fst).bind fun y2 => some (y2.fst, TreeMod.mk y0.snd y1.snd y2.snd) := by
  rw [n10, fnI_code h10 Go.Proofs.Tryz.func10 (c := cd10) rfl (a0, a1, ()) rfl]
  simp (maxSteps := 60000000) (disch := first | (intros; rename_i h; cases h; done) | decide +kernel) only [evS, seS, List.map_replicate, Nat.reduceDiv, Nat.reduceMod, Nat.reduceEqDiff, reduceCtorEq, ↓reduceIte, Nat.reduceLT, Nat.reduceAdd, Nat.reduceMul, Nat.reduceSub, Nat.reduceLeDiff, Nat.reduceBEq, Int.reduceEq, Int.reduceNeg, Int.reduceToNat, Int.reduceLE, Int.reduceLT, cd10, Go.Proofs.Tryz.f10, h10.r, m10, lv_pl, pl10, c37, c38, c39]
  all_goals try simp only [bindN_eq]
end Go.Fs.Se

set_option linter.unusedVariables false
set_option linter.unusedSimpArgs false
set_option maxRecDepth 40000
set_option maxHeartbeats 4000000
open Go.RowKit
namespace Go.Fs.Se
open Cel (cel unc)
open Dat (enc dec)
open Arg (ea da)
/-! loop.example/smithy/laws.heldTreeMod -/
theorem n11_eq (a0 : TreeMod) (a1 : Int) : n11 a0 a1 = (n40 a0.uses a1).bind fun y0 => if y0 < 0 then some (-1) else (n41 a0.funs y0).bind fun y1 => if y1 < 0 then some (-1) else (n42 a0.main y1).bind fun y2 => if y2 < 0 then some (-1) else some y2 := by
  rw [n11, fnO_code h11 rfl Go.Proofs.Tryz.func11 (c := cd11) rfl (a0, a1, ()) rfl]
  simp (maxSteps := 60000000) (disch := first | (intros; rename_i h; cases h; done) | decide +kernel) only [evS, seS, List.map_replicate, Nat.reduceDiv, Nat.reduceMod, Nat.reduceEqDiff, reduceCtorEq, ↓reduceIte, Nat.reduceLT, Nat.reduceAdd, Nat.reduceMul, Nat.reduceSub, Nat.reduceLeDiff, Nat.reduceBEq, Int.reduceEq, Int.reduceNeg, Int.reduceToNat, Int.reduceLE, Int.reduceLT, cd11, Go.Proofs.Tryz.f11, h11.r, m11, lv_pl, pl11, c40, c41, c42]
  all_goals try simp only [bindN_eq]
end Go.Fs.Se

set_option linter.unusedVariables false
set_option linter.unusedSimpArgs false
set_option maxRecDepth 40000
set_option maxHeartbeats 4000000
open Go.RowKit
namespace Go.Fs.Se
open Cel (cel unc)
open Dat (enc dec)
open Arg (ea da)
/-! loop.example/smithy/laws.markStringS -/
noncomputable def l37_2 (a0 : (List ByteArray)) (a1 : Int) (t1 : Int) (t5 : Int) (z0 : List ByteArray) : Option (Int × (List ByteArray)) := evRAt (envOf M (inAV (.io (enc a0)))) (lvT 37) cd37 [true, false, true, false] (endI (α := (List ByteArray)) (β := Int) M 37 (inAV (.io (enc a0))) Go.Proofs.Tryz.f37.results.toList) (stL 20 [(0, AV.r 900000), (1, AV.d (D.i IntKind.i64 t1)), (5, AV.d (D.i IntKind.i64 t5))] [(900000, some (Ob.row 1 (List.map cel z0) true false 0))])
theorem n37_eq (a0 : (List ByteArray)) (a1 : Int) : n37 a0 a1 = l37_2 a0 a1 a1 0 a0 := by
  rw [n37, fnI_code h37 Go.Proofs.Tryz.func37 (c := cd37) rfl (a0, a1, ()) rfl]
  simp (maxSteps := 60000000) (disch := first | (intros; rename_i h; cases h; done) | decide +kernel) only [evS, seS, List.map_replicate, Nat.reduceDiv, Nat.reduceMod, Nat.reduceEqDiff, reduceCtorEq, ↓reduceIte, Nat.reduceLT, Nat.reduceAdd, Nat.reduceMul, Nat.reduceSub, Nat.reduceLeDiff, Nat.reduceBEq, Int.reduceEq, Int.reduceNeg, Int.reduceToNat, Int.reduceLE, Int.reduceLT, cd37, Go.Proofs.Tryz.f37, h37.r, m37, lv_pl, pl37, c93, lv37_2, l37_2]
  all_goals try simp only [rnS, seS, Nat.reduceEqDiff, reduceCtorEq, ↓reduceIte, Nat.reduceAdd, Nat.reduceLeDiff, Nat.reduceBEq, Nat.reduceMul, lv37_2]
theorem l37_2_eq (a0 : (List ByteArray)) (a1 : Int) (t1 : Int) (t5 : Int) (z0 : List ByteArray) : l37_2 a0 a1 t1 t5 z0 = if t5 < (↑z0.length : Int) then (n93 t1).bind fun y0 => (getI z0 t5).bind fun y1 => z0[t5.toNat]?.bind fun y4 => l37_2 a0 a1 (IntKind.i64.wrap (t1 + 1)) (IntKind.i64.wrap (t5 + 1)) (z0.set t5.toNat y0) else some (t1, z0) := by
  rw [l37_2]
  simp only [evRAt, locS, cd37, Go.Proofs.Tryz.f37]
  rw [evR_eq]
  simp (maxSteps := 60000000) (disch := first | (intros; rename_i h; cases h; done) | decide +kernel) only [evS, seS, List.map_replicate, Nat.reduceDiv, Nat.reduceMod, Nat.reduceEqDiff, reduceCtorEq, ↓reduceIte, Nat.reduceLT, Nat.reduceAdd, Nat.reduceMul, Nat.reduceSub, Nat.reduceLeDiff, Nat.reduceBEq, Int.reduceEq, Int.reduceNeg, Int.reduceToNat, Int.reduceLE, Int.reduceLT, cd37, Go.Proofs.Tryz.f37, h37.r, m37, lv_pl, pl37, c93, lv37_2, l37_2]
  all_goals try simp only [rnS, seS, Nat.reduceEqDiff, reduceCtorEq, ↓reduceIte, Nat.reduceAdd, Nat.reduceLeDiff, Nat.reduceBEq, Nat.reduceMul, lv37_2]
  all_goals try simp only [bindN_eq]
end Go.Fs.Se

set_option linter.unusedVariables false
set_option linter.unusedSimpArgs false
set_option maxRecDepth 40000
set_option maxHeartbeats 4000000
open Go.RowKit
namespace Go.Fs.Se
open Cel (cel unc)
open Dat (enc dec)
open Arg (ea da)
/-! loop.example/smithy/laws.markTreeFunS -/
noncomputable def l38_2 (a0 : (List TreeFun)) (a1 : Int) (t1 : Int) (t5 : Int) (z0 : List TreeFun) : Option (Int × (List TreeFun)) := evRAt (envOf M (inAV (.io (enc a0)))) (lvT 38) cd38 [true, false, true, false] (endI (α := (List TreeFun)) (β := Int) M 38 (inAV (.io (enc a0))) Go.Proofs.Tryz.f38.results.toList) (stL 86 [(0, AV.r 900000), (1, AV.d (D.i IntKind.i64 t1)), (5, AV.d (D.i IntKind.i64 t5))] [(900000, some (Ob.row 9 (List.map cel z0) true false 0))])
theorem n38_eq (a0 : (List TreeFun)) (a1 : Int) : n38 a0 a1 = l38_2 a0 a1 a1 0 a0 := by
  rw [n38, fnI_code h38 Go.Proofs.Tryz.func38 (c := cd38) rfl (a0, a1, ()) rfl]
  simp (maxSteps := 60000000) (disch := first | (intros; rename_i h; cases h; done) | decide +kernel) only [evS, seS, List.map_replicate, Nat.reduceDiv, Nat.reduceMod, Nat.reduceEqDiff, reduceCtorEq, ↓reduceIte, Nat.reduceLT, Nat.reduceAdd, Nat.reduceMul, Nat.reduceSub, Nat.reduceLeDiff, Nat.reduceBEq, Int.reduceEq, Int.reduceNeg, Int.reduceToNat, Int.reduceLE, Int.reduceLT, cd38, Go.Proofs.Tryz.f38, h38.r, m38, lv_pl, pl38, c39, c93, c94, lv38_2, l38_2]
  all_goals try simp only [rnS, seS, Nat.reduceEqDiff, reduceCtorEq, ↓reduceIte, Nat.reduceAdd, Nat.reduceLeDiff, Nat.reduceBEq, Nat.reduceMul, lv38_2]
theorem l38_2_eq (a0 : (List TreeFun)) (a1 : Int) (t1 : Int) (t5 : Int) (z0 : List TreeFun) : l38_2 a0 a1 t1 t5 z0 = if t5 < (↑z0.length : Int) then (n93 t1).bind fun y0 => (getI z0 t5).bind fun y1 => z0[t5.toNat]?.bind fun y4 => (getI z0 t5).bind fun y5 => z0[t5.toNat]?.bind fun y8 => (getI z0 t5).bind fun y9 => z0[t5.toNat]?.bind fun y12 => z0[t5.toNat]?.bind fun y15 => (n94 y4.args (IntKind.i64.wrap (IntKind.i64.wrap (t1 + 1) + 1))).bind fun y16 => (getI z0 t5).bind fun y17 => z0[t5.toNat]?.bind fun y20 => (getI z0 t5).bind fun y21 => z0[t5.toNat]?.bind fun y24 => (getI z0 t5).bind fun y25 => z0[t5.toNat]?.bind fun y28 => (n93 (IntKind.i64.wrap (IntKind.i64.wrap (IntKind.i64.wrap (y16.fst + 1) + 1) + 1))).bind fun y29 => (getI z0 t5).bind fun y30 => z0[t5.toNat]?.bind fun y33 => (n93 (IntKind.i64.wrap (IntKind.i64.wrap (IntKind.i64.wrap (IntKind.i64.wrap (y16.fst + 1) + 1) + 1) + 1))).bind fun y34 => (getI z0 t5).bind fun y35 => z0[t5.toNat]?.bind fun y38 => (getI z0 t5).bind fun y39 => z0[t5.toNat]?.bind fun y42 => z0[t5.toNat]?.bind fun y45 => (n39 y4.body.kids (IntKind.i64.wrap (IntKind.i64.wrap (IntKind.i64.wrap (IntKind.i64.wrap (IntKind.i64.wrap (y16.fst + 1) + 1) + 1) + 1) + 1))).bind fun y46 => l38_2 a0 a1 y46.fst (IntKind.i64.wrap (t5 + 1)) (z0.set t5.toNat (TreeFun.mk y0 (decide ((IntKind.i64.wrap (t1 + 1)).tmod 3 = 0)) y16.snd y16.fst (TreeExpr.mk (IntKind.i64.wrap (y16.fst + 1)) (IntKind.i64.wrap (IntKind.i64.wrap (y16.fst + 1) + 1)) y29 y34 y46.snd))) else some (t1, z0) := by
  rw [l38_2]
  simp only [evRAt, locS, cd38, Go.Proofs.Tryz.f38]
  rw [evR_eq]
  simp (maxSteps := 60000000) (disch := first | (intros; rename_i h; cases h; done) | decide +kernel) only [evS, seS, List.map_replicate, Nat.reduceDiv, Nat.reduceMod, Nat.reduceEqDiff, reduceCtorEq, ↓reduceIte, Nat.reduceLT, Nat.reduceAdd, Nat.reduceMul, Nat.reduceSub, Nat.reduceLeDiff, Nat.reduceBEq, Int.reduceEq, Int.reduceNeg, Int.reduceToNat, Int.reduceLE, Int.reduceLT, cd38, Go.Proofs.Tryz.f38, h38.r, m38, lv_pl, pl38, c39, c93, c94, lv38_2, l38_2]
  all_goals try simp only [rnS, seS, Nat.reduceEqDiff, reduceCtorEq, ↓reduceIte, Nat.reduceAdd, Nat.reduceLeDiff, Nat.reduceBEq, Nat.reduceMul, lv38_2]
  all_goals try simp only [bindN_eq]
end Go.Fs.Se

set_option linter.unusedVariables false
set_option linter.unusedSimpArgs false
set_option maxRecDepth 40000
set_option maxHeartbeats 4000000
open Go.RowKit
namespace Go.Fs.Se
open Cel (cel unc)
open Dat (enc dec)
open Arg (ea da)
/-! loop.example/smithy/laws.heldStringS -/
noncomputable def l40_2 (a0 : (List ByteArray)) (a1 : Int) (t1 : Int) (t5 : Int) : Option (Int) := evRAt (envOf M .x) (lvT 40) cd40 [true, false, true, false] (endK (β := Int) M 40 .x Go.Proofs.Tryz.f40.results.toList) (stL 22 [(0, AV.d (D.l 1 (List.map cel a0))), (1, AV.d (D.i IntKind.i64 t1)), (5, AV.d (D.i IntKind.i64 t5))] [])
theorem n40_eq (a0 : (List ByteArray)) (a1 : Int) : n40 a0 a1 = l40_2 a0 a1 a1 0 := by
  rw [n40, fnO_code h40 rfl Go.Proofs.Tryz.func40 (c := cd40) rfl (a0, a1, ()) rfl]
  simp (maxSteps := 60000000) (disch := first | (intros; rename_i h; cases h; done) | decide +kernel) only [evS, seS, List.map_replicate, Nat.reduceDiv, Nat.reduceMod, Nat.reduceEqDiff, reduceCtorEq, ↓reduceIte, Nat.reduceLT, Nat.reduceAdd, Nat.reduceMul, Nat.reduceSub, Nat.reduceLeDiff, Nat.reduceBEq, Int.reduceEq, Int.reduceNeg, Int.reduceToNat, Int.reduceLE, Int.reduceLT, cd40, Go.Proofs.Tryz.f40, h40.r, m40, lv_pl, pl40, c93, lv40_2, l40_2]
  all_goals try simp only [rnS, seS, Nat.reduceEqDiff, reduceCtorEq, ↓reduceIte, Nat.reduceAdd, Nat.reduceLeDiff, Nat.reduceBEq, Nat.reduceMul, lv40_2]
theorem l40_2_eq (a0 : (List ByteArray)) (a1 : Int) (t1 : Int) (t5 : Int) : l40_2 a0 a1 t1 t5 = if t5 < (↑a0.length : Int) then (getI a0 t5).bind fun y0 => (n93 t1).bind fun y1 => if decide (y0 = y1) = false then some (-1) else l40_2 a0 a1 (IntKind.i64.wrap (t1 + 1)) (IntKind.i64.wrap (t5 + 1)) else some t1 := by
  rw [l40_2]
  simp only [evRAt, locS, cd40, Go.Proofs.Tryz.f40]
  rw [evR_eq]
  simp (maxSteps := 60000000) (disch := first | (intros; rename_i h; cases h; done) | decide +kernel) only [evS, seS, List.map_replicate, Nat.reduceDiv, Nat.reduceMod, Nat.reduceEqDiff, reduceCtorEq, ↓reduceIte, Nat.reduceLT, Nat.reduceAdd, Nat.reduceMul, Nat.reduceSub, Nat.reduceLeDiff, Nat.reduceBEq, Int.reduceEq, Int.reduceNeg, Int.reduceToNat, Int.reduceLE, Int.reduceLT, cd40, Go.Proofs.Tryz.f40, h40.r, m40, lv_pl, pl40, c93, lv40_2, l40_2]
  all_goals try simp only [rnS, seS, Nat.reduceEqDiff, reduceCtorEq, ↓reduceIte, Nat.reduceAdd, Nat.reduceLeDiff, Nat.reduceBEq, Nat.reduceMul, lv40_2]
  all_goals try simp only [bindN_eq]
end Go.Fs.Se

set_option linter.unusedVariables false
set_option linter.unusedSimpArgs false
set_option maxRecDepth 40000
set_option maxHeartbeats 4000000
open Go.RowKit
namespace Go.Fs.Se
open Cel (cel unc)
open Dat (enc dec)
open Arg (ea da)
/-! loop.example/smithy/laws.heldTreeFunS -/
noncomputable def l41_2 (a0 : (List TreeFun)) (a1 : Int) (t1 : Int) (t5 : Int) : Option (Int) := evRAt (envOf M .x) (lvT 41) cd41 [true, false, true, false] (endK (β := Int) M 41 .x Go.Proofs.Tryz.f41.results.toList) (stL 104 [(0, AV.d (D.l 9 (List.map cel a0))), (1, AV.d (D.i IntKind.i64 t1)), (5, AV.d (D.i IntKind.i64 t5))] [])
theorem n41_eq (a0 : (List TreeFun)) (a1 : Int) : n41 a0 a1 = l41_2 a0 a1 a1 0 := by
  rw [n41, fnO_code h41 rfl Go.Proofs.Tryz.func41 (c := cd41) rfl (a0, a1, ()) rfl]
  simp (maxSteps := 60000000) (disch := first | (intros; rename_i h; cases h; done) | decide +kernel) only [evS, seS, List.map_replicate, Nat.reduceDiv, Nat.reduceMod, Nat.reduceEqDiff, reduceCtorEq, ↓reduceIte, Nat.reduceLT, Nat.reduceAdd, Nat.reduceMul, Nat.reduceSub, Nat.reduceLeDiff, Nat.reduceBEq, Int.reduceEq, Int.reduceNeg, Int.reduceToNat, Int.reduceLE, Int.reduceLT, cd41, Go.Proofs.Tryz.f41, h41.r, m41, lv_pl, pl41, c42, c93, c95, lv41_2, l41_2]
  all_goals try simp only [rnS, seS, Nat.reduceEqDiff, reduceCtorEq, ↓reduceIte, Nat.reduceAdd, Nat.reduceLeDiff, Nat.reduceBEq, Nat.reduceMul, lv41_2]
theorem l41_2_eq (a0 : (List TreeFun)) (a1 : Int) (t1 : Int) (t5 : Int) : l41_2 a0 a1 t1 t5 = if t5 < (↑a0.length : Int) then (getI a0 t5).bind fun y0 => (n93 t1).bind fun y1 => if decide (y0.name = y1) = false then some (-1) else (getI a0 t5).bind fun y2 => if (y2.pub == decide ((IntKind.i64.wrap (t1 + 1)).tmod 3 = 0)) = false then some (-1) else (getI a0 t5).bind fun y3 => (n95 y3.args (IntKind.i64.wrap (IntKind.i64.wrap (t1 + 1) + 1))).bind fun y4 => if y4 < 0 then some (-1) else (getI a0 t5).bind fun y5 => if decide (y5.type = y4) = false then some (-1) else (getI a0 t5).bind fun y6 => if decide (y6.body.kind = IntKind.i64.wrap (y4 + 1)) = false then some (-1) else (getI a0 t5).bind fun y7 => if decide (y7.body.num = IntKind.i64.wrap (IntKind.i64.wrap (y4 + 1) + 1)) = false then some (-1) else (getI a0 t5).bind fun y8 => (n93 (IntKind.i64.wrap (IntKind.i64.wrap (IntKind.i64.wrap (y4 + 1) + 1) + 1))).bind fun y9 => if decide (y8.body.name = y9) = false then some (-1) else (getI a0 t5).bind fun y10 => (n93 (IntKind.i64.wrap (IntKind.i64.wrap (IntKind.i64.wrap (IntKind.i64.wrap (y4 + 1) + 1) + 1) + 1))).bind fun y11 => if decide (y10.body.mod = y11) = false then some (-1) else (getI a0 t5).bind fun y12 => (n42 y12.body.kids (IntKind.i64.wrap (IntKind.i64.wrap (IntKind.i64.wrap (IntKind.i64.wrap (IntKind.i64.wrap (y4 + 1) + 1) + 1) + 1) + 1))).bind fun y13 => if y13 < 0 then some (-1) else l41_2 a0 a1 y13 (IntKind.i64.wrap (t5 + 1)) else some t1 := by
  rw [l41_2]
  simp only [evRAt, locS, cd41, Go.Proofs.Tryz.f41]
  rw [evR_eq]
  simp (maxSteps := 60000000) (disch := first | (intros; rename_i h; cases h; done) | decide +kernel) only [evS, seS, List.map_replicate, Nat.reduceDiv, Nat.reduceMod, Nat.reduceEqDiff, reduceCtorEq, ↓reduceIte, Nat.reduceLT, Nat.reduceAdd, Nat.reduceMul, Nat.reduceSub, Nat.reduceLeDiff, Nat.reduceBEq, Int.reduceEq, Int.reduceNeg, Int.reduceToNat, Int.reduceLE, Int.reduceLT, cd41, Go.Proofs.Tryz.f41, h41.r, m41, lv_pl, pl41, c42, c93, c95, lv41_2, l41_2]
  all_goals try simp only [rnS, seS, Nat.reduceEqDiff, reduceCtorEq, ↓reduceIte, Nat.reduceAdd, Nat.reduceLeDiff, Nat.reduceBEq, Nat.reduceMul, lv41_2]
  all_goals try simp only [bindN_eq]
end Go.Fs.Se

set_option linter.unusedVariables false
set_option linter.unusedSimpArgs false
set_option maxRecDepth 40000
set_option maxHeartbeats 4000000
open Go.RowKit
namespace Go.Fs.Se
open Cel (cel unc)
open Dat (enc dec)
open Arg (ea da)
/-! loop.example/smithy/laws.markTreeArgS -/
noncomputable def l94_2 (a0 : (List TreeArg)) (a1 : Int) (t1 : Int) (t5 : Int) (z0 : List TreeArg) : Option (Int × (List TreeArg)) := evRAt (envOf M (inAV (.io (enc a0)))) (lvT 94) cd94 [true, false, true, false] (endI (α := (List TreeArg)) (β := Int) M 94 (inAV (.io (enc a0))) Go.Proofs.Tryz.f94.results.toList) (stL 28 [(0, AV.r 900000), (1, AV.d (D.i IntKind.i64 t1)), (5, AV.d (D.i IntKind.i64 t5))] [(900000, some (Ob.row 2 (List.map cel z0) true false 0))])
theorem n94_eq (a0 : (List TreeArg)) (a1 : Int) : n94 a0 a1 = l94_2 a0 a1 a1 0 a0 := by
  rw [n94, fnI_code h94 Go.Proofs.Tryz.func94 (c := cd94) rfl (a0, a1, ()) rfl]
  simp (maxSteps := 60000000) (disch := first | (intros; rename_i h; cases h; done) | decide +kernel) only [evS, seS, List.map_replicate, Nat.reduceDiv, Nat.reduceMod, Nat.reduceEqDiff, reduceCtorEq, ↓reduceIte, Nat.reduceLT, Nat.reduceAdd, Nat.reduceMul, Nat.reduceSub, Nat.reduceLeDiff, Nat.reduceBEq, Int.reduceEq, Int.reduceNeg, Int.reduceToNat, Int.reduceLE, Int.reduceLT, cd94, Go.Proofs.Tryz.f94, h94.r, m94, lv_pl, pl94, c93, lv94_2, l94_2]
  all_goals try simp only [rnS, seS, Nat.reduceEqDiff, reduceCtorEq, ↓reduceIte, Nat.reduceAdd, Nat.reduceLeDiff, Nat.reduceBEq, Nat.reduceMul, lv94_2]
theorem l94_2_eq (a0 : (List TreeArg)) (a1 : Int) (t1 : Int) (t5 : Int) (z0 : List TreeArg) : l94_2 a0 a1 t1 t5 z0 = if t5 < (↑z0.length : Int) then (n93 t1).bind fun y0 => (getI z0 t5).bind fun y1 => z0[t5.toNat]?.bind fun y4 => (getI z0 t5).bind fun y5 => z0[t5.toNat]?.bind fun y8 => l94_2 a0 a1 (IntKind.i64.wrap (IntKind.i64.wrap (t1 + 1) + 1)) (IntKind.i64.wrap (t5 + 1)) (z0.set t5.toNat (TreeArg.mk y0 (IntKind.i64.wrap (t1 + 1)))) else some (t1, z0) := by
  rw [l94_2]
  simp only [evRAt, locS, cd94, Go.Proofs.Tryz.f94]
  rw [evR_eq]
  simp (maxSteps := 60000000) (disch := first | (intros; rename_i h; cases h; done) | decide +kernel) only [evS, seS, List.map_replicate, Nat.reduceDiv, Nat.reduceMod, Nat.reduceEqDiff, reduceCtorEq, ↓reduceIte, Nat.reduceLT, Nat.reduceAdd, Nat.reduceMul, Nat.reduceSub, Nat.reduceLeDiff, Nat.reduceBEq, Int.reduceEq, Int.reduceNeg, Int.reduceToNat, Int.reduceLE, Int.reduceLT, cd94, Go.Proofs.Tryz.f94, h94.r, m94, lv_pl, pl94, c93, lv94_2, l94_2]
  all_goals try simp only [rnS, seS, Nat.reduceEqDiff, reduceCtorEq, ↓reduceIte, Nat.reduceAdd, Nat.reduceLeDiff, Nat.reduceBEq, Nat.reduceMul, lv94_2]
  all_goals try simp only [bindN_eq]
end Go.Fs.Se

set_option linter.unusedVariables false
set_option linter.unusedSimpArgs false
set_option maxRecDepth 40000
set_option maxHeartbeats 4000000
open Go.RowKit
namespace Go.Fs.Se
open Cel (cel unc)
open Dat (enc dec)
open Arg (ea da)
/-! loop.example/smithy/laws.heldTreeArgS -/
noncomputable def l95_2 (a0 : (List TreeArg)) (a1 : Int) (t1 : Int) (t5 : Int) : Option (Int) := evRAt (envOf M .x) (lvT 95) cd95 [true, false, true, false] (endK (β := Int) M 95 .x Go.Proofs.Tryz.f95.results.toList) (stL 32 [(0, AV.d (D.l 2 (List.map cel a0))), (1, AV.d (D.i IntKind.i64 t1)), (5, AV.d (D.i IntKind.i64 t5))] [])
theorem n95_eq (a0 : (List TreeArg)) (a1 : Int) : n95 a0 a1 = l95_2 a0 a1 a1 0 := by
  rw [n95, fnO_code h95 rfl Go.Proofs.Tryz.func95 (c := cd95) rfl (a0, a1, ()) rfl]
  simp (maxSteps := 60000000) (disch := first | (intros; rename_i h; cases h; done) | decide +kernel) only [evS, seS, List.map_replicate, Nat.reduceDiv, Nat.reduceMod, Nat.reduceEqDiff, reduceCtorEq, ↓reduceIte, Nat.reduceLT, Nat.reduceAdd, Nat.reduceMul, Nat.reduceSub, Nat.reduceLeDiff, Nat.reduceBEq, Int.reduceEq, Int.reduceNeg, Int.reduceToNat, Int.reduceLE, Int.reduceLT, cd95, Go.Proofs.Tryz.f95, h95.r, m95, lv_pl, pl95, c93, lv95_2, l95_2]
  all_goals try simp only [rnS, seS, Nat.reduceEqDiff, reduceCtorEq, ↓reduceIte, Nat.reduceAdd, Nat.reduceLeDiff, Nat.reduceBEq, Nat.reduceMul, lv95_2]
theorem l95_2_eq (a0 : (List TreeArg)) (a1 : Int) (t1 : Int) (t5 : Int) : l95_2 a0 a1 t1 t5 = if t5 < (↑a0.length : Int) then (getI a0 t5).bind fun y0 => (n93 t1).bind fun y1 => if decide (y0.name = y1) = false then some (-1) else (getI a0 t5).bind fun y2 => if decide (y2.type = IntKind.i64.wrap (t1 + 1)) = false then some (-1) else l95_2 a0 a1 (IntKind.i64.wrap (IntKind.i64.wrap (t1 + 1) + 1)) (IntKind.i64.wrap (t5 + 1)) else some t1 := by
  rw [l95_2]
  simp only [evRAt, locS, cd95, Go.Proofs.Tryz.f95]
  rw [evR_eq]
  simp (maxSteps := 60000000) (disch := first | (intros; rename_i h; cases h; done) | decide +kernel) only [evS, seS, List.map_replicate, Nat.reduceDiv, Nat.reduceMod, Nat.reduceEqDiff, reduceCtorEq, ↓reduceIte, Nat.reduceLT, Nat.reduceAdd, Nat.reduceMul, Nat.reduceSub, Nat.reduceLeDiff, Nat.reduceBEq, Int.reduceEq, Int.reduceNeg, Int.reduceToNat, Int.reduceLE, Int.reduceLT, cd95, Go.Proofs.Tryz.f95, h95.r, m95, lv_pl, pl95, c93, lv95_2, l95_2]
  all_goals try simp only [rnS, seS, Nat.reduceEqDiff, reduceCtorEq, ↓reduceIte, Nat.reduceAdd, Nat.reduceLeDiff, Nat.reduceBEq, Nat.reduceMul, lv95_2]
  all_goals try simp only [bindN_eq]
end Go.Fs.Se

set_option linter.unusedVariables false
namespace Go.Fs.Se
open Cel (cel unc)
open Dat (enc dec)
open Arg (ea da)
/-! ### lists by place -/
theorem dropAt {α : Type} {xs : List α} {i : Nat} {y : α} {ys : List α} (h : xs.drop i = y :: ys) : i < xs.length ∧ getI xs (i : Int) = some y ∧ xs[i]? = some y ∧ xs.drop (i + 1) = ys := by
  have hi : i < xs.length := by
    rcases Nat.lt_or_ge i xs.length with h1 | h1
    · exact h1
    · rw [List.drop_eq_nil_of_le h1] at h; cases h
  rw [List.drop_eq_getElem_cons hi] at h
  simp only [List.cons.injEq] at h
  have e : xs[i]? = some y := by rw [List.getElem?_eq_getElem hi, h.1]
  refine ⟨hi, ?_, e, h.2⟩
  unfold getI
  rw [if_pos (by omega), Int.toNat_natCast, e]
theorem dropEnd {α : Type} {xs : List α} {i : Nat} (h : xs.drop i = []) : xs.length ≤ i := List.drop_eq_nil_iff.1 h
theorem wrN {n : Nat} (h : n ≤ 4611686018427387904) : IntKind.i64.wrap ((n : Int) + 1) = ((n + 1 : Nat) : Int) := by
  rw [wrap64 (by omega) (by omega)]; rfl
theorem getI_set' {α : Type} (xs : List α) (i : Nat) (v : α) (h : i < xs.length) : getI (xs.set i v) (i : Int) = some v := by
  unfold getI
  rw [if_pos (by omega), Int.toNat_natCast, List.getElem?_set_self h]

/-! ### trees -/
theorem tree_ind {P : TreeExpr → Prop} (h : ∀ e, (∀ k ∈ e.kids, P k) → P e) : ∀ e, P e := by
  have key : ∀ (n : Nat) (e : TreeExpr), SizeOf.sizeOf e < n → P e := by
    intro n
    induction n with
    | zero => intro e h; omega
    | succ n ih =>
      intro e he
      refine h e fun k hk => ih k ?_
      have h1 := List.sizeOf_lt_of_mem hk
      have h2 : SizeOf.sizeOf e.kids < SizeOf.sizeOf e := by cases e; simp; omega
      omega
  exact fun e => key _ e (Nat.lt_succ_self _)
/-- How much a tree holds. -/
def W (e : TreeExpr) : Nat := wtL (cel e)
def WL (es : List TreeExpr) : Nat := wtLL (es.map cel)
def okE (e : TreeExpr) : Prop := okL (cel e) = true
def okEs (es : List TreeExpr) : Prop := okLL (es.map cel) = true
theorem W_eq (e : TreeExpr) : W e = e.name.size + (e.mod.size + (e.kids.length + WL e.kids)) := by
  unfold W WL
  rw [cel_TreeExpr]
  simp only [enc_I, enc_S, enc_L, wtL, wt, List.length_map, Nat.zero_add, Nat.add_zero]
theorem WL_nil : WL [] = 0 := rfl
theorem WL_cons (e : TreeExpr) (es : List TreeExpr) : WL (e :: es) = W e + WL es := rfl
theorem okE_iff (e : TreeExpr) : okE e ↔ (-9223372036854775808 ≤ e.kind ∧ e.kind < 9223372036854775808) ∧ (-9223372036854775808 ≤ e.num ∧ e.num < 9223372036854775808) ∧ e.name.size ≤ 140737488355328 ∧ e.mod.size ≤ 140737488355328 ∧ e.kids.length ≤ 140737488355328 ∧ okEs e.kids := by
  unfold okE okEs
  rw [cel_TreeExpr]
  simp only [enc_I, enc_S, enc_L, okL_cons, okD_i, okD_s, okD_l, okL_nil, List.length_map, and_true]
theorem okEs_cons (e : TreeExpr) (es : List TreeExpr) : okEs (e :: es) ↔ okE e ∧ okEs es := by
  unfold okEs okE
  rw [List.map_cons, okLL_cons]
theorem okEs_mem {es : List TreeExpr} (h : okEs es) : ∀ k ∈ es, okE k := by
  induction es with
  | nil => intro k hk; cases hk
  | cons e es ih =>
    rw [okEs_cons] at h
    intro k hk
    cases hk with
    | head => exact h.1
    | tail _ hk => exact ih h.2 k hk
theorem WL_mem {es : List TreeExpr} : ∀ k ∈ es, W k ≤ WL es := by
  induction es with
  | nil => intro k hk; cases hk
  | cons e es ih =>
    intro k hk
    rw [WL_cons]
    cases hk with
    | head => omega
    | tail _ hk => have := ih k hk; omega
theorem less_ge {l : Int} (w : Nat) (h : -1 ≤ l) : -1 ≤ less l w ∧ (l ≤ 1048576 → less l w ≤ 1048576) := by unfold less; split <;> omega

/-! ### what is left behind a tree -/
theorem sz_ok : ∀ (e : TreeExpr), okE e → ∀ l : Int, 0 ≤ l → l ≤ 1048576 → n71 e l = some (less l (W e)) := by
  intro e
  induction e using tree_ind with
  | h e ih =>
    intro hok l h0 h1
    obtain ⟨_, _, k3, k4, k5, k6⟩ := (okE_iff e).1 hok
    have loop : ∀ (ys : List TreeExpr) (i : Nat) (a1 t : Int), e.kids.drop i = ys → i ≤ e.kids.length → 0 ≤ t → t ≤ 1048576 → l26_5 e.kids a1 t (i : Int) = some (less t (WL ys)) := by
      intro ys
      induction ys with
      | nil =>
        intro i a1 t hd hi ht ht'
        have := dropEnd hd
        rw [l26_5_eq, if_neg (by omega), WL_nil, less_pos (by omega)]
        simp
      | cons y ys ihy =>
        intro i a1 t hd hi ht ht'
        obtain ⟨d1, d2, _, d4⟩ := dropAt hd
        have hy : y ∈ e.kids := by
          have : y ∈ e.kids.drop i := by rw [hd]; exact .head _
          exact List.mem_of_mem_drop this
        rw [l26_5_eq, if_pos (by omega), d2, Option.bind_some, ih y hy (okEs_mem k6 y hy) t ht ht', Option.bind_some]
        have e0 : WL (y :: ys) = W y + WL ys := rfl
        by_cases hneg : t < (W y : Int)
        · rw [less_neg hneg, if_pos (by omega), e0, less_neg (by omega)]
        · rw [less_pos (by omega), if_neg (by omega), wrN (by omega), ihy (i + 1) a1 _ d4 (by omega) (by omega) (by omega), e0, ← less_pos (w := W y) (n := t) (by omega), less_less]
    have hkids : ∀ t : Int, 0 ≤ t → t ≤ 1048576 → n26 e.kids t = some (less t (e.kids.length + WL e.kids)) := by
      intro t ht ht'
      rw [n26_eq, wrap64 (by omega) (by omega)]
      by_cases hneg : t < (e.kids.length : Int)
      · rw [if_pos (by omega), less_neg (by omega)]
      · rw [if_neg (by omega)]
        have := loop e.kids 0 t (t - (e.kids.length : Int)) rfl (by omega) (by omega) (by omega)
        rw [show ((0 : Nat) : Int) = 0 from rfl] at this
        rw [this, ← less_pos (w := e.kids.length) (n := t) (by omega), less_less]
    rw [n71_eq, wrap64 (n := l - _) (by omega) (by omega), W_eq]
    by_cases n1 : l < (e.name.size : Int)
    · rw [if_pos (by omega), less_neg (by omega)]
    rw [if_neg (by omega), wrap64 (n := l - _ - _) (by omega) (by omega)]
    by_cases n2 : l - e.name.size < (e.mod.size : Int)
    · rw [if_pos (by omega), less_neg (by omega)]
    rw [if_neg (by omega), hkids _ (by omega) (by omega), Option.bind_some]
    by_cases n3 : l - e.name.size - e.mod.size < ((e.kids.length + WL e.kids : Nat) : Int)
    · rw [less_neg n3, if_pos (by omega), less_neg (by omega)]
    · rw [less_pos (by omega), if_neg (by omega), less_pos (by omega)]
      congr 1; omega

/-! ### a copy -/
theorem to_ok : ∀ (e : TreeExpr), W e ≤ 1048576 → n81 e = some e := by
  intro e
  induction e using tree_ind with
  | h e ih =>
    intro hw
    rw [W_eq] at hw
    have loop : ∀ (ys : List TreeExpr) (i : Nat) (r : List TreeExpr), e.kids.drop i = ys → i ≤ e.kids.length → r.length = e.kids.length → r.take i = e.kids.take i → l31_3 e.kids (i : Int) r = some e.kids := by
      intro ys
      induction ys with
      | nil =>
        intro i r hd hi hr ht
        have := dropEnd hd
        rw [l31_3_eq, if_neg (by omega)]
        have h1 : i = e.kids.length := by omega
        subst h1
        rw [List.take_length] at ht
        rw [← ht, ← hr, List.take_length]
      | cons y ys ihy =>
        intro i r hd hi hr ht
        obtain ⟨d1, d2, d3, d4⟩ := dropAt hd
        have hy : y ∈ e.kids := by
          have : y ∈ e.kids.drop i := by rw [hd]; exact .head _
          exact List.mem_of_mem_drop this
        have hwy := WL_mem (es := e.kids) y hy
        have hri : i < r.length := by omega
        have g1 : getI r (i : Int) = some r[i] := by
          unfold getI; rw [if_pos (by omega), Int.toNat_natCast, List.getElem?_eq_getElem hri]
        rw [l31_3_eq, if_pos (by omega), d2, Option.bind_some, ih y hy (by omega), Option.bind_some, g1, Option.bind_some, Int.toNat_natCast, List.getElem?_eq_getElem hri, Option.bind_some, wrN (by omega)]
        refine ihy (i + 1) _ d4 (by omega) (by rw [List.length_set]; exact hr) ?_
        have hl : e.kids[i]? = some y := d3
        rw [List.take_add_one, List.take_add_one, List.getElem?_set_self hri, hl, List.take_set_of_le (Nat.le_refl i), ht]
    rw [n81_eq, n31_eq, if_pos ⟨by omega, by omega, by omega⟩]
    have := loop e.kids 0 (List.replicate e.kids.length (TreeExpr.mk 0 0 ByteArray.empty ByteArray.empty [])) rfl (by omega) (by simp) (by simp)
    rw [show ((0 : Nat) : Int) = 0 from rfl] at this
    rw [this, Option.bind_some]
    exact congrArg some (eta_TreeExpr e)

/-! ### equality of one with itself -/
theorem eq_ok : ∀ (e : TreeExpr), okE e → n92 e e = some true := by
  intro e
  induction e using tree_ind with
  | h e ih =>
    intro hok
    obtain ⟨_, _, k3, k4, k5, k6⟩ := (okE_iff e).1 hok
    have loop : ∀ (ys : List TreeExpr) (i : Nat), e.kids.drop i = ys → i ≤ e.kids.length → l36_4 e.kids e.kids (i : Int) = some true := by
      intro ys
      induction ys with
      | nil =>
        intro i hd hi
        have := dropEnd hd
        rw [l36_4_eq, if_neg (by omega)]
      | cons y ys ihy =>
        intro i hd hi
        obtain ⟨d1, d2, d3, d4⟩ := dropAt hd
        have hy : y ∈ e.kids := by
          have : y ∈ e.kids.drop i := by rw [hd]; exact .head _
          exact List.mem_of_mem_drop this
        rw [l36_4_eq, if_pos (by omega), d2, Option.bind_some, Option.bind_some, ih y hy (okEs_mem k6 y hy), Option.bind_some, if_neg (by decide), wrN (by omega)]
        exact ihy (i + 1) d4 (by omega)
    have := loop e.kids 0 rfl (by omega)
    rw [show ((0 : Nat) : Int) = 0 from rfl] at this
    rw [n92_eq, n36_eq]
    simp only [decide_true, Bool.true_eq_false, if_false, this, Option.bind_some]
end Go.Fs.Se

set_option linter.unusedVariables false
namespace Go.Fs.Se
open Cel (cel unc)
open Dat (enc dec)
open Arg (ea da)
/-! ### sizes, copies and equality of lists, whatever is in them -/
section
variable {α : Type} [Cel α]
def WC (x : α) : Nat := wtL (cel x)
def WLC (xs : List α) : Nat := wtLL (xs.map cel)
def okC (x : α) : Prop := okL (cel x) = true
def okLC (xs : List α) : Prop := okLL (xs.map cel) = true
theorem WLC_nil : WLC ([] : List α) = 0 := rfl
theorem WLC_cons (x : α) (xs : List α) : WLC (x :: xs) = WC x + WLC xs := rfl
theorem okLC_cons (x : α) (xs : List α) : okLC (x :: xs) ↔ okC x ∧ okLC xs := by unfold okLC okC; rw [List.map_cons, okLL_cons]
theorem okLC_mem {xs : List α} (h : okLC xs) : ∀ x ∈ xs, okC x := by
  induction xs with
  | nil => intro k hk; cases hk
  | cons e es ih =>
    rw [okLC_cons] at h
    intro k hk
    cases hk with
    | head => exact h.1
    | tail _ hk => exact ih h.2 k hk
theorem WLC_mem {xs : List α} : ∀ x ∈ xs, WC x ≤ WLC xs := by
  induction xs with
  | nil => intro k hk; cases hk
  | cons e es ih =>
    intro k hk
    rw [WLC_cons]
    cases hk with
    | head => omega
    | tail _ hk => have := ih k hk; omega
/-- A number that stands for what is left. -/
def LeftP (t v : Int) (w : Nat) : Prop := (v < 0 ∧ t < (w : Int)) ∨ (v = t - w ∧ (w : Int) ≤ t)
theorem LeftP.of_less {t : Int} (w : Nat) (h : 0 ≤ t) : LeftP t (less t w) w := by
  unfold LeftP less; split <;> omega
theorem LeftP.of_text {t : Int} {s : ByteArray} (h : 0 ≤ t) (h' : t ≤ 1048576) (hs : s.size ≤ 140737488355328) : LeftP t (IntKind.i64.wrap (t - (s.size : Int))) s.size := by
  rw [wrap64 (by omega) (by omega)]; unfold LeftP; omega
theorem LeftP.of_len {t : Int} {n : Nat} (h : 0 ≤ t) (h' : t ≤ 1048576) (hs : n ≤ 140737488355328) : LeftP t (IntKind.i64.wrap (t - (n : Int))) n := by
  rw [wrap64 (by omega) (by omega)]; unfold LeftP; omega
/-- One part is taken, then the others. -/
theorem left_step {t v : Int} {w rest : Nat} {K : Int → Option Int} (hv : LeftP t v w) (hK : 0 ≤ t - w → K (t - w) = some (less (t - w) rest)) : (if v < 0 then some (-1) else K v) = some (less t (w + rest)) := by
  rcases hv with ⟨h1, h2⟩ | ⟨rfl, h2⟩
  · rw [if_pos h1, less_neg (by omega)]
  · rw [if_neg (by omega), hK (by omega), ← less_pos (w := w) (n := t) h2, less_less]
theorem left_call {t : Int} {x : Option Int} {w rest : Nat} {K : Int → Option Int} (ht : 0 ≤ t) (hx : x = some (less t w)) (hK : 0 ≤ t - w → K (t - w) = some (less (t - w) rest)) : (x.bind fun y => if y < 0 then some (-1) else K y) = some (less t (w + rest)) := by
  rw [hx, Option.bind_some]
  exact left_step (LeftP.of_less w ht) hK
theorem left_end (t : Int) (h : 0 ≤ t) : some t = some (less t 0) := by rw [less_pos (by omega)]; simp
theorem sz_list (xs : List α) (L : Int → Int → Option Int) (hlen : xs.length ≤ 140737488355328) (hend : ∀ t, L t (xs.length : Int) = some t)
    (hstep : ∀ (i : Nat) (y : α) (t : Int), xs[i]? = some y → getI xs (i : Int) = some y → i < xs.length → 0 ≤ t → t ≤ 1048576 → ∃ v, LeftP t v (WC y) ∧ L t (i : Int) = if v < 0 then some (-1) else L v ((i + 1 : Nat) : Int)) :
    ∀ t : Int, 0 ≤ t → t ≤ 1048576 → L t 0 = some (less t (WLC xs)) := by
  have key : ∀ (ys : List α) (i : Nat) (t : Int), xs.drop i = ys → i ≤ xs.length → 0 ≤ t → t ≤ 1048576 → L t (i : Int) = some (less t (WLC ys)) := by
    intro ys
    induction ys with
    | nil =>
      intro i t hd hi h0 h1
      have := dropEnd hd
      have e : i = xs.length := by omega
      rw [e, hend, WLC_nil]
      exact left_end t h0
    | cons y ys ih =>
      intro i t hd hi h0 h1
      obtain ⟨d1, d2, d3, d4⟩ := dropAt hd
      obtain ⟨v, hv, e⟩ := hstep i y t d3 d2 d1 h0 h1
      rw [e, WLC_cons]
      exact left_step (K := fun v => L v ((i + 1 : Nat) : Int)) hv fun h => ih (i + 1) _ d4 (by omega) h (by omega)
  intro t h0 h1
  exact key xs 0 t rfl (by omega) h0 h1
end
theorem to_list {α : Type} (xs : List α) (L : Int → List α → Option (List α)) (hend : ∀ r, L (xs.length : Int) r = some r)
    (hstep : ∀ (i : Nat) (y : α) (r : List α), xs[i]? = some y → getI xs (i : Int) = some y → i < xs.length → r.length = xs.length → L (i : Int) r = L ((i + 1 : Nat) : Int) (r.set i y)) :
    ∀ r : List α, r.length = xs.length → L 0 r = some xs := by
  have key : ∀ (ys : List α) (i : Nat) (r : List α), xs.drop i = ys → i ≤ xs.length → r.length = xs.length → r.take i = xs.take i → L (i : Int) r = some xs := by
    intro ys
    induction ys with
    | nil =>
      intro i r hd hi hr ht
      have := dropEnd hd
      have e : i = xs.length := by omega
      subst e
      rw [hend]
      rw [List.take_length] at ht
      rw [← ht, ← hr, List.take_length]
    | cons y ys ih =>
      intro i r hd hi hr ht
      obtain ⟨d1, d2, d3, d4⟩ := dropAt hd
      rw [hstep i y r d3 d2 d1 hr]
      have hri : i < r.length := by omega
      refine ih (i + 1) _ d4 (by omega) (by rw [List.length_set]; exact hr) ?_
      rw [List.take_add_one, List.take_add_one, List.getElem?_set_self hri, d3, List.take_set_of_le (Nat.le_refl i), ht]
  exact fun r hr => key xs 0 r rfl (by omega) hr (by simp)
theorem eq_list {α : Type} (xs : List α) (L : Int → Option Bool) (hend : L (xs.length : Int) = some true)
    (hstep : ∀ (i : Nat) (y : α), xs[i]? = some y → getI xs (i : Int) = some y → i < xs.length → L (i : Int) = L ((i + 1 : Nat) : Int)) : L 0 = some true := by
  have key : ∀ (ys : List α) (i : Nat), xs.drop i = ys → i ≤ xs.length → L (i : Int) = some true := by
    intro ys
    induction ys with
    | nil =>
      intro i hd hi
      have := dropEnd hd
      have e : i = xs.length := by omega
      rw [e, hend]
    | cons y ys ih =>
      intro i hd hi
      obtain ⟨d1, d2, d3, d4⟩ := dropAt hd
      rw [hstep i y d3 d2 d1]
      exact ih (i + 1) d4 (by omega)
  exact key xs 0 rfl (by omega)
end Go.Fs.Se
