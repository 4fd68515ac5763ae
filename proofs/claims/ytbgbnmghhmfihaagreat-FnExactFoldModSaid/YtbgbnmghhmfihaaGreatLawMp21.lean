/- A part of the proof: an evaluator of the program's code over plain data, proved sound, and walks of the program's functions by it. No conditions beyond those in the theorems. -/
import Derived.Test.YtbgbnmghhmfihaaGreatLawMp15
import Derived.Test.YtbgbnmghhmfihaaGreatLawMp18
set_option linter.unusedVariables false
set_option linter.unusedSimpArgs false
set_option linter.constructorNameAsVariable false
set_option linter.unusedSectionVars false
set_option linter.defProp false
set_option linter.unusedVariables false
set_option linter.unusedSimpArgs false
set_option maxRecDepth 40000
set_option maxHeartbeats 4000000
open Go.RowKit
namespace Go.Fs.Se
open Cel (cel unc)
open Dat (enc dec)
open Arg (ea da)
/-! loop.example/smithy/spec.l18Half -/
theorem n77_eq (a0 : TreeExpr) : n77 a0 = (getI a0.kids 0).bind fun y0 => a0.kids[0]?.bind fun y3 => a0.kids[0]?.bind fun y6 => (n79 (TreeExpr.mk y3.kind y3.num y3.name y3.mod y6.kids)).bind fun y7 => if y7.snd = false ∨ decide (y7.fst.kind = 2) = false then some a0 else if (decide (a0.name = ByteArray.mk #[97, 110, 100]) == decide (y7.fst.num = 1)) = true then (getI a0.kids 1).bind fun y8 => a0.kids[1]?.bind fun y11 => a0.kids[1]?.bind fun y14 => some (TreeExpr.mk y11.kind y11.num y11.name y11.mod y14.kids) else (getI a0.kids 0).bind fun y15 => a0.kids[0]?.bind fun y18 => a0.kids[0]?.bind fun y21 => some (TreeExpr.mk y18.kind y18.num y18.name y18.mod y21.kids) := by
  rw [n77, fnE_code h77 rfl Go.Proofs.Tryz.func77 (c := cd77) rfl (a0, ()) rfl]
  simp (maxSteps := 60000000) (disch := first | (intros; rename_i h; cases h; done) | decide +kernel) only [evS, seS, List.map_replicate, Nat.reduceDiv, Nat.reduceMod, Nat.reduceEqDiff, reduceCtorEq, ↓reduceIte, Nat.reduceLT, Nat.reduceAdd, Nat.reduceMul, Nat.reduceSub, Nat.reduceLeDiff, Nat.reduceBEq, Int.reduceEq, Int.reduceNeg, Int.reduceToNat, Int.reduceLE, Int.reduceLT, cd77, Go.Proofs.Tryz.f77, h77.r, m77, lv_pl, pl77, c79]
  all_goals try simp only [bindN_eq]
end Go.Fs.Se

set_option linter.unusedVariables false
set_option linter.unusedSimpArgs false
set_option maxRecDepth 40000
set_option maxHeartbeats 4000000
open Go.RowKit
namespace Go.Fs.Se
open Cel (cel unc)
open Dat (enc dec)
open Arg (ea da)
/-! loop.example/smithy/spec.l18Prim -/
noncomputable def l78_3 (a0 : TreeExpr) (t4 : Int) (r2 : List MeanVal) : Option (TreeExpr) := evRAt (envOf M .x) (lvT 78) cd78 [true, true, false, true, false] (endKM (β := TreeExpr) M 78 Go.Proofs.Tryz.f78.results.toList) (stL 66 [(1, AV.a 500000 0), (2, AV.a 500001 0), (3, AV.r 500002), (4, AV.d (D.i IntKind.i64 t4))] [(500000, some (Ob.box [AV.d (D.i IntKind.i64 a0.kind), AV.d (D.i IntKind.i64 a0.num), AV.d (D.s a0.name), AV.d (D.s a0.mod), AV.r 900004])), (500001, some (Ob.box [AV.d (D.i IntKind.i64 0), AV.d (D.i IntKind.i64 0), AV.d (D.s ByteArray.empty), AV.d (D.s ByteArray.empty), AV.r 500003])), (500002, some (Ob.row 3 (List.map cel r2) true false 0)), (900004, some (Ob.row 5 (List.map cel a0.kids) true false 0)), (500003, some (Ob.row 5 [] true false 0))])
theorem n78_eq (a0 : TreeExpr) : n78 a0 = l78_3 a0 0 [] := by
  rw [n78, fnE_code h78 rfl Go.Proofs.Tryz.func78 (c := cd78) rfl (a0, ()) rfl]
  simp (maxSteps := 60000000) (disch := first | (intros; rename_i h; cases h; done) | decide +kernel) only [evS, seS, List.map_replicate, Nat.reduceDiv, Nat.reduceMod, Nat.reduceEqDiff, reduceCtorEq, ↓reduceIte, Nat.reduceLT, Nat.reduceAdd, Nat.reduceMul, Nat.reduceSub, Nat.reduceLeDiff, Nat.reduceBEq, Int.reduceEq, Int.reduceNeg, Int.reduceToNat, Int.reduceLE, Int.reduceLT, cd78, Go.Proofs.Tryz.f78, h78.r, m78, lv_pl, pl78, c79, c134, c135, c136, lv78_3, l78_3]
  all_goals try simp only [rnS, seS, Nat.reduceEqDiff, reduceCtorEq, ↓reduceIte, Nat.reduceAdd, Nat.reduceLeDiff, Nat.reduceBEq, Nat.reduceMul, lv78_3]
theorem l78_3_eq (a0 : TreeExpr) (t4 : Int) (r2 : List MeanVal) : l78_3 a0 t4 r2 = if t4 < (↑a0.kids.length : Int) then (getI a0.kids t4).bind fun y0 => a0.kids[t4.toNat]?.bind fun y3 => a0.kids[t4.toNat]?.bind fun y6 => (n79 (TreeExpr.mk y3.kind y3.num y3.name y3.mod y6.kids)).bind fun y7 => if y7.snd = false then some a0 else if (r2.length + 1) * 40 ≤ 140737488355328 ∧ r2.length ≤ 140737488355327 then l78_3 a0 (IntKind.i64.wrap (t4 + 1)) (r2 ++ [y7.fst]) else none else bindB (if a0.name = ByteArray.mk #[112, 114, 105, 110, 116] then some true else (n134 a0.name r2).bind fun y8 => some !y8) fun y9 => if y9 = true then some a0 else (n135 a0.name r2).bind fun y10 => (n136 y10.fst).bind fun y11 => if 0 < y10.snd ∨ y11.snd = false then some a0 else some y11.fst := by
  rw [l78_3]
  simp only [evRAt, locS, cd78, Go.Proofs.Tryz.f78]
  rw [evR_eq]
  simp (maxSteps := 60000000) (disch := first | (intros; rename_i h; cases h; done) | decide +kernel) only [evS, seS, List.map_replicate, Nat.reduceDiv, Nat.reduceMod, Nat.reduceEqDiff, reduceCtorEq, ↓reduceIte, Nat.reduceLT, Nat.reduceAdd, Nat.reduceMul, Nat.reduceSub, Nat.reduceLeDiff, Nat.reduceBEq, Int.reduceEq, Int.reduceNeg, Int.reduceToNat, Int.reduceLE, Int.reduceLT, cd78, Go.Proofs.Tryz.f78, h78.r, m78, lv_pl, pl78, c79, c134, c135, c136, lv78_3, l78_3]
  all_goals try simp only [rnS, seS, Nat.reduceEqDiff, reduceCtorEq, ↓reduceIte, Nat.reduceAdd, Nat.reduceLeDiff, Nat.reduceBEq, Nat.reduceMul, lv78_3]
  all_goals try simp only [bindN_eq]
end Go.Fs.Se

set_option linter.unusedVariables false
set_option linter.unusedSimpArgs false
set_option maxRecDepth 40000
set_option maxHeartbeats 4000000
open Go.RowKit
namespace Go.Fs.Se
open Cel (cel unc)
open Dat (enc dec)
open Arg (ea da)
/-! loop.example/smithy/impl.folded -/
theorem n90_eq (a0 : TreeExpr) : n90 a0 = bindB (if a0.kind = 5 then (getI a0.kids 0).bind fun y0 => a0.kids[0]?.bind fun y3 => some (decide (y3.kind = 2)) else some false) fun y4 => if y4 = true then (getI a0.kids 0).bind fun y5 => a0.kids[0]?.bind fun y8 => (getI a0.kids (IntKind.i64.wrap (2 - y8.num))).bind fun y9 => a0.kids[(IntKind.i64.wrap (2 - y8.num)).toNat]?.bind fun y12 => a0.kids[(IntKind.i64.wrap (2 - y8.num)).toNat]?.bind fun y15 => some (TreeExpr.mk y12.kind y12.num y12.name y12.mod y15.kids) else if decide (a0.kind = 4) = false ∨ a0.name = ByteArray.mk #[112, 114, 105, 110, 116] then some a0 else if decide (a0.name = ByteArray.mk #[97, 110, 100]) = false ∧ decide (a0.name = ByteArray.mk #[111, 114]) = false then (n143 a0).bind fun y16 => if y16.snd = true then some y16.fst else some a0 else (getI a0.kids 0).bind fun y17 => a0.kids[0]?.bind fun y20 => if y20.kind = 2 then (getI a0.kids 0).bind fun y21 => a0.kids[0]?.bind fun y24 => if (decide (y24.num = 1) == decide (a0.name = ByteArray.mk #[97, 110, 100])) = true then (getI a0.kids 1).bind fun y25 => a0.kids[1]?.bind fun y28 => a0.kids[1]?.bind fun y31 => some (TreeExpr.mk y28.kind y28.num y28.name y28.mod y31.kids) else (getI a0.kids 0).bind fun y32 => a0.kids[0]?.bind fun y35 => a0.kids[0]?.bind fun y38 => some (TreeExpr.mk y35.kind y35.num y35.name y35.mod y38.kids) else some a0 := by
  rw [n90, fnE_code h90 rfl Go.Proofs.Tryz.func90 (c := cd90) rfl (a0, ()) rfl]
  simp (maxSteps := 60000000) (disch := first | (intros; rename_i h; cases h; done) | decide +kernel) only [evS, seS, List.map_replicate, Nat.reduceDiv, Nat.reduceMod, Nat.reduceEqDiff, reduceCtorEq, ↓reduceIte, Nat.reduceLT, Nat.reduceAdd, Nat.reduceMul, Nat.reduceSub, Nat.reduceLeDiff, Nat.reduceBEq, Int.reduceEq, Int.reduceNeg, Int.reduceToNat, Int.reduceLE, Int.reduceLT, cd90, Go.Proofs.Tryz.f90, h90.r, m90, lv_pl, pl90, c143]
  all_goals try simp only [bindN_eq]
end Go.Fs.Se

set_option linter.unusedVariables false
set_option linter.unusedSimpArgs false
set_option maxRecDepth 40000
set_option maxHeartbeats 4000000
open Go.RowKit
namespace Go.Fs.Se
open Cel (cel unc)
open Dat (enc dec)
open Arg (ea da)
/-! loop.example/smithy/spec.l18Written -/
theorem n136_eq (a0 : MeanVal) : n136 a0 = if a0.kind = 2 then if decide (a0.kind = 3) = false then if decide (a0.kind = 3) = false then (n132 (TreeExpr.mk 2 a0.num ByteArray.empty ByteArray.empty [])).bind fun y0 => some (TreeExpr.mk 2 a0.num ByteArray.empty ByteArray.empty [], y0) else some (TreeExpr.mk 2 a0.num ByteArray.empty ByteArray.empty [], false) else if decide (a0.kind = 3) = false then none else some (TreeExpr.mk 2 a0.num ByteArray.empty ByteArray.empty [], false) else if decide (a0.kind = 3) = false then if decide (a0.kind = 3) = false then (n132 (TreeExpr.mk 1 a0.num ByteArray.empty ByteArray.empty [])).bind fun y1 => some (TreeExpr.mk 1 a0.num ByteArray.empty ByteArray.empty [], y1) else some (TreeExpr.mk 1 a0.num ByteArray.empty ByteArray.empty [], false) else if decide (a0.kind = 3) = false then none else some (TreeExpr.mk 1 a0.num ByteArray.empty ByteArray.empty [], false) := by
  rw [n136, fnO_code h136 rfl Go.Proofs.Tryz.func136 (c := cd136) rfl (a0, ()) rfl]
  simp (maxSteps := 60000000) (disch := first | (intros; rename_i h; cases h; done) | decide +kernel) only [evS, seS, List.map_replicate, Nat.reduceDiv, Nat.reduceMod, Nat.reduceEqDiff, reduceCtorEq, ↓reduceIte, Nat.reduceLT, Nat.reduceAdd, Nat.reduceMul, Nat.reduceSub, Nat.reduceLeDiff, Nat.reduceBEq, Int.reduceEq, Int.reduceNeg, Int.reduceToNat, Int.reduceLE, Int.reduceLT, cd136, Go.Proofs.Tryz.f136, h136.r, m136, lv_pl, pl136, c132]
  all_goals try simp only [bindN_eq]
end Go.Fs.Se

set_option linter.unusedVariables false
set_option linter.unusedSimpArgs false
set_option maxRecDepth 40000
set_option maxHeartbeats 4000000
open Go.RowKit
namespace Go.Fs.Se
open Cel (cel unc)
open Dat (enc dec)
open Arg (ea da)
/-! loop.example/smithy/impl.reckoned -/
noncomputable def l143_3 (a0 : TreeExpr) (t15 : Int) (r2 : List MeanVal) : Option (TreeExpr × Bool) := evRAt (envOf M .x) (lvT 143) cd143 [true, true, false, true, false] (endK (β := TreeExpr × Bool) M 143 .x Go.Proofs.Tryz.f143.results.toList) (stL 46 [(1, AV.a 500000 0), (2, AV.a 500001 0), (4, AV.r 500002), (13, AV.d (D.l 5 (List.map cel a0.kids))), (14, AV.d (D.i IntKind.i64 (↑a0.kids.length : Int))), (15, AV.d (D.i IntKind.i64 t15))] [(500000, some (Ob.box [AV.d (D.i IntKind.i64 a0.kind), AV.d (D.i IntKind.i64 a0.num), AV.d (D.s a0.name), AV.d (D.s a0.mod), AV.d (D.l 5 (List.map cel a0.kids))])), (500001, some (Ob.box [AV.d (D.i IntKind.i64 0), AV.d (D.i IntKind.i64 0), AV.d (D.s ByteArray.empty), AV.d (D.s ByteArray.empty), AV.r 500003])), (500002, some (Ob.row 3 (List.map cel r2) true false 0)), (500003, some (Ob.row 5 [] true false 0))])
theorem n143_eq (a0 : TreeExpr) : n143 a0 = l143_3 a0 0 [] := by
  rw [n143, fnO_code h143 rfl Go.Proofs.Tryz.func143 (c := cd143) rfl (a0, ()) rfl]
  simp (maxSteps := 60000000) (disch := first | (intros; rename_i h; cases h; done) | decide +kernel) only [evS, seS, List.map_replicate, Nat.reduceDiv, Nat.reduceMod, Nat.reduceEqDiff, reduceCtorEq, ↓reduceIte, Nat.reduceLT, Nat.reduceAdd, Nat.reduceMul, Nat.reduceSub, Nat.reduceLeDiff, Nat.reduceBEq, Int.reduceEq, Int.reduceNeg, Int.reduceToNat, Int.reduceLE, Int.reduceLT, cd143, Go.Proofs.Tryz.f143, h143.r, m143, lv_pl, pl143, c165, c180, c181, lv143_3, l143_3]
  all_goals try simp only [rnS, seS, Nat.reduceEqDiff, reduceCtorEq, ↓reduceIte, Nat.reduceAdd, Nat.reduceLeDiff, Nat.reduceBEq, Nat.reduceMul, lv143_3]
theorem l143_3_eq (a0 : TreeExpr) (t15 : Int) (r2 : List MeanVal) : l143_3 a0 t15 r2 = if t15 < (↑a0.kids.length : Int) then (getI a0.kids t15).bind fun y0 => (n180 y0).bind fun y1 => if y1.snd = false then some (TreeExpr.mk 0 0 ByteArray.empty ByteArray.empty [], false) else if (r2.length + 1) * 40 ≤ 140737488355328 ∧ r2.length ≤ 140737488355327 then l143_3 a0 (IntKind.i64.wrap (t15 + 1)) (r2 ++ [y1.fst]) else none else (n165 a0.name r2).bind fun y2 => if decide (y2.snd = 0) = false then some (TreeExpr.mk 0 0 ByteArray.empty ByteArray.empty [], false) else (n181 y2.fst).bind fun y3 => some (y3.fst, y3.snd) := by
  rw [l143_3]
  simp only [evRAt, locS, cd143, Go.Proofs.Tryz.f143]
  rw [evR_eq]
  simp (maxSteps := 60000000) (disch := first | (intros; rename_i h; cases h; done) | decide +kernel) only [evS, seS, List.map_replicate, Nat.reduceDiv, Nat.reduceMod, Nat.reduceEqDiff, reduceCtorEq, ↓reduceIte, Nat.reduceLT, Nat.reduceAdd, Nat.reduceMul, Nat.reduceSub, Nat.reduceLeDiff, Nat.reduceBEq, Int.reduceEq, Int.reduceNeg, Int.reduceToNat, Int.reduceLE, Int.reduceLT, cd143, Go.Proofs.Tryz.f143, h143.r, m143, lv_pl, pl143, c165, c180, c181, lv143_3, l143_3]
  all_goals try simp only [rnS, seS, Nat.reduceEqDiff, reduceCtorEq, ↓reduceIte, Nat.reduceAdd, Nat.reduceLeDiff, Nat.reduceBEq, Nat.reduceMul, lv143_3]
  all_goals try simp only [bindN_eq]
end Go.Fs.Se

set_option linter.unusedVariables false
set_option linter.unusedSimpArgs false
set_option maxRecDepth 40000
set_option maxHeartbeats 4000000
open Go.RowKit
namespace Go.Fs.Se
open Cel (cel unc)
open Dat (enc dec)
open Arg (ea da)
/-! loop.example/smithy/impl.literal -/
theorem n181_eq (a0 : MeanVal) : n181 a0 = if a0.kind = 2 then if decide (a0.kind = 3) = false then if decide (a0.kind = 3) = false then (n177 (TreeExpr.mk 2 a0.num ByteArray.empty ByteArray.empty [])).bind fun y0 => some (TreeExpr.mk 2 a0.num ByteArray.empty ByteArray.empty [], y0) else some (TreeExpr.mk 2 a0.num ByteArray.empty ByteArray.empty [], false) else if decide (a0.kind = 3) = false then none else some (TreeExpr.mk 2 a0.num ByteArray.empty ByteArray.empty [], false) else if decide (a0.kind = 3) = false then if decide (a0.kind = 3) = false then (n177 (TreeExpr.mk 1 a0.num ByteArray.empty ByteArray.empty [])).bind fun y1 => some (TreeExpr.mk 1 a0.num ByteArray.empty ByteArray.empty [], y1) else some (TreeExpr.mk 1 a0.num ByteArray.empty ByteArray.empty [], false) else if decide (a0.kind = 3) = false then none else some (TreeExpr.mk 1 a0.num ByteArray.empty ByteArray.empty [], false) := by
  rw [n181, fnO_code h181 rfl Go.Proofs.Tryz.func181 (c := cd181) rfl (a0, ()) rfl]
  simp (maxSteps := 60000000) (disch := first | (intros; rename_i h; cases h; done) | decide +kernel) only [evS, seS, List.map_replicate, Nat.reduceDiv, Nat.reduceMod, Nat.reduceEqDiff, reduceCtorEq, ↓reduceIte, Nat.reduceLT, Nat.reduceAdd, Nat.reduceMul, Nat.reduceSub, Nat.reduceLeDiff, Nat.reduceBEq, Int.reduceEq, Int.reduceNeg, Int.reduceToNat, Int.reduceLE, Int.reduceLT, cd181, Go.Proofs.Tryz.f181, h181.r, m181, lv_pl, pl181, c177]
  all_goals try simp only [bindN_eq]
end Go.Fs.Se

set_option linter.unusedVariables false
set_option linter.unusedSimpArgs false
set_option maxRecDepth 40000
set_option maxHeartbeats 4000000
open Go.RowKit
namespace Go.Fs.Se
open Cel (cel unc)
open Dat (enc dec)
open Arg (ea da)
/-! loop.example/smithy/spec.TreeOk -/
noncomputable def l27_5 (a0 : TreeMod) (t4 : Int) (r1 : List ByteArray) : Option (Bool) := evRAt (envOf M .x) (lvT 27) cd27 [true, true, true, false, true, false] (endK (β := Bool) M 27 .x Go.Proofs.Tryz.f27.results.toList) (stL 71 [(1, AV.a 500000 0), (3, AV.r 500001), (4, AV.d (D.i IntKind.i64 t4))] [(500000, some (Ob.box [AV.d (D.l 1 (List.map cel a0.uses)), AV.d (D.l 9 (List.map cel a0.funs)), AV.d (D.l 5 (List.map cel a0.main))])), (500001, some (Ob.row 1 (List.map cel r1) true false 0))])
theorem n27_eq (a0 : TreeMod) : n27 a0 = bindB (if (4 < (↑a0.uses.length : Int) ∨ 8 < (↑a0.funs.length : Int)) ∨ 1 < (↑a0.main.length : Int) then some true else (n72 a0.uses).bind fun y0 => some !y0) fun y1 => bindB (if y1 = true then some true else (n73 a0).bind fun y2 => some !y2) fun y3 => if y3 = true then some false else l27_5 a0 0 [] := by
  rw [n27, fnO_code h27 rfl Go.Proofs.Tryz.func27 (c := cd27) rfl (a0, ()) rfl]
  simp (maxSteps := 60000000) (disch := first | (intros; rename_i h; cases h; done) | decide +kernel) only [evS, seS, List.map_replicate, Nat.reduceDiv, Nat.reduceMod, Nat.reduceEqDiff, reduceCtorEq, ↓reduceIte, Nat.reduceLT, Nat.reduceAdd, Nat.reduceMul, Nat.reduceSub, Nat.reduceLeDiff, Nat.reduceBEq, Int.reduceEq, Int.reduceNeg, Int.reduceToNat, Int.reduceLE, Int.reduceLT, cd27, Go.Proofs.Tryz.f27, h27.r, m27, lv_pl, pl27, c72, c73, c74, c75, lv27_5, l27_5]
  all_goals try simp only [rnS, seS, Nat.reduceEqDiff, reduceCtorEq, ↓reduceIte, Nat.reduceAdd, Nat.reduceLeDiff, Nat.reduceBEq, Nat.reduceMul, lv27_5]
  all_goals try simp only [bindN_eq]
theorem l27_5_eq (a0 : TreeMod) (t4 : Int) (r1 : List ByteArray) : l27_5 a0 t4 r1 = if t4 < (↑a0.funs.length : Int) then (getI a0.funs t4).bind fun y0 => if (r1.length + 1) * 16 ≤ 140737488355328 ∧ r1.length ≤ 140737488355327 then (getI a0.funs t4).bind fun y1 => (n74 y1).bind fun y2 => if y2 = false then some false else l27_5 a0 (IntKind.i64.wrap (t4 + 1)) (r1 ++ [y0.name]) else none else (n72 r1).bind fun y3 => if y3 = true then if (↑a0.main.length : Int) = 0 then some true else (getI a0.main 0).bind fun y4 => n75 y4 else some false := by
  rw [l27_5]
  simp only [evRAt, locS, cd27, Go.Proofs.Tryz.f27]
  rw [evR_eq]
  simp (maxSteps := 60000000) (disch := first | (intros; rename_i h; cases h; done) | decide +kernel) only [evS, seS, List.map_replicate, Nat.reduceDiv, Nat.reduceMod, Nat.reduceEqDiff, reduceCtorEq, ↓reduceIte, Nat.reduceLT, Nat.reduceAdd, Nat.reduceMul, Nat.reduceSub, Nat.reduceLeDiff, Nat.reduceBEq, Int.reduceEq, Int.reduceNeg, Int.reduceToNat, Int.reduceLE, Int.reduceLT, cd27, Go.Proofs.Tryz.f27, h27.r, m27, lv_pl, pl27, c72, c73, c74, c75, lv27_5, l27_5]
  all_goals try simp only [rnS, seS, Nat.reduceEqDiff, reduceCtorEq, ↓reduceIte, Nat.reduceAdd, Nat.reduceLeDiff, Nat.reduceBEq, Nat.reduceMul, lv27_5]
  all_goals try simp only [bindN_eq]
end Go.Fs.Se

set_option linter.unusedVariables false
set_option linter.unusedSimpArgs false
set_option maxRecDepth 40000
set_option maxHeartbeats 4000000
open Go.RowKit
namespace Go.Fs.Se
open Cel (cel unc)
open Dat (enc dec)
open Arg (ea da)
/-! loop.example/smithy/impl.TreeOk -/
noncomputable def l32_5 (a0 : TreeMod) (t4 : Int) (t37 : Int) (r1 : List ByteArray) : Option (Bool) := evRAt (envOf M .x) (lvT 32) cd32 [true, true, true, false, true, false] (endK (β := Bool) M 32 .x Go.Proofs.Tryz.f32.results.toList) (stL 94 [(1, AV.a 500000 0), (3, AV.r 500001), (4, AV.d (D.i IntKind.i64 t4)), (35, AV.d (D.l 9 (List.map cel a0.funs))), (36, AV.d (D.i IntKind.i64 (↑a0.funs.length : Int))), (37, AV.d (D.i IntKind.i64 t37))] [(500000, some (Ob.box [AV.d (D.l 1 (List.map cel a0.uses)), AV.d (D.l 9 (List.map cel a0.funs)), AV.d (D.l 5 (List.map cel a0.main))])), (500001, some (Ob.row 1 (List.map cel r1) true false 0))])
noncomputable def l32_12 (a0 : TreeMod) (t4 : Int) (t70 : List TreeExpr) (t71 : Int) (t72 : Int) (r0 : List ByteArray) : Option (Bool) := evRAt (envOf M .x) (lvT 32) cd32 [true, true, true, true, false, true, false] (endK (β := Bool) M 32 .x Go.Proofs.Tryz.f32.results.toList) (stL 94 [(3, AV.r 500000), (4, AV.d (D.i IntKind.i64 t4)), (70, AV.d (D.l 5 (List.map cel t70))), (71, AV.d (D.i IntKind.i64 t71)), (72, AV.d (D.i IntKind.i64 t72))] [(500000, some (Ob.row 1 (List.map cel r0) true false 0))])
theorem n32_eq (a0 : TreeMod) : n32 a0 = bindB (if (4 < (↑a0.uses.length : Int) ∨ 8 < (↑a0.funs.length : Int)) ∨ 1 < (↑a0.main.length : Int) then some true else (n82 a0.uses).bind fun y0 => some !y0) fun y1 => if y1 = true then some false else l32_5 a0 0 0 [] := by
  rw [n32, fnO_code h32 rfl Go.Proofs.Tryz.func32 (c := cd32) rfl (a0, ()) rfl]
  simp (maxSteps := 60000000) (disch := first | (intros; rename_i h; cases h; done) | decide +kernel) only [evS, seS, List.map_replicate, Nat.reduceDiv, Nat.reduceMod, Nat.reduceEqDiff, reduceCtorEq, ↓reduceIte, Nat.reduceLT, Nat.reduceAdd, Nat.reduceMul, Nat.reduceSub, Nat.reduceLeDiff, Nat.reduceBEq, Int.reduceEq, Int.reduceNeg, Int.reduceToNat, Int.reduceLE, Int.reduceLT, cd32, Go.Proofs.Tryz.f32, h32.r, m32, lv_pl, pl32, c82, c83, c84, c85, c86, c87, c88, c89, lv32_12, lv32_5, l32_12, l32_5]
  all_goals try simp only [rnS, seS, Nat.reduceEqDiff, reduceCtorEq, ↓reduceIte, Nat.reduceAdd, Nat.reduceLeDiff, Nat.reduceBEq, Nat.reduceMul, lv32_12, lv32_5]
  all_goals try simp only [bindN_eq]
theorem l32_5_eq (a0 : TreeMod) (t4 : Int) (t37 : Int) (r1 : List ByteArray) : l32_5 a0 t4 t37 r1 = if t37 < (↑a0.funs.length : Int) then (getI a0.funs t37).bind fun y0 => if (r1.length + 1) * 16 ≤ 140737488355328 ∧ r1.length ≤ 140737488355327 then bindB (if 4 < (↑y0.args.length : Int) then some true else (n83 y0.args).bind fun y1 => (n82 y1).bind fun y2 => some !y2) fun y3 => bindB (if y3 = true then some true else (n84 y0.type).bind fun y4 => some !y4) fun y5 => bindB (if y5 = true then some true else n85 y0.args (Fv.mk (D.f 86 []))) fun y6 => if y6 = true then some false else l32_5 a0 t4 (IntKind.i64.wrap (t37 + 1)) (r1 ++ [y0.name]) else none else (n87 a0).bind fun y7 => l32_12 a0 t4 y7 (↑y7.length : Int) 0 r1 := by
  rw [l32_5]
  simp only [evRAt, locS, cd32, Go.Proofs.Tryz.f32]
  rw [evR_eq]
  simp (maxSteps := 60000000) (disch := first | (intros; rename_i h; cases h; done) | decide +kernel) only [evS, seS, List.map_replicate, Nat.reduceDiv, Nat.reduceMod, Nat.reduceEqDiff, reduceCtorEq, ↓reduceIte, Nat.reduceLT, Nat.reduceAdd, Nat.reduceMul, Nat.reduceSub, Nat.reduceLeDiff, Nat.reduceBEq, Int.reduceEq, Int.reduceNeg, Int.reduceToNat, Int.reduceLE, Int.reduceLT, cd32, Go.Proofs.Tryz.f32, h32.r, m32, lv_pl, pl32, c82, c83, c84, c85, c86, c87, c88, c89, lv32_12, lv32_5, l32_12, l32_5]
  all_goals try simp only [rnS, seS, Nat.reduceEqDiff, reduceCtorEq, ↓reduceIte, Nat.reduceAdd, Nat.reduceLeDiff, Nat.reduceBEq, Nat.reduceMul, lv32_12, lv32_5]
  all_goals try simp only [bindN_eq]
theorem l32_12_eq (a0 : TreeMod) (t4 : Int) (t70 : List TreeExpr) (t71 : Int) (t72 : Int) (r0 : List ByteArray) : l32_12 a0 t4 t70 t71 t72 r0 = if t72 < t71 then (getI t70 t72).bind fun y0 => (n88 y0).bind fun y1 => bindB (if 150 < IntKind.i64.wrap (t4 + y1.fst) then some true else (n89 y0).bind fun y2 => some !y2) fun y3 => if y3 = true then some false else l32_12 a0 (IntKind.i64.wrap (t4 + y1.fst)) t70 t71 (IntKind.i64.wrap (t72 + 1)) r0 else n82 r0 := by
  rw [l32_12]
  simp only [evRAt, locS, cd32, Go.Proofs.Tryz.f32]
  rw [evR_eq]
  simp (maxSteps := 60000000) (disch := first | (intros; rename_i h; cases h; done) | decide +kernel) only [evS, seS, List.map_replicate, Nat.reduceDiv, Nat.reduceMod, Nat.reduceEqDiff, reduceCtorEq, ↓reduceIte, Nat.reduceLT, Nat.reduceAdd, Nat.reduceMul, Nat.reduceSub, Nat.reduceLeDiff, Nat.reduceBEq, Int.reduceEq, Int.reduceNeg, Int.reduceToNat, Int.reduceLE, Int.reduceLT, cd32, Go.Proofs.Tryz.f32, h32.r, m32, lv_pl, pl32, c82, c83, c84, c85, c86, c87, c88, c89, lv32_12, lv32_5, l32_12, l32_5]
  all_goals try simp only [rnS, seS, Nat.reduceEqDiff, reduceCtorEq, ↓reduceIte, Nat.reduceAdd, Nat.reduceLeDiff, Nat.reduceBEq, Nat.reduceMul, lv32_12, lv32_5]
  all_goals try simp only [bindN_eq]
end Go.Fs.Se

set_option linter.unusedVariables false
set_option linter.unusedSimpArgs false
set_option maxRecDepth 40000
set_option maxHeartbeats 4000000
open Go.RowKit
namespace Go.Fs.Se
open Cel (cel unc)
open Dat (enc dec)
open Arg (ea da)
/-! loop.example/smithy/spec.l2Uses -/
noncomputable def l72_2 (a0 : (List ByteArray)) (t3 : Int) : Option (Bool) := evRAt (envOf M .x) (lvT 72) cd72 [true, false, true, false] (endK (β := Bool) M 72 .x Go.Proofs.Tryz.f72.results.toList) (stL 31 [(0, AV.d (D.l 1 (List.map cel a0))), (3, AV.d (D.i IntKind.i64 t3))] [])
noncomputable def l72_7 (a0 : (List ByteArray)) (t3 : Int) (t4 : Int) : Option (Bool) := evRAt (envOf M .x) (lvT 72) cd72 [true, false, true, false, false, true, false, false, true, true, false] (endK (β := Bool) M 72 .x Go.Proofs.Tryz.f72.results.toList) (stL 31 [(0, AV.d (D.l 1 (List.map cel a0))), (3, AV.d (D.i IntKind.i64 t3)), (4, AV.d (D.i IntKind.i64 t4))] [])
theorem n72_eq (a0 : (List ByteArray)) : n72 a0 = l72_2 a0 0 := by
  rw [n72, fnO_code h72 rfl Go.Proofs.Tryz.func72 (c := cd72) rfl (a0, ()) rfl]
  simp (maxSteps := 60000000) (disch := first | (intros; rename_i h; cases h; done) | decide +kernel) only [evS, seS, List.map_replicate, Nat.reduceDiv, Nat.reduceMod, Nat.reduceEqDiff, reduceCtorEq, ↓reduceIte, Nat.reduceLT, Nat.reduceAdd, Nat.reduceMul, Nat.reduceSub, Nat.reduceLeDiff, Nat.reduceBEq, Int.reduceEq, Int.reduceNeg, Int.reduceToNat, Int.reduceLE, Int.reduceLT, cd72, Go.Proofs.Tryz.f72, h72.r, m72, lv_pl, pl72, c130, lv72_7, lv72_2, l72_2, l72_7]
  all_goals try simp only [rnS, seS, Nat.reduceEqDiff, reduceCtorEq, ↓reduceIte, Nat.reduceAdd, Nat.reduceLeDiff, Nat.reduceBEq, Nat.reduceMul, lv72_7, lv72_2]
theorem l72_2_eq (a0 : (List ByteArray)) (t3 : Int) : l72_2 a0 t3 = if t3 < (↑a0.length : Int) then (getI a0 t3).bind fun y0 => (n130 y0).bind fun y1 => if y1 = false then some false else l72_7 a0 t3 0 else some true := by
  rw [l72_2]
  simp only [evRAt, locS, cd72, Go.Proofs.Tryz.f72]
  rw [evR_eq]
  simp (maxSteps := 60000000) (disch := first | (intros; rename_i h; cases h; done) | decide +kernel) only [evS, seS, List.map_replicate, Nat.reduceDiv, Nat.reduceMod, Nat.reduceEqDiff, reduceCtorEq, ↓reduceIte, Nat.reduceLT, Nat.reduceAdd, Nat.reduceMul, Nat.reduceSub, Nat.reduceLeDiff, Nat.reduceBEq, Int.reduceEq, Int.reduceNeg, Int.reduceToNat, Int.reduceLE, Int.reduceLT, cd72, Go.Proofs.Tryz.f72, h72.r, m72, lv_pl, pl72, c130, lv72_7, lv72_2, l72_2, l72_7]
  all_goals try simp only [rnS, seS, Nat.reduceEqDiff, reduceCtorEq, ↓reduceIte, Nat.reduceAdd, Nat.reduceLeDiff, Nat.reduceBEq, Nat.reduceMul, lv72_7, lv72_2]
  all_goals try simp only [bindN_eq]
theorem l72_7_eq (a0 : (List ByteArray)) (t3 : Int) (t4 : Int) : l72_7 a0 t3 t4 = if t4 < t3 then (getI a0 t4).bind fun y0 => (getI a0 t3).bind fun y1 => if y0 = y1 then some false else l72_7 a0 t3 (IntKind.i64.wrap (t4 + 1)) else l72_2 a0 (IntKind.i64.wrap (t3 + 1)) := by
  rw [l72_7]
  simp only [evRAt, locS, cd72, Go.Proofs.Tryz.f72]
  rw [evR_eq]
  simp (maxSteps := 60000000) (disch := first | (intros; rename_i h; cases h; done) | decide +kernel) only [evS, seS, List.map_replicate, Nat.reduceDiv, Nat.reduceMod, Nat.reduceEqDiff, reduceCtorEq, ↓reduceIte, Nat.reduceLT, Nat.reduceAdd, Nat.reduceMul, Nat.reduceSub, Nat.reduceLeDiff, Nat.reduceBEq, Int.reduceEq, Int.reduceNeg, Int.reduceToNat, Int.reduceLE, Int.reduceLT, cd72, Go.Proofs.Tryz.f72, h72.r, m72, lv_pl, pl72, c130, lv72_7, lv72_2, l72_2, l72_7]
  all_goals try simp only [rnS, seS, Nat.reduceEqDiff, reduceCtorEq, ↓reduceIte, Nat.reduceAdd, Nat.reduceLeDiff, Nat.reduceBEq, Nat.reduceMul, lv72_7, lv72_2]
  all_goals try simp only [bindN_eq]
end Go.Fs.Se

set_option linter.unusedVariables false
set_option linter.unusedSimpArgs false
set_option maxRecDepth 40000
set_option maxHeartbeats 4000000
open Go.RowKit
namespace Go.Fs.Se
open Cel (cel unc)
open Dat (enc dec)
open Arg (ea da)
/-! loop.example/smithy/spec.l2Size -/
noncomputable def l73_3 (a0 : TreeMod) (t3 : Int) (t4 : Int) : Option (Bool) := evRAt (envOf M .x) (lvT 73) cd73 [true, true, false, true, false] (endK (β := Bool) M 73 .x Go.Proofs.Tryz.f73.results.toList) (stL 54 [(1, AV.a 500000 0), (3, AV.d (D.i IntKind.i64 t3)), (4, AV.d (D.i IntKind.i64 t4))] [(500000, some (Ob.box [AV.d (D.l 1 (List.map cel a0.uses)), AV.d (D.l 9 (List.map cel a0.funs)), AV.d (D.l 5 (List.map cel a0.main))]))])
theorem n73_eq (a0 : TreeMod) : n73 a0 = l73_3 a0 0 0 := by
  rw [n73, fnO_code h73 rfl Go.Proofs.Tryz.func73 (c := cd73) rfl (a0, ()) rfl]
  simp (maxSteps := 60000000) (disch := first | (intros; rename_i h; cases h; done) | decide +kernel) only [evS, seS, List.map_replicate, Nat.reduceDiv, Nat.reduceMod, Nat.reduceEqDiff, reduceCtorEq, ↓reduceIte, Nat.reduceLT, Nat.reduceAdd, Nat.reduceMul, Nat.reduceSub, Nat.reduceLeDiff, Nat.reduceBEq, Int.reduceEq, Int.reduceNeg, Int.reduceToNat, Int.reduceLE, Int.reduceLT, cd73, Go.Proofs.Tryz.f73, h73.r, m73, lv_pl, pl73, c101, lv73_3, l73_3]
  all_goals try simp only [rnS, seS, Nat.reduceEqDiff, reduceCtorEq, ↓reduceIte, Nat.reduceAdd, Nat.reduceLeDiff, Nat.reduceBEq, Nat.reduceMul, lv73_3]
theorem l73_3_eq (a0 : TreeMod) (t3 : Int) (t4 : Int) : l73_3 a0 t3 t4 = if t4 < IntKind.i64.wrap ((↑a0.funs.length : Int) + (↑a0.main.length : Int)) then if t4 < (↑a0.funs.length : Int) then (getI a0.funs t4).bind fun y0 => (n101 y0.body).bind fun y1 => if 150 < IntKind.i64.wrap (t3 + y1.fst) ∨ 16 < y1.snd then some false else l73_3 a0 (IntKind.i64.wrap (t3 + y1.fst)) (IntKind.i64.wrap (t4 + 1)) else (getI a0.main (IntKind.i64.wrap (t4 - (↑a0.funs.length : Int)))).bind fun y2 => (n101 y2).bind fun y3 => if 150 < IntKind.i64.wrap (t3 + y3.fst) ∨ 16 < y3.snd then some false else l73_3 a0 (IntKind.i64.wrap (t3 + y3.fst)) (IntKind.i64.wrap (t4 + 1)) else some true := by
  rw [l73_3]
  simp only [evRAt, locS, cd73, Go.Proofs.Tryz.f73]
  rw [evR_eq]
  simp (maxSteps := 60000000) (disch := first | (intros; rename_i h; cases h; done) | decide +kernel) only [evS, seS, List.map_replicate, Nat.reduceDiv, Nat.reduceMod, Nat.reduceEqDiff, reduceCtorEq, ↓reduceIte, Nat.reduceLT, Nat.reduceAdd, Nat.reduceMul, Nat.reduceSub, Nat.reduceLeDiff, Nat.reduceBEq, Int.reduceEq, Int.reduceNeg, Int.reduceToNat, Int.reduceLE, Int.reduceLT, cd73, Go.Proofs.Tryz.f73, h73.r, m73, lv_pl, pl73, c101, lv73_3, l73_3]
  all_goals try simp only [rnS, seS, Nat.reduceEqDiff, reduceCtorEq, ↓reduceIte, Nat.reduceAdd, Nat.reduceLeDiff, Nat.reduceBEq, Nat.reduceMul, lv73_3]
  all_goals try simp only [bindN_eq]
end Go.Fs.Se

set_option linter.unusedVariables false
set_option linter.unusedSimpArgs false
set_option maxRecDepth 40000
set_option maxHeartbeats 4000000
open Go.RowKit
namespace Go.Fs.Se
open Cel (cel unc)
open Dat (enc dec)
open Arg (ea da)
/-! loop.example/smithy/spec.l2Fun -/
noncomputable def l74_4 (a0 : TreeFun) (t3 : Int) : Option (Bool) := evRAt (envOf M .x) (lvT 74) cd74 [true, true, false, true, false] (endK (β := Bool) M 74 .x Go.Proofs.Tryz.f74.results.toList) (stL 70 [(1, AV.a 500000 0), (3, AV.d (D.i IntKind.i64 t3))] [(500000, some (Ob.box [AV.d (D.s a0.name), AV.d (D.b a0.pub), AV.d (D.l 2 (List.map cel a0.args)), AV.d (D.i IntKind.i64 a0.type), AV.d (D.i IntKind.i64 a0.body.kind), AV.d (D.i IntKind.i64 a0.body.num), AV.d (D.s a0.body.name), AV.d (D.s a0.body.mod), AV.d (D.l 5 (List.map cel a0.body.kids))]))])
noncomputable def l74_9 (a0 : TreeFun) (t3 : Int) (t4 : Int) : Option (Bool) := evRAt (envOf M .x) (lvT 74) cd74 [true, true, false, true, false, false, true, false, false, true, true, false] (endK (β := Bool) M 74 .x Go.Proofs.Tryz.f74.results.toList) (stL 70 [(1, AV.a 500000 0), (3, AV.d (D.i IntKind.i64 t3)), (4, AV.d (D.i IntKind.i64 t4))] [(500000, some (Ob.box [AV.d (D.s a0.name), AV.d (D.b a0.pub), AV.d (D.l 2 (List.map cel a0.args)), AV.d (D.i IntKind.i64 a0.type), AV.d (D.i IntKind.i64 a0.body.kind), AV.d (D.i IntKind.i64 a0.body.num), AV.d (D.s a0.body.name), AV.d (D.s a0.body.mod), AV.d (D.l 5 (List.map cel a0.body.kids))]))])
theorem n74_eq (a0 : TreeFun) : n74 a0 = (n130 a0.name).bind fun y0 => bindB (if y0 = false ∨ 4 < (↑a0.args.length : Int) then some true else (n131 a0.type).bind fun y1 => some (decide (y1 = ByteArray.mk #[]))) fun y2 => bindB (if y2 = true then some true else (n75 a0.body).bind fun y3 => some !y3) fun y4 => if y4 = true then some false else l74_4 a0 0 := by
  rw [n74, fnO_code h74 rfl Go.Proofs.Tryz.func74 (c := cd74) rfl (a0, ()) rfl]
  simp (maxSteps := 60000000) (disch := first | (intros; rename_i h; cases h; done) | decide +kernel) only [evS, seS, List.map_replicate, Nat.reduceDiv, Nat.reduceMod, Nat.reduceEqDiff, reduceCtorEq, ↓reduceIte, Nat.reduceLT, Nat.reduceAdd, Nat.reduceMul, Nat.reduceSub, Nat.reduceLeDiff, Nat.reduceBEq, Int.reduceEq, Int.reduceNeg, Int.reduceToNat, Int.reduceLE, Int.reduceLT, cd74, Go.Proofs.Tryz.f74, h74.r, m74, lv_pl, pl74, c75, c130, c131, lv74_9, lv74_4, l74_4, l74_9]
  all_goals try simp only [rnS, seS, Nat.reduceEqDiff, reduceCtorEq, ↓reduceIte, Nat.reduceAdd, Nat.reduceLeDiff, Nat.reduceBEq, Nat.reduceMul, lv74_9, lv74_4]
  all_goals try simp only [bindN_eq]
theorem l74_4_eq (a0 : TreeFun) (t3 : Int) : l74_4 a0 t3 = if t3 < (↑a0.args.length : Int) then bindB ((getI a0.args t3).bind fun y0 => (n130 y0.name).bind fun y1 => if y1 = false then some true else (getI a0.args t3).bind fun y2 => (n131 y2.type).bind fun y3 => some (decide (y3 = ByteArray.mk #[]))) fun y4 => if y4 = true then some false else l74_9 a0 t3 0 else some true := by
  rw [l74_4]
  simp only [evRAt, locS, cd74, Go.Proofs.Tryz.f74]
  rw [evR_eq]
  simp (maxSteps := 60000000) (disch := first | (intros; rename_i h; cases h; done) | decide +kernel) only [evS, seS, List.map_replicate, Nat.reduceDiv, Nat.reduceMod, Nat.reduceEqDiff, reduceCtorEq, ↓reduceIte, Nat.reduceLT, Nat.reduceAdd, Nat.reduceMul, Nat.reduceSub, Nat.reduceLeDiff, Nat.reduceBEq, Int.reduceEq, Int.reduceNeg, Int.reduceToNat, Int.reduceLE, Int.reduceLT, cd74, Go.Proofs.Tryz.f74, h74.r, m74, lv_pl, pl74, c75, c130, c131, lv74_9, lv74_4, l74_4, l74_9]
  all_goals try simp only [rnS, seS, Nat.reduceEqDiff, reduceCtorEq, ↓reduceIte, Nat.reduceAdd, Nat.reduceLeDiff, Nat.reduceBEq, Nat.reduceMul, lv74_9, lv74_4]
  all_goals try simp only [bindN_eq]
theorem l74_9_eq (a0 : TreeFun) (t3 : Int) (t4 : Int) : l74_9 a0 t3 t4 = if t4 < t3 then (getI a0.args t4).bind fun y0 => (getI a0.args t3).bind fun y1 => if y0.name = y1.name then some false else l74_9 a0 t3 (IntKind.i64.wrap (t4 + 1)) else l74_4 a0 (IntKind.i64.wrap (t3 + 1)) := by
  rw [l74_9]
  simp only [evRAt, locS, cd74, Go.Proofs.Tryz.f74]
  rw [evR_eq]
  simp (maxSteps := 60000000) (disch := first | (intros; rename_i h; cases h; done) | decide +kernel) only [evS, seS, List.map_replicate, Nat.reduceDiv, Nat.reduceMod, Nat.reduceEqDiff, reduceCtorEq, ↓reduceIte, Nat.reduceLT, Nat.reduceAdd, Nat.reduceMul, Nat.reduceSub, Nat.reduceLeDiff, Nat.reduceBEq, Int.reduceEq, Int.reduceNeg, Int.reduceToNat, Int.reduceLE, Int.reduceLT, cd74, Go.Proofs.Tryz.f74, h74.r, m74, lv_pl, pl74, c75, c130, c131, lv74_9, lv74_4, l74_4, l74_9]
  all_goals try simp only [rnS, seS, Nat.reduceEqDiff, reduceCtorEq, ↓reduceIte, Nat.reduceAdd, Nat.reduceLeDiff, Nat.reduceBEq, Nat.reduceMul, lv74_9, lv74_4]
  all_goals try simp only [bindN_eq]
end Go.Fs.Se

set_option linter.unusedVariables false
set_option linter.unusedSimpArgs false
set_option maxRecDepth 40000
set_option maxHeartbeats 4000000
open Go.RowKit
namespace Go.Fs.Se
open Cel (cel unc)
open Dat (enc dec)
open Arg (ea da)
/-! loop.example/smithy/impl.areNames -/
noncomputable def l82_2 (a0 : (List ByteArray)) (t7 : Int) : Option (Bool) := evRAt (envOf M .x) (lvT 82) cd82 [true, false, true, false] (endK (β := Bool) M 82 .x Go.Proofs.Tryz.f82.results.toList) (stL 23 [(0, AV.d (D.l 1 (List.map cel a0))), (5, AV.d (D.l 1 (List.map cel a0))), (6, AV.d (D.i IntKind.i64 (↑a0.length : Int))), (7, AV.d (D.i IntKind.i64 t7))] [])
theorem n82_eq (a0 : (List ByteArray)) : n82 a0 = l82_2 a0 0 := by
  rw [n82, fnO_code h82 rfl Go.Proofs.Tryz.func82 (c := cd82) rfl (a0, ()) rfl]
  simp (maxSteps := 60000000) (disch := first | (intros; rename_i h; cases h; done) | decide +kernel) only [evS, seS, List.map_replicate, Nat.reduceDiv, Nat.reduceMod, Nat.reduceEqDiff, reduceCtorEq, ↓reduceIte, Nat.reduceLT, Nat.reduceAdd, Nat.reduceMul, Nat.reduceSub, Nat.reduceLeDiff, Nat.reduceBEq, Int.reduceEq, Int.reduceNeg, Int.reduceToNat, Int.reduceLE, Int.reduceLT, cd82, Go.Proofs.Tryz.f82, h82.r, m82, lv_pl, pl82, c117, c140, lv82_2, l82_2]
  all_goals try simp only [rnS, seS, Nat.reduceEqDiff, reduceCtorEq, ↓reduceIte, Nat.reduceAdd, Nat.reduceLeDiff, Nat.reduceBEq, Nat.reduceMul, lv82_2]
theorem l82_2_eq (a0 : (List ByteArray)) (t7 : Int) : l82_2 a0 t7 = if t7 < (↑a0.length : Int) then (getI a0 t7).bind fun y0 => bindB ((n140 y0).bind fun y1 => if y1 = false then some true else if 0 ≤ t7 then if 0 ≤ t7.toNat ∧ t7.toNat ≤ a0.length then n117 (List.take (t7.toNat - 0) a0) y0 else none else none) fun y2 => if y2 = true then some false else l82_2 a0 (IntKind.i64.wrap (t7 + 1)) else some true := by
  rw [l82_2]
  simp only [evRAt, locS, cd82, Go.Proofs.Tryz.f82]
  rw [evR_eq]
  simp (maxSteps := 60000000) (disch := first | (intros; rename_i h; cases h; done) | decide +kernel) only [evS, seS, List.map_replicate, Nat.reduceDiv, Nat.reduceMod, Nat.reduceEqDiff, reduceCtorEq, ↓reduceIte, Nat.reduceLT, Nat.reduceAdd, Nat.reduceMul, Nat.reduceSub, Nat.reduceLeDiff, Nat.reduceBEq, Int.reduceEq, Int.reduceNeg, Int.reduceToNat, Int.reduceLE, Int.reduceLT, cd82, Go.Proofs.Tryz.f82, h82.r, m82, lv_pl, pl82, c117, c140, lv82_2, l82_2]
  all_goals try simp only [rnS, seS, Nat.reduceEqDiff, reduceCtorEq, ↓reduceIte, Nat.reduceAdd, Nat.reduceLeDiff, Nat.reduceBEq, Nat.reduceMul, lv82_2]
  all_goals try simp only [bindN_eq]
end Go.Fs.Se

set_option linter.unusedVariables false
set_option linter.unusedSimpArgs false
set_option maxRecDepth 40000
set_option maxHeartbeats 4000000
open Go.RowKit
namespace Go.Fs.Se
open Cel (cel unc)
open Dat (enc dec)
open Arg (ea da)
/-! loop.example/smithy/impl.argNames -/
noncomputable def l83_3 (a0 : (List TreeArg)) (t9 : Int) (r0 : List ByteArray) : Option ((List ByteArray)) := evRAt (envOf M .x) (lvT 83) cd83 [true, true, false, true, false] (endK (β := (List ByteArray)) M 83 .x Go.Proofs.Tryz.f83.results.toList) (stL 20 [(3, AV.r 500000), (7, AV.d (D.l 2 (List.map cel a0))), (8, AV.d (D.i IntKind.i64 (↑a0.length : Int))), (9, AV.d (D.i IntKind.i64 t9))] [(500000, some (Ob.row 1 (List.map cel r0) true false 0))])
theorem n83_eq (a0 : (List TreeArg)) : n83 a0 = l83_3 a0 0 [] := by
  rw [n83, fnO_code h83 rfl Go.Proofs.Tryz.func83 (c := cd83) rfl (a0, ()) rfl]
  simp (maxSteps := 60000000) (disch := first | (intros; rename_i h; cases h; done) | decide +kernel) only [evS, seS, List.map_replicate, Nat.reduceDiv, Nat.reduceMod, Nat.reduceEqDiff, reduceCtorEq, ↓reduceIte, Nat.reduceLT, Nat.reduceAdd, Nat.reduceMul, Nat.reduceSub, Nat.reduceLeDiff, Nat.reduceBEq, Int.reduceEq, Int.reduceNeg, Int.reduceToNat, Int.reduceLE, Int.reduceLT, cd83, Go.Proofs.Tryz.f83, h83.r, m83, lv_pl, pl83, lv83_3, l83_3]
  all_goals try simp only [rnS, seS, Nat.reduceEqDiff, reduceCtorEq, ↓reduceIte, Nat.reduceAdd, Nat.reduceLeDiff, Nat.reduceBEq, Nat.reduceMul, lv83_3]
theorem l83_3_eq (a0 : (List TreeArg)) (t9 : Int) (r0 : List ByteArray) : l83_3 a0 t9 r0 = if t9 < (↑a0.length : Int) then (getI a0 t9).bind fun y0 => if (r0.length + 1) * 16 ≤ 140737488355328 ∧ r0.length ≤ 140737488355327 then l83_3 a0 (IntKind.i64.wrap (t9 + 1)) (r0 ++ [y0.name]) else none else some r0 := by
  rw [l83_3]
  simp only [evRAt, locS, cd83, Go.Proofs.Tryz.f83]
  rw [evR_eq]
  simp (maxSteps := 60000000) (disch := first | (intros; rename_i h; cases h; done) | decide +kernel) only [evS, seS, List.map_replicate, Nat.reduceDiv, Nat.reduceMod, Nat.reduceEqDiff, reduceCtorEq, ↓reduceIte, Nat.reduceLT, Nat.reduceAdd, Nat.reduceMul, Nat.reduceSub, Nat.reduceLeDiff, Nat.reduceBEq, Int.reduceEq, Int.reduceNeg, Int.reduceToNat, Int.reduceLE, Int.reduceLT, cd83, Go.Proofs.Tryz.f83, h83.r, m83, lv_pl, pl83, lv83_3, l83_3]
  all_goals try simp only [rnS, seS, Nat.reduceEqDiff, reduceCtorEq, ↓reduceIte, Nat.reduceAdd, Nat.reduceLeDiff, Nat.reduceBEq, Nat.reduceMul, lv83_3]
  all_goals try simp only [bindN_eq]
end Go.Fs.Se

set_option linter.unusedVariables false
set_option linter.unusedSimpArgs false
set_option maxRecDepth 40000
set_option maxHeartbeats 4000000
open Go.RowKit
namespace Go.Fs.Se
open Cel (cel unc)
open Dat (enc dec)
open Arg (ea da)
/-! loop.example/smithy/impl.isType -/
theorem n84_eq (a0 : Int) : n84 a0 = n118 a0 1 3 := by
  rw [n84, fnO_code h84 rfl Go.Proofs.Tryz.func84 (c := cd84) rfl (a0, ()) rfl]
  simp (maxSteps := 60000000) (disch := first | (intros; rename_i h; cases h; done) | decide +kernel) only [evS, seS, List.map_replicate, Nat.reduceDiv, Nat.reduceMod, Nat.reduceEqDiff, reduceCtorEq, ↓reduceIte, Nat.reduceLT, Nat.reduceAdd, Nat.reduceMul, Nat.reduceSub, Nat.reduceLeDiff, Nat.reduceBEq, Int.reduceEq, Int.reduceNeg, Int.reduceToNat, Int.reduceLE, Int.reduceLT, cd84, Go.Proofs.Tryz.f84, h84.r, m84, lv_pl, pl84, c118]
end Go.Fs.Se

set_option linter.unusedVariables false
set_option linter.unusedSimpArgs false
set_option maxRecDepth 40000
set_option maxHeartbeats 4000000
open Go.RowKit
namespace Go.Fs.Se
open Cel (cel unc)
open Dat (enc dec)
open Arg (ea da)
/-! slices.ContainsFunc[[]loop.example/smithy/impl.TreeArg,loop.example/smithy/impl.TreeArg] -/
theorem n85_86_eq (a0 : (List TreeArg)) : n85 a0 (Fv.mk (D.f 86 [])) = (n141 a0 (Fv.mk (D.f 86 []))).bind fun y0 => some (decide (0 ≤ y0)) := by
  rw [n85, fnO_code h85 rfl Go.Proofs.Tryz.func85 (c := cd85) rfl (a0, (Fv.mk (D.f 86 [])), ()) rfl]
  simp (maxSteps := 60000000) (disch := first | (intros; rename_i h; cases h; done) | decide +kernel) only [evS, seS, List.map_replicate, Nat.reduceDiv, Nat.reduceMod, Nat.reduceEqDiff, reduceCtorEq, ↓reduceIte, Nat.reduceLT, Nat.reduceAdd, Nat.reduceMul, Nat.reduceSub, Nat.reduceLeDiff, Nat.reduceBEq, Int.reduceEq, Int.reduceNeg, Int.reduceToNat, Int.reduceLE, Int.reduceLT, cd85, Go.Proofs.Tryz.f85, h85.r, m85, lv_pl, pl85, c141, c86]
  all_goals try simp only [bindN_eq]
end Go.Fs.Se

set_option linter.unusedVariables false
set_option linter.unusedSimpArgs false
set_option maxRecDepth 40000
set_option maxHeartbeats 4000000
open Go.RowKit
namespace Go.Fs.Se
open Cel (cel unc)
open Dat (enc dec)
open Arg (ea da)
/-! slices.IndexFunc[[]loop.example/smithy/impl.TreeArg,loop.example/smithy/impl.TreeArg] -/
noncomputable def l141_86_2 (a0 : (List TreeArg)) (t8 : Int) : Option (Int) := evRAt (envOf M .x) (lvT 141) cd141 [true, false, true, false] (endK (β := Int) M 141 .x Go.Proofs.Tryz.f141.results.toList) (stL 19 [(0, AV.d (D.l 2 (List.map cel a0))), (1, AV.d (D.f 86 [])), (7, AV.d (D.i IntKind.i64 (↑a0.length : Int))), (8, AV.d (D.i IntKind.i64 t8))] [])
theorem n141_86_eq (a0 : (List TreeArg)) : n141 a0 (Fv.mk (D.f 86 [])) = l141_86_2 a0 0 := by
  rw [n141, fnO_code h141 rfl Go.Proofs.Tryz.func141 (c := cd141) rfl (a0, (Fv.mk (D.f 86 [])), ()) rfl]
  simp (maxSteps := 60000000) (disch := first | (intros; rename_i h; cases h; done) | decide +kernel) only [evS, seS, List.map_replicate, Nat.reduceDiv, Nat.reduceMod, Nat.reduceEqDiff, reduceCtorEq, ↓reduceIte, Nat.reduceLT, Nat.reduceAdd, Nat.reduceMul, Nat.reduceSub, Nat.reduceLeDiff, Nat.reduceBEq, Int.reduceEq, Int.reduceNeg, Int.reduceToNat, Int.reduceLE, Int.reduceLT, cd141, Go.Proofs.Tryz.f141, h141.r, m141, lv_pl, pl141, c86, lv141_2, l141_86_2]
  all_goals try simp only [rnS, seS, Nat.reduceEqDiff, reduceCtorEq, ↓reduceIte, Nat.reduceAdd, Nat.reduceLeDiff, Nat.reduceBEq, Nat.reduceMul, lv141_2]
theorem l141_86_2_eq (a0 : (List TreeArg)) (t8 : Int) : l141_86_2 a0 t8 = if t8 < (↑a0.length : Int) then (getI a0 t8).bind fun y0 => (n86 y0).bind fun y1 => if y1 = true then some t8 else l141_86_2 a0 (IntKind.i64.wrap (t8 + 1)) else some (-1) := by
  rw [l141_86_2]
  simp only [evRAt, locS, cd141, Go.Proofs.Tryz.f141]
  rw [evR_eq]
  simp (maxSteps := 60000000) (disch := first | (intros; rename_i h; cases h; done) | decide +kernel) only [evS, seS, List.map_replicate, Nat.reduceDiv, Nat.reduceMod, Nat.reduceEqDiff, reduceCtorEq, ↓reduceIte, Nat.reduceLT, Nat.reduceAdd, Nat.reduceMul, Nat.reduceSub, Nat.reduceLeDiff, Nat.reduceBEq, Int.reduceEq, Int.reduceNeg, Int.reduceToNat, Int.reduceLE, Int.reduceLT, cd141, Go.Proofs.Tryz.f141, h141.r, m141, lv_pl, pl141, c86, lv141_2, l141_86_2]
  all_goals try simp only [rnS, seS, Nat.reduceEqDiff, reduceCtorEq, ↓reduceIte, Nat.reduceAdd, Nat.reduceLeDiff, Nat.reduceBEq, Nat.reduceMul, lv141_2]
  all_goals try simp only [bindN_eq]
end Go.Fs.Se

set_option linter.unusedVariables false
set_option linter.unusedSimpArgs false
set_option maxRecDepth 40000
set_option maxHeartbeats 4000000
open Go.RowKit
namespace Go.Fs.Se
open Cel (cel unc)
open Dat (enc dec)
open Arg (ea da)
/-! loop.example/smithy/impl.TreeOk$1 -/
theorem n86_eq (a0 : TreeArg) : n86 a0 = (n84 a0.type).bind fun y0 => some !y0 := by
  rw [n86, fnO_code h86 rfl Go.Proofs.Tryz.func86 (c := cd86) rfl (a0, ()) rfl]
  simp (maxSteps := 60000000) (disch := first | (intros; rename_i h; cases h; done) | decide +kernel) only [evS, seS, List.map_replicate, Nat.reduceDiv, Nat.reduceMod, Nat.reduceEqDiff, reduceCtorEq, ↓reduceIte, Nat.reduceLT, Nat.reduceAdd, Nat.reduceMul, Nat.reduceSub, Nat.reduceLeDiff, Nat.reduceBEq, Int.reduceEq, Int.reduceNeg, Int.reduceToNat, Int.reduceLE, Int.reduceLT, cd86, Go.Proofs.Tryz.f86, h86.r, m86, lv_pl, pl86, c84]
  all_goals try simp only [bindN_eq]
end Go.Fs.Se

set_option linter.unusedVariables false
set_option linter.unusedSimpArgs false
set_option maxRecDepth 40000
set_option maxHeartbeats 4000000
open Go.RowKit
namespace Go.Fs.Se
open Cel (cel unc)
open Dat (enc dec)
open Arg (ea da)
/-! (loop.example/smithy/impl.TreeMod).bodies -/
noncomputable def l87_3 (a0 : TreeMod) (t10 : Int) (r1 : List TreeExpr) (r1d : Bool) : Option ((List TreeExpr)) := evRAt (envOf M .x) (lvT 87) cd87 [true, true, false, true, false] (endK (β := (List TreeExpr)) M 87 .x Go.Proofs.Tryz.f87.results.toList) (stL 24 [(1, AV.a 500000 0), (3, AV.r 500001), (8, AV.d (D.l 9 (List.map cel a0.funs))), (9, AV.d (D.i IntKind.i64 (↑a0.funs.length : Int))), (10, AV.d (D.i IntKind.i64 t10))] [(500000, some (Ob.box [AV.d (D.l 1 (List.map cel a0.uses)), AV.d (D.l 9 (List.map cel a0.funs)), AV.d (D.l 5 (List.map cel a0.main))])), (500001, some (Ob.row 5 (List.map cel r1) r1d false 0))])
theorem n87_eq (a0 : TreeMod) : n87 a0 = l87_3 a0 0 [] true := by
  rw [n87, fnO_code h87 rfl Go.Proofs.Tryz.func87 (c := cd87) rfl (a0, ()) rfl]
  simp (maxSteps := 60000000) (disch := first | (intros; rename_i h; cases h; done) | decide +kernel) only [evS, seS, List.map_replicate, Nat.reduceDiv, Nat.reduceMod, Nat.reduceEqDiff, reduceCtorEq, ↓reduceIte, Nat.reduceLT, Nat.reduceAdd, Nat.reduceMul, Nat.reduceSub, Nat.reduceLeDiff, Nat.reduceBEq, Int.reduceEq, Int.reduceNeg, Int.reduceToNat, Int.reduceLE, Int.reduceLT, cd87, Go.Proofs.Tryz.f87, h87.r, m87, lv_pl, pl87, lv87_3, l87_3]
  all_goals try simp only [rnS, seS, Nat.reduceEqDiff, reduceCtorEq, ↓reduceIte, Nat.reduceAdd, Nat.reduceLeDiff, Nat.reduceBEq, Nat.reduceMul, lv87_3]
theorem l87_3_eq (a0 : TreeMod) (t10 : Int) (r1 : List TreeExpr) (r1d : Bool) : l87_3 a0 t10 r1 r1d = if t10 < (↑a0.funs.length : Int) then (getI a0.funs t10).bind fun y0 => if (r1.length + 1) * 72 ≤ 140737488355328 ∧ r1.length ≤ 140737488355327 then l87_3 a0 (IntKind.i64.wrap (t10 + 1)) (r1 ++ [y0.body]) false else none else if (r1.length + a0.main.length) * 72 ≤ 140737488355328 ∧ r1.length + a0.main.length ≤ 140737488355328 then some (r1 ++ a0.main) else none := by
  rw [l87_3]
  simp only [evRAt, locS, cd87, Go.Proofs.Tryz.f87]
  rw [evR_eq]
  simp (maxSteps := 60000000) (disch := first | (intros; rename_i h; cases h; done) | decide +kernel) only [evS, seS, List.map_replicate, Nat.reduceDiv, Nat.reduceMod, Nat.reduceEqDiff, reduceCtorEq, ↓reduceIte, Nat.reduceLT, Nat.reduceAdd, Nat.reduceMul, Nat.reduceSub, Nat.reduceLeDiff, Nat.reduceBEq, Int.reduceEq, Int.reduceNeg, Int.reduceToNat, Int.reduceLE, Int.reduceLT, cd87, Go.Proofs.Tryz.f87, h87.r, m87, lv_pl, pl87, lv87_3, l87_3]
  all_goals try simp only [rnS, seS, Nat.reduceEqDiff, reduceCtorEq, ↓reduceIte, Nat.reduceAdd, Nat.reduceLeDiff, Nat.reduceBEq, Nat.reduceMul, lv87_3]
  all_goals try simp only [bindN_eq]
end Go.Fs.Se

set_option linter.unusedVariables false
set_option linter.unusedSimpArgs false
set_option maxRecDepth 40000
set_option maxHeartbeats 4000000
open Go.RowKit
namespace Go.Fs.Se
open Cel (cel unc)
open Dat (enc dec)
open Arg (ea da)
/-! loop.example/smithy/spec.TreeType -/
theorem n131_eq (a0 : Int) : n131 a0 = if a0 < 1 ∨ 3 < a0 then some (ByteArray.mk #[]) else (getI [ByteArray.mk #[105, 110, 116], ByteArray.mk #[98, 111, 111, 108], ByteArray.mk #[114, 111, 119]] (IntKind.i64.wrap (a0 - 1))).bind fun y0 => [ByteArray.mk #[105, 110, 116], ByteArray.mk #[98, 111, 111, 108], ByteArray.mk #[114, 111, 119]][(IntKind.i64.wrap (a0 - 1)).toNat]? := by
  rw [n131, fnO_code h131 rfl Go.Proofs.Tryz.func131 (c := cd131) rfl (a0, ()) rfl]
  simp (maxSteps := 60000000) (disch := first | (intros; rename_i h; cases h; done) | decide +kernel) only [evS, seS, List.map_replicate, Nat.reduceDiv, Nat.reduceMod, Nat.reduceEqDiff, reduceCtorEq, ↓reduceIte, Nat.reduceLT, Nat.reduceAdd, Nat.reduceMul, Nat.reduceSub, Nat.reduceLeDiff, Nat.reduceBEq, Int.reduceEq, Int.reduceNeg, Int.reduceToNat, Int.reduceLE, Int.reduceLT, cd131, Go.Proofs.Tryz.f131, h131.r, m131, lv_pl, pl131]
  all_goals try simp only [bindN_eq]
end Go.Fs.Se

set_option linter.unusedVariables false
set_option linter.unusedSimpArgs false
set_option maxRecDepth 40000
set_option maxHeartbeats 4000000
open Go.RowKit
namespace Go.Fs.Se
open Cel (cel unc)
open Dat (enc dec)
open Arg (ea da)
/-! loop.example/smithy/laws.markText -/
noncomputable def l93_4 (a0 : Int) (t0 : Int) (t3 : ByteArray) : Option (ByteArray) := evRAt (envOf M .x) (lvT 93) cd93 [true, true, true, false, false] (endK (β := ByteArray) M 93 .x Go.Proofs.Tryz.f93.results.toList) (stL 20 [(0, AV.d (D.i IntKind.i64 t0)), (3, AV.d (D.s t3))] [])
theorem n93_eq (a0 : Int) : n93 a0 = if a0 ≤ 0 then some (ByteArray.mk #[109, 48]) else l93_4 a0 a0 (ByteArray.mk #[]) := by
  rw [n93, fnO_code h93 rfl Go.Proofs.Tryz.func93 (c := cd93) rfl (a0, ()) rfl]
  simp (maxSteps := 60000000) (disch := first | (intros; rename_i h; cases h; done) | decide +kernel) only [evS, seS, List.map_replicate, Nat.reduceDiv, Nat.reduceMod, Nat.reduceEqDiff, reduceCtorEq, ↓reduceIte, Nat.reduceLT, Nat.reduceAdd, Nat.reduceMul, Nat.reduceSub, Nat.reduceLeDiff, Nat.reduceBEq, Int.reduceEq, Int.reduceNeg, Int.reduceToNat, Int.reduceLE, Int.reduceLT, cd93, Go.Proofs.Tryz.f93, h93.r, m93, lv_pl, pl93, lv93_4, l93_4]
  all_goals try simp only [rnS, seS, Nat.reduceEqDiff, reduceCtorEq, ↓reduceIte, Nat.reduceAdd, Nat.reduceLeDiff, Nat.reduceBEq, Nat.reduceMul, lv93_4]
theorem l93_4_eq (a0 : Int) (t0 : Int) (t3 : ByteArray) : l93_4 a0 t0 t3 = if 0 < t0 then if (bytesS [IntKind.u8.wrap (IntKind.i64.wrap (48 + t0.tmod 10))]).size + t3.size ≤ 9223372036854775807 then l93_4 a0 (IntKind.i64.wrap (t0.tdiv 10)) (bytesS [IntKind.u8.wrap (IntKind.i64.wrap (48 + t0.tmod 10))] ++ t3) else none else if (ByteArray.mk #[109]).size + t3.size ≤ 9223372036854775807 then some (ByteArray.mk #[109] ++ t3) else none := by
  rw [l93_4]
  simp only [evRAt, locS, cd93, Go.Proofs.Tryz.f93]
  rw [evR_eq]
  simp (maxSteps := 60000000) (disch := first | (intros; rename_i h; cases h; done) | decide +kernel) only [evS, seS, List.map_replicate, Nat.reduceDiv, Nat.reduceMod, Nat.reduceEqDiff, reduceCtorEq, ↓reduceIte, Nat.reduceLT, Nat.reduceAdd, Nat.reduceMul, Nat.reduceSub, Nat.reduceLeDiff, Nat.reduceBEq, Int.reduceEq, Int.reduceNeg, Int.reduceToNat, Int.reduceLE, Int.reduceLT, cd93, Go.Proofs.Tryz.f93, h93.r, m93, lv_pl, pl93, lv93_4, l93_4]
  all_goals try simp only [rnS, seS, Nat.reduceEqDiff, reduceCtorEq, ↓reduceIte, Nat.reduceAdd, Nat.reduceLeDiff, Nat.reduceBEq, Nat.reduceMul, lv93_4]
end Go.Fs.Se

set_option linter.unusedVariables false
set_option linter.unusedSimpArgs false
set_option maxRecDepth 40000
set_option maxHeartbeats 4000000
open Go.RowKit
namespace Go.Fs.Se
open Cel (cel unc)
open Dat (enc dec)
open Arg (ea da)
/-! loop.example/smithy/laws.markTreeExprS -/
noncomputable def l39_2 (a0 : (List TreeExpr)) (a1 : Int) (t1 : Int) (t5 : Int) (z0 : List TreeExpr) : Option (Int × (List TreeExpr)) := evRAt (envOf M (inAV (.io (enc a0)))) (lvT 39) cd39 [true, false, true, false] (endI (α := (List TreeExpr)) (β := Int) M 39 (inAV (.io (enc a0))) Go.Proofs.Tryz.f39.results.toList) (stL 50 [(0, AV.r 900000), (1, AV.d (D.i IntKind.i64 t1)), (5, AV.d (D.i IntKind.i64 t5))] [(900000, some (Ob.row 5 (List.map cel z0) true false 0))])
theorem n39_eq (a0 : (List TreeExpr)) (a1 : Int) : n39 a0 a1 = l39_2 a0 a1 a1 0 a0 := by
  rw [n39, fnI_code h39 Go.Proofs.Tryz.func39 (c := cd39) rfl (a0, a1, ()) rfl]
  simp (maxSteps := 60000000) (disch := first | (intros; rename_i h; cases h; done) | decide +kernel) only [evS, seS, List.map_replicate, Nat.reduceDiv, Nat.reduceMod, Nat.reduceEqDiff, reduceCtorEq, ↓reduceIte, Nat.reduceLT, Nat.reduceAdd, Nat.reduceMul, Nat.reduceSub, Nat.reduceLeDiff, Nat.reduceBEq, Int.reduceEq, Int.reduceNeg, Int.reduceToNat, Int.reduceLE, Int.reduceLT, cd39, Go.Proofs.Tryz.f39, h39.r, m39, lv_pl, pl39, c39, c93, lv39_2, l39_2]
  all_goals try simp only [rnS, seS, Nat.reduceEqDiff, reduceCtorEq, ↓reduceIte, Nat.reduceAdd, Nat.reduceLeDiff, Nat.reduceBEq, Nat.reduceMul, lv39_2]
theorem l39_2_eq (a0 : (List TreeExpr)) (a1 : Int) (t1 : Int) (t5 : Int) (z0 : List TreeExpr) : l39_2 a0 a1 t1 t5 z0 = if t5 < (↑z0.length : Int) then (getI z0 t5).bind fun y0 => z0[t5.toNat]?.bind fun y3 => (getI z0 t5).bind fun y4 => z0[t5.toNat]?.bind fun y7 => (n93 (IntKind.i64.wrap (IntKind.i64.wrap (t1 + 1) + 1))).bind fun y8 => (getI z0 t5).bind fun y9 => z0[t5.toNat]?.bind fun y12 => (n93 (IntKind.i64.wrap (IntKind.i64.wrap (IntKind.i64.wrap (t1 + 1) + 1) + 1))).bind fun y13 => (getI z0 t5).bind fun y14 => z0[t5.toNat]?.bind fun y17 => (getI z0 t5).bind fun y18 => z0[t5.toNat]?.bind fun y21 => z0[t5.toNat]?.bind fun y24 => (n39 y3.kids (IntKind.i64.wrap (IntKind.i64.wrap (IntKind.i64.wrap (IntKind.i64.wrap (t1 + 1) + 1) + 1) + 1))).bind fun y25 => l39_2 a0 a1 y25.fst (IntKind.i64.wrap (t5 + 1)) (z0.set t5.toNat (TreeExpr.mk t1 (IntKind.i64.wrap (t1 + 1)) y8 y13 y25.snd)) else some (t1, z0) := by
  rw [l39_2]
  simp only [evRAt, locS, cd39, Go.Proofs.Tryz.f39]
  rw [evR_eq]
  simp (maxSteps := 60000000) (disch := first | (intros; rename_i h; cases h; done) | decide +kernel) only [evS, seS, List.map_replicate, Nat.reduceDiv, Nat.reduceMod, Nat.reduceEqDiff, reduceCtorEq, ↓reduceIte, Nat.reduceLT, Nat.reduceAdd, Nat.reduceMul, Nat.reduceSub, Nat.reduceLeDiff, Nat.reduceBEq, Int.reduceEq, Int.reduceNeg, Int.reduceToNat, Int.reduceLE, Int.reduceLT, cd39, Go.Proofs.Tryz.f39, h39.r, m39, lv_pl, pl39, c39, c93, lv39_2, l39_2]
  all_goals try simp only [rnS, seS, Nat.reduceEqDiff, reduceCtorEq, ↓reduceIte, Nat.reduceAdd, Nat.reduceLeDiff, Nat.reduceBEq, Nat.reduceMul, lv39_2]
  all_goals try simp only [bindN_eq]
end Go.Fs.Se

set_option linter.unusedVariables false
set_option linter.unusedSimpArgs false
set_option maxRecDepth 40000
set_option maxHeartbeats 4000000
open Go.RowKit
namespace Go.Fs.Se
open Cel (cel unc)
open Dat (enc dec)
open Arg (ea da)
/-! loop.example/smithy/laws.heldTreeExprS -/
noncomputable def l42_2 (a0 : (List TreeExpr)) (a1 : Int) (t1 : Int) (t5 : Int) : Option (Int) := evRAt (envOf M .x) (lvT 42) cd42 [true, false, true, false] (endK (β := Int) M 42 .x Go.Proofs.Tryz.f42.results.toList) (stL 60 [(0, AV.d (D.l 5 (List.map cel a0))), (1, AV.d (D.i IntKind.i64 t1)), (5, AV.d (D.i IntKind.i64 t5))] [])
theorem n42_eq (a0 : (List TreeExpr)) (a1 : Int) : n42 a0 a1 = l42_2 a0 a1 a1 0 := by
  rw [n42, fnO_code h42 rfl Go.Proofs.Tryz.func42 (c := cd42) rfl (a0, a1, ()) rfl]
  simp (maxSteps := 60000000) (disch := first | (intros; rename_i h; cases h; done) | decide +kernel) only [evS, seS, List.map_replicate, Nat.reduceDiv, Nat.reduceMod, Nat.reduceEqDiff, reduceCtorEq, ↓reduceIte, Nat.reduceLT, Nat.reduceAdd, Nat.reduceMul, Nat.reduceSub, Nat.reduceLeDiff, Nat.reduceBEq, Int.reduceEq, Int.reduceNeg, Int.reduceToNat, Int.reduceLE, Int.reduceLT, cd42, Go.Proofs.Tryz.f42, h42.r, m42, lv_pl, pl42, c42, c93, lv42_2, l42_2]
  all_goals try simp only [rnS, seS, Nat.reduceEqDiff, reduceCtorEq, ↓reduceIte, Nat.reduceAdd, Nat.reduceLeDiff, Nat.reduceBEq, Nat.reduceMul, lv42_2]
theorem l42_2_eq (a0 : (List TreeExpr)) (a1 : Int) (t1 : Int) (t5 : Int) : l42_2 a0 a1 t1 t5 = if t5 < (↑a0.length : Int) then (getI a0 t5).bind fun y0 => if decide (y0.kind = t1) = false then some (-1) else (getI a0 t5).bind fun y1 => if decide (y1.num = IntKind.i64.wrap (t1 + 1)) = false then some (-1) else (getI a0 t5).bind fun y2 => (n93 (IntKind.i64.wrap (IntKind.i64.wrap (t1 + 1) + 1))).bind fun y3 => if decide (y2.name = y3) = false then some (-1) else (getI a0 t5).bind fun y4 => (n93 (IntKind.i64.wrap (IntKind.i64.wrap (IntKind.i64.wrap (t1 + 1) + 1) + 1))).bind fun y5 => if decide (y4.mod = y5) = false then some (-1) else (getI a0 t5).bind fun y6 => (n42 y6.kids (IntKind.i64.wrap (IntKind.i64.wrap (IntKind.i64.wrap (IntKind.i64.wrap (t1 + 1) + 1) + 1) + 1))).bind fun y7 => if y7 < 0 then some (-1) else l42_2 a0 a1 y7 (IntKind.i64.wrap (t5 + 1)) else some t1 := by
  rw [l42_2]
  simp only [evRAt, locS, cd42, Go.Proofs.Tryz.f42]
  rw [evR_eq]
  simp (maxSteps := 60000000) (disch := first | (intros; rename_i h; cases h; done) | decide +kernel) only [evS, seS, List.map_replicate, Nat.reduceDiv, Nat.reduceMod, Nat.reduceEqDiff, reduceCtorEq, ↓reduceIte, Nat.reduceLT, Nat.reduceAdd, Nat.reduceMul, Nat.reduceSub, Nat.reduceLeDiff, Nat.reduceBEq, Int.reduceEq, Int.reduceNeg, Int.reduceToNat, Int.reduceLE, Int.reduceLT, cd42, Go.Proofs.Tryz.f42, h42.r, m42, lv_pl, pl42, c42, c93, lv42_2, l42_2]
  all_goals try simp only [rnS, seS, Nat.reduceEqDiff, reduceCtorEq, ↓reduceIte, Nat.reduceAdd, Nat.reduceLeDiff, Nat.reduceBEq, Nat.reduceMul, lv42_2]
  all_goals try simp only [bindN_eq]
end Go.Fs.Se
