/- A part of the proof: an evaluator of the program's code over plain data, proved sound, and walks of the program's functions by it. No conditions beyond those in the theorems. -/
import Derived.Test.YtbgbnmghhmfihaaLawGp13
import Derived.Test.YtbgbnmghhmfihaaLawGp16
import Derived.Test.YtbgbnmghhmfihaaLawGp19
set_option linter.unusedVariables false
set_option linter.unusedSimpArgs false
set_option linter.constructorNameAsVariable false
set_option linter.unusedSectionVars false
set_option linter.defProp false
set_option linter.unusedVariables false
set_option linter.unusedSimpArgs false
set_option maxRecDepth 40000
set_option maxHeartbeats 4000000
open Go.RowKit
namespace Go.Fs.Se
open Cel (cel unc)
open Dat (enc dec)
open Arg (ea da)
/-! loop.example/smithy/spec.l18Fold -/
noncomputable def l64_3 (a0 : TreeExpr) (t4 : Int) (r2 : List TreeExpr) : Option (TreeExpr) := evRAt (envOf M .x) (lvT 64) cd64 [true, true, false, true, false] (endKM (β := TreeExpr) M 64 Go.Proofs.Try.f64.results.toList) (stL 68 [(1, AV.a 500000 0), (2, AV.a 500001 0), (3, AV.r 500002), (4, AV.d (D.i IntKind.i64 t4))] [(500000, some (Ob.box [AV.d (D.i IntKind.i64 a0.kind), AV.d (D.i IntKind.i64 a0.num), AV.d (D.s a0.name), AV.d (D.s a0.mod), AV.d (D.l 5 (List.map cel a0.kids))])), (500001, some (Ob.box [AV.d (D.i IntKind.i64 0), AV.d (D.i IntKind.i64 0), AV.d (D.s ByteArray.empty), AV.d (D.s ByteArray.empty), AV.r 500003])), (500002, some (Ob.row 5 (List.map cel r2) true false 0)), (500003, some (Ob.row 5 [] true false 0))])
theorem n64_eq (a0 : TreeExpr) : n64 a0 = l64_3 a0 0 [] := by
  rw [n64, fnM_code h64 rfl Go.Proofs.Try.func64 (c := cd64) rfl (a0, ()) rfl]
  simp (maxSteps := 60000000) (disch := first | (intros; rename_i h; cases h; done) | decide +kernel) only [evS, seS, List.map_replicate, Nat.reduceDiv, Nat.reduceMod, Nat.reduceEqDiff, reduceCtorEq, ↓reduceIte, Nat.reduceLT, Nat.reduceAdd, Nat.reduceMul, Nat.reduceSub, Nat.reduceLeDiff, Nat.reduceBEq, Int.reduceEq, Int.reduceNeg, Int.reduceToNat, Int.reduceLE, Int.reduceLT, cd64, Go.Proofs.Try.f64, h64.r, m64, lv_pl, pl64, c64, c103, c104, c105, c106, lv64_3, l64_3]
  all_goals try simp only [rnS, seS, Nat.reduceEqDiff, reduceCtorEq, ↓reduceIte, Nat.reduceAdd, Nat.reduceLeDiff, Nat.reduceBEq, Nat.reduceMul, lv64_3]
theorem l64_3_eq (a0 : TreeExpr) (t4 : Int) (r2 : List TreeExpr) : l64_3 a0 t4 r2 = if t4 < (↑a0.kids.length : Int) then (getI a0.kids t4).bind fun y0 => (n64 y0).bind fun y1 => if (r2.length + 1) * 72 ≤ 140737488355328 ∧ r2.length ≤ 140737488355327 then l64_3 a0 (IntKind.i64.wrap (t4 + 1)) (r2 ++ [y1]) else none else bindB (if a0.kind = 4 then (n103 a0.name).bind fun y2 => some (decide (14 < y2)) else some false) fun y3 => if y3 = true then n104 (TreeExpr.mk a0.kind a0.num a0.name a0.mod r2) else if a0.kind = 4 then n105 (TreeExpr.mk a0.kind a0.num a0.name a0.mod r2) else if a0.kind = 5 then (getI r2 0).bind fun y4 => r2[0]?.bind fun y7 => r2[0]?.bind fun y10 => (n106 (TreeExpr.mk y7.kind y7.num y7.name y7.mod y10.kids)).bind fun y11 => if y11.snd = true ∧ y11.fst.kind = 2 then (getI r2 (IntKind.i64.wrap (2 - y11.fst.num))).bind fun y12 => r2[(IntKind.i64.wrap (2 - y11.fst.num)).toNat]?.bind fun y15 => r2[(IntKind.i64.wrap (2 - y11.fst.num)).toNat]?.bind fun y18 => some (TreeExpr.mk y15.kind y15.num y15.name y15.mod y18.kids) else some (TreeExpr.mk a0.kind a0.num a0.name a0.mod r2) else some (TreeExpr.mk a0.kind a0.num a0.name a0.mod r2) := by
  rw [l64_3]
  simp only [evRAt, locS, cd64, Go.Proofs.Try.f64]
  rw [evR_eq]
  simp (maxSteps := 60000000) (disch := first | (intros; rename_i h; cases h; done) | decide +kernel) only [evS, seS, List.map_replicate, Nat.reduceDiv, Nat.reduceMod, Nat.reduceEqDiff, reduceCtorEq, ↓reduceIte, Nat.reduceLT, Nat.reduceAdd, Nat.reduceMul, Nat.reduceSub, Nat.reduceLeDiff, Nat.reduceBEq, Int.reduceEq, Int.reduceNeg, Int.reduceToNat, Int.reduceLE, Int.reduceLT, cd64, Go.Proofs.Try.f64, h64.r, m64, lv_pl, pl64, c64, c103, c104, c105, c106, lv64_3, l64_3]
  all_goals try simp only [rnS, seS, Nat.reduceEqDiff, reduceCtorEq, ↓reduceIte, Nat.reduceAdd, Nat.reduceLeDiff, Nat.reduceBEq, Nat.reduceMul, lv64_3]
  all_goals try simp only [bindN_eq]
end Go.Fs.Se

set_option linter.unusedVariables false
set_option linter.unusedSimpArgs false
set_option maxRecDepth 40000
set_option maxHeartbeats 4000000
open Go.RowKit
namespace Go.Fs.Se
open Cel (cel unc)
open Dat (enc dec)
open Arg (ea da)
/-! loop.example/smithy/impl.fold -/
noncomputable def l67_3 (a0 : TreeExpr) (t18 : Int) (r3 : List TreeExpr) : Option (TreeExpr) := evRAt (envOf M .x) (lvT 67) cd67 [true, true, false, true, false] (endK (β := TreeExpr) M 67 .x Go.Proofs.Try.f67.results.toList) (stL 32 [(2, AV.a 500000 0), (3, AV.a 500001 0), (16, AV.d (D.l 5 (List.map cel a0.kids))), (17, AV.d (D.i IntKind.i64 (↑a0.kids.length : Int))), (18, AV.d (D.i IntKind.i64 t18))] [(500000, some (Ob.box [AV.d (D.i IntKind.i64 0), AV.d (D.i IntKind.i64 0), AV.d (D.s ByteArray.empty), AV.d (D.s ByteArray.empty), AV.r 500002])), (500001, some (Ob.box [AV.d (D.i IntKind.i64 a0.kind), AV.d (D.i IntKind.i64 a0.num), AV.d (D.s a0.name), AV.d (D.s a0.mod), AV.r 500003])), (500002, some (Ob.row 5 [] true false 0)), (500003, some (Ob.row 5 (List.map cel r3) true false 0))])
theorem n67_eq (a0 : TreeExpr) : n67 a0 = l67_3 a0 0 [] := by
  rw [n67, fnO_code h67 rfl Go.Proofs.Try.func67 (c := cd67) rfl (a0, ()) rfl]
  simp (maxSteps := 60000000) (disch := first | (intros; rename_i h; cases h; done) | decide +kernel) only [evS, seS, List.map_replicate, Nat.reduceDiv, Nat.reduceMod, Nat.reduceEqDiff, reduceCtorEq, ↓reduceIte, Nat.reduceLT, Nat.reduceAdd, Nat.reduceMul, Nat.reduceSub, Nat.reduceLeDiff, Nat.reduceBEq, Int.reduceEq, Int.reduceNeg, Int.reduceToNat, Int.reduceLE, Int.reduceLT, cd67, Go.Proofs.Try.f67, h67.r, m67, lv_pl, pl67, c67, c109, lv67_3, l67_3]
  all_goals try simp only [rnS, seS, Nat.reduceEqDiff, reduceCtorEq, ↓reduceIte, Nat.reduceAdd, Nat.reduceLeDiff, Nat.reduceBEq, Nat.reduceMul, lv67_3]
theorem l67_3_eq (a0 : TreeExpr) (t18 : Int) (r3 : List TreeExpr) : l67_3 a0 t18 r3 = if t18 < (↑a0.kids.length : Int) then (getI a0.kids t18).bind fun y0 => (n67 y0).bind fun y1 => if (r3.length + 1) * 72 ≤ 140737488355328 ∧ r3.length ≤ 140737488355327 then l67_3 a0 (IntKind.i64.wrap (t18 + 1)) (r3 ++ [y1]) else none else n109 (TreeExpr.mk a0.kind a0.num a0.name a0.mod r3) := by
  rw [l67_3]
  simp only [evRAt, locS, cd67, Go.Proofs.Try.f67]
  rw [evR_eq]
  simp (maxSteps := 60000000) (disch := first | (intros; rename_i h; cases h; done) | decide +kernel) only [evS, seS, List.map_replicate, Nat.reduceDiv, Nat.reduceMod, Nat.reduceEqDiff, reduceCtorEq, ↓reduceIte, Nat.reduceLT, Nat.reduceAdd, Nat.reduceMul, Nat.reduceSub, Nat.reduceLeDiff, Nat.reduceBEq, Int.reduceEq, Int.reduceNeg, Int.reduceToNat, Int.reduceLE, Int.reduceLT, cd67, Go.Proofs.Try.f67, h67.r, m67, lv_pl, pl67, c67, c109, lv67_3, l67_3]
  all_goals try simp only [rnS, seS, Nat.reduceEqDiff, reduceCtorEq, ↓reduceIte, Nat.reduceAdd, Nat.reduceLeDiff, Nat.reduceBEq, Nat.reduceMul, lv67_3]
  all_goals try simp only [bindN_eq]
end Go.Fs.Se

set_option linter.unusedVariables false
set_option linter.unusedSimpArgs false
set_option maxRecDepth 40000
set_option maxHeartbeats 4000000
open Go.RowKit
namespace Go.Fs.Se
open Cel (cel unc)
open Dat (enc dec)
open Arg (ea da)
/-! loop.example/smithy/spec.l18Half -/
theorem n104_eq (a0 : TreeExpr) : n104 a0 = (getI a0.kids 0).bind fun y0 => a0.kids[0]?.bind fun y3 => a0.kids[0]?.bind fun y6 => (n106 (TreeExpr.mk y3.kind y3.num y3.name y3.mod y6.kids)).bind fun y7 => if y7.snd = false ∨ decide (y7.fst.kind = 2) = false then some a0 else if (decide (a0.name = ByteArray.mk #[97, 110, 100]) == decide (y7.fst.num = 1)) = true then (getI a0.kids 1).bind fun y8 => a0.kids[1]?.bind fun y11 => a0.kids[1]?.bind fun y14 => some (TreeExpr.mk y11.kind y11.num y11.name y11.mod y14.kids) else (getI a0.kids 0).bind fun y15 => a0.kids[0]?.bind fun y18 => a0.kids[0]?.bind fun y21 => some (TreeExpr.mk y18.kind y18.num y18.name y18.mod y21.kids) := by
  rw [n104, fnE_code h104 rfl Go.Proofs.Try.func104 (c := cd104) rfl (a0, ()) rfl]
  simp (maxSteps := 60000000) (disch := first | (intros; rename_i h; cases h; done) | decide +kernel) only [evS, seS, List.map_replicate, Nat.reduceDiv, Nat.reduceMod, Nat.reduceEqDiff, reduceCtorEq, ↓reduceIte, Nat.reduceLT, Nat.reduceAdd, Nat.reduceMul, Nat.reduceSub, Nat.reduceLeDiff, Nat.reduceBEq, Int.reduceEq, Int.reduceNeg, Int.reduceToNat, Int.reduceLE, Int.reduceLT, cd104, Go.Proofs.Try.f104, h104.r, m104, lv_pl, pl104, c106]
  all_goals try simp only [bindN_eq]
end Go.Fs.Se

set_option linter.unusedVariables false
set_option linter.unusedSimpArgs false
set_option maxRecDepth 40000
set_option maxHeartbeats 4000000
open Go.RowKit
namespace Go.Fs.Se
open Cel (cel unc)
open Dat (enc dec)
open Arg (ea da)
/-! loop.example/smithy/spec.l18Prim -/
noncomputable def l105_3 (a0 : TreeExpr) (t4 : Int) (r2 : List MeanVal) : Option (TreeExpr) := evRAt (envOf M .x) (lvT 105) cd105 [true, true, false, true, false] (endKM (β := TreeExpr) M 105 Go.Proofs.Try.f105.results.toList) (stL 66 [(1, AV.a 500000 0), (2, AV.a 500001 0), (3, AV.r 500002), (4, AV.d (D.i IntKind.i64 t4))] [(500000, some (Ob.box [AV.d (D.i IntKind.i64 a0.kind), AV.d (D.i IntKind.i64 a0.num), AV.d (D.s a0.name), AV.d (D.s a0.mod), AV.r 900004])), (500001, some (Ob.box [AV.d (D.i IntKind.i64 0), AV.d (D.i IntKind.i64 0), AV.d (D.s ByteArray.empty), AV.d (D.s ByteArray.empty), AV.r 500003])), (500002, some (Ob.row 3 (List.map cel r2) true false 0)), (900004, some (Ob.row 5 (List.map cel a0.kids) true false 0)), (500003, some (Ob.row 5 [] true false 0))])
theorem n105_eq (a0 : TreeExpr) : n105 a0 = l105_3 a0 0 [] := by
  rw [n105, fnE_code h105 rfl Go.Proofs.Try.func105 (c := cd105) rfl (a0, ()) rfl]
  simp (maxSteps := 60000000) (disch := first | (intros; rename_i h; cases h; done) | decide +kernel) only [evS, seS, List.map_replicate, Nat.reduceDiv, Nat.reduceMod, Nat.reduceEqDiff, reduceCtorEq, ↓reduceIte, Nat.reduceLT, Nat.reduceAdd, Nat.reduceMul, Nat.reduceSub, Nat.reduceLeDiff, Nat.reduceBEq, Int.reduceEq, Int.reduceNeg, Int.reduceToNat, Int.reduceLE, Int.reduceLT, cd105, Go.Proofs.Try.f105, h105.r, m105, lv_pl, pl105, c106, c137, c138, c139, lv105_3, l105_3]
  all_goals try simp only [rnS, seS, Nat.reduceEqDiff, reduceCtorEq, ↓reduceIte, Nat.reduceAdd, Nat.reduceLeDiff, Nat.reduceBEq, Nat.reduceMul, lv105_3]
theorem l105_3_eq (a0 : TreeExpr) (t4 : Int) (r2 : List MeanVal) : l105_3 a0 t4 r2 = if t4 < (↑a0.kids.length : Int) then (getI a0.kids t4).bind fun y0 => a0.kids[t4.toNat]?.bind fun y3 => a0.kids[t4.toNat]?.bind fun y6 => (n106 (TreeExpr.mk y3.kind y3.num y3.name y3.mod y6.kids)).bind fun y7 => if y7.snd = false then some a0 else if (r2.length + 1) * 40 ≤ 140737488355328 ∧ r2.length ≤ 140737488355327 then l105_3 a0 (IntKind.i64.wrap (t4 + 1)) (r2 ++ [y7.fst]) else none else bindB (if a0.name = ByteArray.mk #[112, 114, 105, 110, 116] then some true else (n137 a0.name r2).bind fun y8 => some !y8) fun y9 => if y9 = true then some a0 else (n138 a0.name r2).bind fun y10 => (n139 y10.fst).bind fun y11 => if 0 < y10.snd ∨ y11.snd = false then some a0 else some y11.fst := by
  rw [l105_3]
  simp only [evRAt, locS, cd105, Go.Proofs.Try.f105]
  rw [evR_eq]
  simp (maxSteps := 60000000) (disch := first | (intros; rename_i h; cases h; done) | decide +kernel) only [evS, seS, List.map_replicate, Nat.reduceDiv, Nat.reduceMod, Nat.reduceEqDiff, reduceCtorEq, ↓reduceIte, Nat.reduceLT, Nat.reduceAdd, Nat.reduceMul, Nat.reduceSub, Nat.reduceLeDiff, Nat.reduceBEq, Int.reduceEq, Int.reduceNeg, Int.reduceToNat, Int.reduceLE, Int.reduceLT, cd105, Go.Proofs.Try.f105, h105.r, m105, lv_pl, pl105, c106, c137, c138, c139, lv105_3, l105_3]
  all_goals try simp only [rnS, seS, Nat.reduceEqDiff, reduceCtorEq, ↓reduceIte, Nat.reduceAdd, Nat.reduceLeDiff, Nat.reduceBEq, Nat.reduceMul, lv105_3]
  all_goals try simp only [bindN_eq]
end Go.Fs.Se

set_option linter.unusedVariables false
set_option linter.unusedSimpArgs false
set_option maxRecDepth 40000
set_option maxHeartbeats 4000000
open Go.RowKit
namespace Go.Fs.Se
open Cel (cel unc)
open Dat (enc dec)
open Arg (ea da)
/-! loop.example/smithy/impl.folded -/
theorem n109_eq (a0 : TreeExpr) : n109 a0 = bindB (if a0.kind = 5 then (getI a0.kids 0).bind fun y0 => a0.kids[0]?.bind fun y3 => some (decide (y3.kind = 2)) else some false) fun y4 => if y4 = true then (getI a0.kids 0).bind fun y5 => a0.kids[0]?.bind fun y8 => (getI a0.kids (IntKind.i64.wrap (2 - y8.num))).bind fun y9 => a0.kids[(IntKind.i64.wrap (2 - y8.num)).toNat]?.bind fun y12 => a0.kids[(IntKind.i64.wrap (2 - y8.num)).toNat]?.bind fun y15 => some (TreeExpr.mk y12.kind y12.num y12.name y12.mod y15.kids) else if decide (a0.kind = 4) = false ∨ a0.name = ByteArray.mk #[112, 114, 105, 110, 116] then some a0 else if decide (a0.name = ByteArray.mk #[97, 110, 100]) = false ∧ decide (a0.name = ByteArray.mk #[111, 114]) = false then (n145 a0).bind fun y16 => if y16.snd = true then some y16.fst else some a0 else (getI a0.kids 0).bind fun y17 => a0.kids[0]?.bind fun y20 => if y20.kind = 2 then (getI a0.kids 0).bind fun y21 => a0.kids[0]?.bind fun y24 => if (decide (y24.num = 1) == decide (a0.name = ByteArray.mk #[97, 110, 100])) = true then (getI a0.kids 1).bind fun y25 => a0.kids[1]?.bind fun y28 => a0.kids[1]?.bind fun y31 => some (TreeExpr.mk y28.kind y28.num y28.name y28.mod y31.kids) else (getI a0.kids 0).bind fun y32 => a0.kids[0]?.bind fun y35 => a0.kids[0]?.bind fun y38 => some (TreeExpr.mk y35.kind y35.num y35.name y35.mod y38.kids) else some a0 := by
  rw [n109, fnE_code h109 rfl Go.Proofs.Try.func109 (c := cd109) rfl (a0, ()) rfl]
  simp (maxSteps := 60000000) (disch := first | (intros; rename_i h; cases h; done) | decide +kernel) only [evS, seS, List.map_replicate, Nat.reduceDiv, Nat.reduceMod, Nat.reduceEqDiff, reduceCtorEq, ↓reduceIte, Nat.reduceLT, Nat.reduceAdd, Nat.reduceMul, Nat.reduceSub, Nat.reduceLeDiff, Nat.reduceBEq, Int.reduceEq, Int.reduceNeg, Int.reduceToNat, Int.reduceLE, Int.reduceLT, cd109, Go.Proofs.Try.f109, h109.r, m109, lv_pl, pl109, c145]
  all_goals try simp only [bindN_eq]
end Go.Fs.Se

set_option linter.unusedVariables false
set_option linter.unusedSimpArgs false
set_option maxRecDepth 40000
set_option maxHeartbeats 4000000
open Go.RowKit
namespace Go.Fs.Se
open Cel (cel unc)
open Dat (enc dec)
open Arg (ea da)
/-! loop.example/smithy/spec.l18Written -/
theorem n139_eq (a0 : MeanVal) : n139 a0 = if a0.kind = 2 then if decide (a0.kind = 3) = false then if decide (a0.kind = 3) = false then (n135 (TreeExpr.mk 2 a0.num ByteArray.empty ByteArray.empty [])).bind fun y0 => some (TreeExpr.mk 2 a0.num ByteArray.empty ByteArray.empty [], y0) else some (TreeExpr.mk 2 a0.num ByteArray.empty ByteArray.empty [], false) else if decide (a0.kind = 3) = false then none else some (TreeExpr.mk 2 a0.num ByteArray.empty ByteArray.empty [], false) else if decide (a0.kind = 3) = false then if decide (a0.kind = 3) = false then (n135 (TreeExpr.mk 1 a0.num ByteArray.empty ByteArray.empty [])).bind fun y1 => some (TreeExpr.mk 1 a0.num ByteArray.empty ByteArray.empty [], y1) else some (TreeExpr.mk 1 a0.num ByteArray.empty ByteArray.empty [], false) else if decide (a0.kind = 3) = false then none else some (TreeExpr.mk 1 a0.num ByteArray.empty ByteArray.empty [], false) := by
  rw [n139, fnO_code h139 rfl Go.Proofs.Try.func139 (c := cd139) rfl (a0, ()) rfl]
  simp (maxSteps := 60000000) (disch := first | (intros; rename_i h; cases h; done) | decide +kernel) only [evS, seS, List.map_replicate, Nat.reduceDiv, Nat.reduceMod, Nat.reduceEqDiff, reduceCtorEq, ↓reduceIte, Nat.reduceLT, Nat.reduceAdd, Nat.reduceMul, Nat.reduceSub, Nat.reduceLeDiff, Nat.reduceBEq, Int.reduceEq, Int.reduceNeg, Int.reduceToNat, Int.reduceLE, Int.reduceLT, cd139, Go.Proofs.Try.f139, h139.r, m139, lv_pl, pl139, c135]
  all_goals try simp only [bindN_eq]
end Go.Fs.Se

set_option linter.unusedVariables false
set_option linter.unusedSimpArgs false
set_option maxRecDepth 40000
set_option maxHeartbeats 4000000
open Go.RowKit
namespace Go.Fs.Se
open Cel (cel unc)
open Dat (enc dec)
open Arg (ea da)
/-! loop.example/smithy/impl.reckoned -/
noncomputable def l145_3 (a0 : TreeExpr) (t15 : Int) (r2 : List MeanVal) : Option (TreeExpr × Bool) := evRAt (envOf M .x) (lvT 145) cd145 [true, true, false, true, false] (endK (β := TreeExpr × Bool) M 145 .x Go.Proofs.Try.f145.results.toList) (stL 46 [(1, AV.a 500000 0), (2, AV.a 500001 0), (4, AV.r 500002), (13, AV.d (D.l 5 (List.map cel a0.kids))), (14, AV.d (D.i IntKind.i64 (↑a0.kids.length : Int))), (15, AV.d (D.i IntKind.i64 t15))] [(500000, some (Ob.box [AV.d (D.i IntKind.i64 a0.kind), AV.d (D.i IntKind.i64 a0.num), AV.d (D.s a0.name), AV.d (D.s a0.mod), AV.d (D.l 5 (List.map cel a0.kids))])), (500001, some (Ob.box [AV.d (D.i IntKind.i64 0), AV.d (D.i IntKind.i64 0), AV.d (D.s ByteArray.empty), AV.d (D.s ByteArray.empty), AV.r 500003])), (500002, some (Ob.row 3 (List.map cel r2) true false 0)), (500003, some (Ob.row 5 [] true false 0))])
theorem n145_eq (a0 : TreeExpr) : n145 a0 = l145_3 a0 0 [] := by
  rw [n145, fnO_code h145 rfl Go.Proofs.Try.func145 (c := cd145) rfl (a0, ()) rfl]
  simp (maxSteps := 60000000) (disch := first | (intros; rename_i h; cases h; done) | decide +kernel) only [evS, seS, List.map_replicate, Nat.reduceDiv, Nat.reduceMod, Nat.reduceEqDiff, reduceCtorEq, ↓reduceIte, Nat.reduceLT, Nat.reduceAdd, Nat.reduceMul, Nat.reduceSub, Nat.reduceLeDiff, Nat.reduceBEq, Int.reduceEq, Int.reduceNeg, Int.reduceToNat, Int.reduceLE, Int.reduceLT, cd145, Go.Proofs.Try.f145, h145.r, m145, lv_pl, pl145, c161, c162, c163, lv145_3, l145_3]
  all_goals try simp only [rnS, seS, Nat.reduceEqDiff, reduceCtorEq, ↓reduceIte, Nat.reduceAdd, Nat.reduceLeDiff, Nat.reduceBEq, Nat.reduceMul, lv145_3]
theorem l145_3_eq (a0 : TreeExpr) (t15 : Int) (r2 : List MeanVal) : l145_3 a0 t15 r2 = if t15 < (↑a0.kids.length : Int) then (getI a0.kids t15).bind fun y0 => (n161 y0).bind fun y1 => if y1.snd = false then some (TreeExpr.mk 0 0 ByteArray.empty ByteArray.empty [], false) else if (r2.length + 1) * 40 ≤ 140737488355328 ∧ r2.length ≤ 140737488355327 then l145_3 a0 (IntKind.i64.wrap (t15 + 1)) (r2 ++ [y1.fst]) else none else (n162 a0.name r2).bind fun y2 => if decide (y2.snd = 0) = false then some (TreeExpr.mk 0 0 ByteArray.empty ByteArray.empty [], false) else (n163 y2.fst).bind fun y3 => some (y3.fst, y3.snd) := by
  rw [l145_3]
  simp only [evRAt, locS, cd145, Go.Proofs.Try.f145]
  rw [evR_eq]
  simp (maxSteps := 60000000) (disch := first | (intros; rename_i h; cases h; done) | decide +kernel) only [evS, seS, List.map_replicate, Nat.reduceDiv, Nat.reduceMod, Nat.reduceEqDiff, reduceCtorEq, ↓reduceIte, Nat.reduceLT, Nat.reduceAdd, Nat.reduceMul, Nat.reduceSub, Nat.reduceLeDiff, Nat.reduceBEq, Int.reduceEq, Int.reduceNeg, Int.reduceToNat, Int.reduceLE, Int.reduceLT, cd145, Go.Proofs.Try.f145, h145.r, m145, lv_pl, pl145, c161, c162, c163, lv145_3, l145_3]
  all_goals try simp only [rnS, seS, Nat.reduceEqDiff, reduceCtorEq, ↓reduceIte, Nat.reduceAdd, Nat.reduceLeDiff, Nat.reduceBEq, Nat.reduceMul, lv145_3]
  all_goals try simp only [bindN_eq]
end Go.Fs.Se

set_option linter.unusedVariables false
set_option linter.unusedSimpArgs false
set_option maxRecDepth 40000
set_option maxHeartbeats 4000000
open Go.RowKit
namespace Go.Fs.Se
open Cel (cel unc)
open Dat (enc dec)
open Arg (ea da)
/-! loop.example/smithy/impl.literal -/
theorem n163_eq (a0 : MeanVal) : n163 a0 = if a0.kind = 2 then if decide (a0.kind = 3) = false then if decide (a0.kind = 3) = false then (n142 (TreeExpr.mk 2 a0.num ByteArray.empty ByteArray.empty [])).bind fun y0 => some (TreeExpr.mk 2 a0.num ByteArray.empty ByteArray.empty [], y0) else some (TreeExpr.mk 2 a0.num ByteArray.empty ByteArray.empty [], false) else if decide (a0.kind = 3) = false then none else some (TreeExpr.mk 2 a0.num ByteArray.empty ByteArray.empty [], false) else if decide (a0.kind = 3) = false then if decide (a0.kind = 3) = false then (n142 (TreeExpr.mk 1 a0.num ByteArray.empty ByteArray.empty [])).bind fun y1 => some (TreeExpr.mk 1 a0.num ByteArray.empty ByteArray.empty [], y1) else some (TreeExpr.mk 1 a0.num ByteArray.empty ByteArray.empty [], false) else if decide (a0.kind = 3) = false then none else some (TreeExpr.mk 1 a0.num ByteArray.empty ByteArray.empty [], false) := by
  rw [n163, fnO_code h163 rfl Go.Proofs.Try.func163 (c := cd163) rfl (a0, ()) rfl]
  simp (maxSteps := 60000000) (disch := first | (intros; rename_i h; cases h; done) | decide +kernel) only [evS, seS, List.map_replicate, Nat.reduceDiv, Nat.reduceMod, Nat.reduceEqDiff, reduceCtorEq, ↓reduceIte, Nat.reduceLT, Nat.reduceAdd, Nat.reduceMul, Nat.reduceSub, Nat.reduceLeDiff, Nat.reduceBEq, Int.reduceEq, Int.reduceNeg, Int.reduceToNat, Int.reduceLE, Int.reduceLT, cd163, Go.Proofs.Try.f163, h163.r, m163, lv_pl, pl163, c142]
  all_goals try simp only [bindN_eq]
end Go.Fs.Se

set_option linter.unusedVariables false
set_option maxRecDepth 4000
namespace Go.Fs.Se
open Cel (cel unc)
open Dat (enc dec)
open Arg (ea da)
/-! ### folding a node whose kids are folded -/
theorem NE_mem {es : List TreeExpr} : ∀ k ∈ es, NE k ≤ NL es := by
  induction es with
  | nil => intro k hk; cases hk
  | cons e es ih =>
    intro k hk
    rw [NL_cons]
    cases hk with
    | head => omega
    | tail _ hk => have := ih k hk; omega
theorem flag_num {e : TreeExpr} (h : n135 e = some true) (k : e.kind = 2) : e.num = 0 ∨ e.num = 1 := by
  rw [n135_eq, k, if_neg (by decide), if_pos rfl] at h
  by_cases hl : (e.kids.length : Int) = 0
  · rw [if_pos hl, n154_eq] at h
    simp only [bindB, Option.bind_some, Option.some.injEq, Bool.and_eq_true, Bool.or_eq_true, decide_eq_true_eq] at h
    exact h.2
  · rw [if_neg hl] at h
    simp [bindB] at h
theorem if_len {e : TreeExpr} (h : n135 e = some true) (k : e.kind = 5) : e.kids.length = 3 := by
  rw [n135_eq, k, if_neg (by decide), if_neg (by decide), if_neg (by decide), if_neg (by decide), if_pos rfl] at h
  by_cases hl : (e.kids.length : Int) = 3
  · omega
  · rw [if_neg hl] at h; cases h
theorem prim_len {e : TreeExpr} (h : n135 e = some true) (k : e.kind = 4) : n155 e.name = some (e.kids.length : Int) := by
  rw [n135_eq, k, if_neg (by decide), if_neg (by decide), if_neg (by decide), if_pos rfl, n154_eq, Option.bind_some] at h
  split at h
  · obtain ⟨n, h1, h2⟩ := Option.bind_eq_some_iff.1 h
    simp only [Option.some.injEq, decide_eq_true_eq] at h2
    rw [h1, h2]
  · cases h
theorem known_ok {k : TreeExpr} (hr : n135 k = some true) (hok : okE k) : (∃ v, n106 k = some (v, true) ∧ ValP v ∧ v.kind = k.kind ∧ v.num = k.num) ∨ (k.kind ≠ 1 ∧ k.kind ≠ 2 ∧ n106 k = some (⟨0, 0, []⟩, false)) := by
  have hn := ((okE_iff k).1 hok).2.1
  rw [n106_eq]
  by_cases k1 : k.kind = 1
  · rw [if_pos k1, n140_eq]
    exact .inl ⟨_, rfl, ⟨rfl, .inl ⟨rfl, hn⟩⟩, k1.symm, rfl⟩
  · rw [if_neg k1]
    by_cases k2 : k.kind = 2
    · rw [if_pos k2, n141_eq]
      rcases flag_num hr k2 with h | h
      · rw [if_neg (by simp [h])]
        exact .inl ⟨_, rfl, ⟨rfl, .inr ⟨rfl, .inl rfl⟩⟩, k2.symm, h.symm⟩
      · rw [if_pos (by simp [h])]
        exact .inl ⟨_, rfl, ⟨rfl, .inr ⟨rfl, .inr rfl⟩⟩, k2.symm, h.symm⟩
    · rw [if_neg k2]
      exact .inr ⟨k1, k2, rfl⟩
noncomputable def end145 (g : TreeExpr) (r2 : List MeanVal) : Option (TreeExpr × Bool) := (n162 g.name r2).bind fun y2 => if decide (y2.snd = 0) = false then some (TreeExpr.mk 0 0 ByteArray.empty ByteArray.empty [], false) else (n163 y2.fst).bind fun y3 => some (y3.fst, y3.snd)
noncomputable def end105 (g : TreeExpr) (r2 : List MeanVal) : Option TreeExpr := bindB (if g.name = ByteArray.mk #[112, 114, 105, 110, 116] then some true else (n137 g.name r2).bind fun y8 => some !y8) fun y9 => if y9 = true then some g else (n138 g.name r2).bind fun y10 => (n139 y10.fst).bind fun y11 => if 0 < y10.snd ∨ y11.snd = false then some g else some y11.fst
theorem reck (g : TreeExpr) (hl : g.kids.length ≤ 1048576) (hk : ∀ k ∈ g.kids, n135 k = some true ∧ okE k) :
    (n145 g = some (⟨0, 0, .empty, .empty, []⟩, false) ∧ n105 g = some g) ∨ ∃ vs, vs.length = g.kids.length ∧ (∀ v ∈ vs, ValP v) ∧ n145 g = end145 g vs ∧ n105 g = end105 g vs := by
  have loop : ∀ (ys : List TreeExpr) (i : Nat) (r : List MeanVal), g.kids.drop i = ys → r.length = i → i ≤ g.kids.length → (∀ v ∈ r, ValP v) →
      (l145_3 g (i : Int) r = some (⟨0, 0, .empty, .empty, []⟩, false) ∧ l105_3 g (i : Int) r = some g) ∨ ∃ vs, vs.length = g.kids.length ∧ (∀ v ∈ vs, ValP v) ∧ l145_3 g (i : Int) r = end145 g vs ∧ l105_3 g (i : Int) r = end105 g vs := by
    intro ys
    induction ys with
    | nil =>
      intro i r hd hr hi hv
      have := dropEnd hd
      refine .inr ⟨r, by omega, hv, ?_, ?_⟩
      · rw [l145_3_eq, if_neg (by omega)]; rfl
      · rw [l105_3_eq, if_neg (by omega)]; rfl
    | cons y ys ih =>
      intro i r hd hr hi hv
      obtain ⟨d1, d2, d3, d4⟩ := dropAt hd
      obtain ⟨q1, q2⟩ := hk y (mem_drop hd)
      have e1 : ∀ {X : Option TreeExpr}, l105_3 g (i : Int) r = (n106 y).bind (fun y7 => if y7.snd = false then some g else if (r.length + 1) * 40 ≤ 140737488355328 ∧ r.length ≤ 140737488355327 then l105_3 g (IntKind.i64.wrap ((i : Int) + 1)) (r ++ [y7.fst]) else none) := by
        intro _
        rw [l105_3_eq, if_pos (by omega)]
        simp only [d2, d3, Int.toNat_natCast, Option.bind_some, eta_TreeExpr]
      have e2 : l145_3 g (i : Int) r = (n106 y).bind (fun y1 => if y1.snd = false then some (TreeExpr.mk 0 0 ByteArray.empty ByteArray.empty [], false) else if (r.length + 1) * 40 ≤ 140737488355328 ∧ r.length ≤ 140737488355327 then l145_3 g (IntKind.i64.wrap ((i : Int) + 1)) (r ++ [y1.fst]) else none) := by
        rw [l145_3_eq, if_pos (by omega)]
        simp only [d2, Option.bind_some, known_eq]
      rw [e1 (X := none), e2]
      rcases known_ok q1 q2 with ⟨v, v1, v2, _, _⟩ | ⟨_, _, v1⟩
      · have hm : (r.length + 1) * 40 ≤ 140737488355328 ∧ r.length ≤ 140737488355327 := ⟨by omega, by omega⟩
        simp only [v1, Option.bind_some, Bool.true_eq_false, if_false, hm, and_self, if_true, wrN (n := i) (by omega)]
        refine ih (i + 1) (r ++ [v]) d4 (by simp [hr]) (by omega) fun u hu => ?_
        rcases List.mem_append.1 hu with hu | hu
        · exact hv u hu
        · obtain rfl := List.mem_singleton.1 hu; exact v2
      · rw [v1, Option.bind_some, Option.bind_some, if_pos rfl, if_pos rfl]
        exact .inl ⟨rfl, rfl⟩
  have := loop g.kids 0 [] rfl rfl (by omega) (by simp)
  rw [n145_eq, n105_eq]
  exact this
theorem lit_ok {v : MeanVal} (hv : ValP v) : ∃ r b, n163 v = some (r, b) ∧ n139 v = some (r, b) ∧ (b = true → r.kids = [] ∧ okE r ∧ RightP r) := by
  have fin : ∀ k : Int, (k = 1 ∨ k = 2) → (-9223372036854775808 ≤ v.num ∧ v.num < 9223372036854775808) → ∃ b, n135 (TreeExpr.mk k v.num .empty .empty []) = some b ∧ n142 (TreeExpr.mk k v.num .empty .empty []) = some b ∧ (b = true → (TreeExpr.mk k v.num .empty .empty []).kids = [] ∧ okE (TreeExpr.mk k v.num .empty .empty []) ∧ RightP (TreeExpr.mk k v.num .empty .empty [])) := by
    intro k hk hn
    obtain ⟨b, h1, h2⟩ := node_ok (TreeExpr.mk k v.num .empty .empty []) (Nat.zero_le _) (Nat.zero_le _)
    refine ⟨b, h1, h2, fun hb => ⟨rfl, ?_, right_mk (by simp) (hb ▸ h1) (by simp)⟩⟩
    rw [okE_iff]
    have hb : -9223372036854775808 ≤ k ∧ k < 9223372036854775808 := by rcases hk with rfl | rfl <;> decide
    exact ⟨hb, hn, Nat.zero_le _, Nat.zero_le _, Nat.zero_le _, rfl⟩
  obtain ⟨_, hv | hv⟩ := hv
  · obtain ⟨b, h1, h2, h3⟩ := fin 1 (.inl rfl) hv.2
    refine ⟨_, b, ?_, ?_, h3⟩
    · rw [n163_eq, hv.1, if_neg (by decide), if_pos (by decide), if_pos (by decide), h2]; rfl
    · rw [n139_eq, hv.1, if_neg (by decide), if_pos (by decide), if_pos (by decide), h1]; rfl
  · obtain ⟨b, h1, h2, h3⟩ := fin 2 (.inr rfl) (by rcases hv.2 with h | h <;> omega)
    refine ⟨_, b, ?_, ?_, h3⟩
    · rw [n163_eq, hv.1, if_pos (by decide), if_pos (by decide), if_pos (by decide), h2]; rfl
    · rw [n139_eq, hv.1, if_pos (by decide), if_pos (by decide), if_pos (by decide), h1]; rfl
theorem map_two {vs : List MeanVal} {a b : Int} (h : vs.map (·.kind) = [a, b]) : ∃ x y, vs = [x, y] ∧ x.kind = a ∧ y.kind = b := by
  match vs, h with
  | [x, y], h => simp only [List.map_cons, List.map_nil, List.cons.injEq, and_true] at h; exact ⟨x, y, rfl, h.1, h.2⟩
theorem map_one {vs : List MeanVal} {a : Int} (h : vs.map (·.kind) = [a]) : ∃ x, vs = [x] ∧ x.kind = a := by
  match vs, h with
  | [x], h => simp only [List.map_cons, List.map_nil, List.cons.injEq, and_true] at h; exact ⟨x, rfl, h⟩
theorem no_row {vs : List MeanVal} {l : List Int} (hv : ∀ v ∈ vs, ValP v) (h : vs.map (·.kind) = 3 :: l) : False := by
  cases vs with
  | nil => cases h
  | cons x xs =>
    simp only [List.map_cons, List.cons.injEq] at h
    have := (hv x (.head _)).2
    omega
theorem calc_all (s : ByteArray) (hs : s ∈ P16) (n1 : s ≠ ⟨#[112, 114, 105, 110, 116]⟩) (n2 : s ≠ ⟨#[97, 110, 100]⟩) (n3 : s ≠ ⟨#[111, 114]⟩) (vs : List MeanVal) (hv : ∀ v ∈ vs, ValP v) (want : List Int) (t : Int) (hw : n156 s = some (want, t)) (hk : vs.map (·.kind) = want) : CalcP s vs := by
  have bin : ∀ s : ByteArray, s ∈ P16 → primN s ≤ 8 → n156 s = some (want, t) → want = [1, 1] → CalcP s vs := by
    intro s hs h8 _ e
    rw [e] at hk
    obtain ⟨x, y, rfl, kx, ky⟩ := map_two hk
    exact calc2 s hs h8 x y (hv x (by simp)) (hv y (by simp)) kx ky
  have wt : ∀ {s : ByteArray} {w : List Int} {u : Int}, n156 s = some (want, t) → n156 s = some (w, u) → want = w := by
    intro s w u h1 h2
    rw [h1] at h2
    simp only [Option.some.injEq, Prod.mk.injEq] at h2
    exact h2.1
  have T : ∀ {s : ByteArray} {w : List Int} {u : Int}, ((some (primN s)).bind fun y0 => if y0 = 0 then some ([], 0) else if y0 ≤ 5 then some ([1, 1], 1) else if y0 ≤ 8 then some ([1, 1], 2) else if y0 = 9 then some ([2], 2) else if y0 = 10 then some ([3, 1], 1) else if y0 = 11 then some ([3], 1) else if y0 = 12 then some ([3, 1, 1], 3) else if y0 = 13 then some ([3, 3], 3) else if y0 = 14 then some ([1], 1) else some ([2, 2], 2)) = some (w, u) → n156 s = some (w, u) := by
    intro s w u h
    rw [n156_eq, n103_ok]; exact h
  refine prim_cases (C := fun s => s ∈ P16 → s ≠ ⟨#[112, 114, 105, 110, 116]⟩ → s ≠ ⟨#[97, 110, 100]⟩ → s ≠ ⟨#[111, 114]⟩ → n156 s = some (want, t) → CalcP s vs) s ?_ ?_ ?_ ?_ ?_ ?_ ?_ ?_ ?_ ?_ ?_ ?_ ?_ ?_ ?_ ?_ (fun h h' => absurd h' h) hs n1 n2 n3 hw
  · intro a _ _ _ hw; exact bin _ a (by decide +kernel) hw (wt hw (T (u := 1) (by decide +kernel)))
  · intro a _ _ _ hw; exact bin _ a (by decide +kernel) hw (wt hw (T (u := 1) (by decide +kernel)))
  · intro a _ _ _ hw; exact bin _ a (by decide +kernel) hw (wt hw (T (u := 1) (by decide +kernel)))
  · intro a _ _ _ hw; exact bin _ a (by decide +kernel) hw (wt hw (T (u := 1) (by decide +kernel)))
  · intro a _ _ _ hw; exact bin _ a (by decide +kernel) hw (wt hw (T (u := 1) (by decide +kernel)))
  · intro a _ _ _ hw; exact bin _ a (by decide +kernel) hw (wt hw (T (u := 2) (by decide +kernel)))
  · intro a _ _ _ hw; exact bin _ a (by decide +kernel) hw (wt hw (T (u := 2) (by decide +kernel)))
  · intro a _ _ _ hw; exact bin _ a (by decide +kernel) hw (wt hw (T (u := 2) (by decide +kernel)))
  · intro a _ _ _ hw
    have := wt hw (T (w := [2]) (u := 2) (by decide +kernel))
    rw [this] at hk
    obtain ⟨x, rfl, _⟩ := map_one hk
    exact calc1 x
  · intro a _ _ _ hw
    have := wt hw (T (w := [3, 1]) (u := 1) (by decide +kernel))
    rw [this] at hk
    exact (no_row hv hk).elim
  · intro a _ _ _ hw
    have := wt hw (T (w := [3]) (u := 1) (by decide +kernel))
    rw [this] at hk
    exact (no_row hv hk).elim
  · intro a _ _ _ hw
    have := wt hw (T (w := [3, 1, 1]) (u := 3) (by decide +kernel))
    rw [this] at hk
    exact (no_row hv hk).elim
  · intro a _ _ _ hw
    have := wt hw (T (w := [3, 3]) (u := 3) (by decide +kernel))
    rw [this] at hk
    exact (no_row hv hk).elim
  · intro a h; exact absurd rfl h
  · intro a _ h; exact absurd rfl h
  · intro a _ _ h; exact absurd rfl h
/-- What is right of what a node comes to. -/
def OutP (g r : TreeExpr) : Prop := r = g ∨ r ∈ g.kids ∨ (r.kids = [] ∧ okE r ∧ RightP r)
theorem reck_ok (g : TreeExpr) (hl : g.kids.length ≤ 1048576) (hk : ∀ k ∈ g.kids, n135 k = some true ∧ okE k) (hs : g.name ∈ P16) (n1 : g.name ≠ ⟨#[112, 114, 105, 110, 116]⟩) (n2 : g.name ≠ ⟨#[97, 110, 100]⟩) (n3 : g.name ≠ ⟨#[111, 114]⟩) :
    ∃ r, ((n145 g).bind fun y16 => if y16.snd = true then some y16.fst else some g) = some r ∧ n105 g = some r ∧ OutP g r := by
  rcases reck g hl hk with ⟨h1, h2⟩ | ⟨vs, hvl, hv, h1, h2⟩
  · exact ⟨g, by rw [h1]; rfl, h2, .inl rfl⟩
  · obtain ⟨want, t, w1, w2, w3, _⟩ := type_ok g.name hs
    have hf := fits_ok g.name vs (by omega) want t w1 w3
    rw [h1, h2]
    unfold end145 end105
    rw [if_neg n1, hf, n162_eq, w2, Option.bind_some, if_neg w3, kinds_ok vs (by omega), Option.bind_some, same_ok _ _ (by rw [List.length_map]; omega), Option.bind_some]
    by_cases he : vs.map (·.kind) = want
    · obtain ⟨v, u, c1, c2, c3, c4, c5⟩ := calc_all g.name hs n1 n2 n3 vs hv want t w1 he
      simp only [he, decide_true, Bool.not_true, bindB, Option.bind_some, Bool.false_eq_true, if_false, c1, c2]
      by_cases hu : u = 0
      · subst hu
        obtain ⟨r, b, l1, l2, l3⟩ := lit_ok (c4 rfl)
        simp only [decide_true, Bool.true_eq_false, if_false, l1, l2, Option.bind_some]
        cases b with
        | true => exact ⟨r, by simp, by simp, .inr (.inr (l3 rfl))⟩
        | false => exact ⟨g, by simp, by simp, .inl rfl⟩
      · have hpos : 0 < u := by omega
        have hd : decide (u = 0) = false := by simp [hu]
        refine ⟨g, by simp [hu], ?_, .inl rfl⟩
        obtain rfl := c5 hu
        obtain ⟨b, l1, _⟩ := node_ok (TreeExpr.mk 1 0 .empty .empty []) (by decide) (by decide)
        have l2 : n139 ⟨0, 0, []⟩ = some (TreeExpr.mk 1 0 .empty .empty [], b) := by
          rw [n139_eq, if_neg (by decide), if_pos (by decide), if_pos (by decide), l1]; rfl
        simp [l2, hpos]
    · simp only [he, decide_false, Bool.not_false, bindB, Option.bind_some, if_true]
      exact ⟨g, by simp, rfl, .inl rfl⟩
/-! ### a node, folded by both -/
noncomputable def end64 (g : TreeExpr) : Option TreeExpr := bindB (if g.kind = 4 then (n103 g.name).bind fun y2 => some (decide (14 < y2)) else some false) fun y3 => if y3 = true then n104 g else if g.kind = 4 then n105 g else if g.kind = 5 then (getI g.kids 0).bind fun y4 => g.kids[0]?.bind fun y7 => g.kids[0]?.bind fun y10 => (n106 (TreeExpr.mk y7.kind y7.num y7.name y7.mod y10.kids)).bind fun y11 => if y11.snd = true ∧ y11.fst.kind = 2 then (getI g.kids (IntKind.i64.wrap (2 - y11.fst.num))).bind fun y12 => g.kids[(IntKind.i64.wrap (2 - y11.fst.num)).toNat]?.bind fun y15 => g.kids[(IntKind.i64.wrap (2 - y11.fst.num)).toNat]?.bind fun y18 => some (TreeExpr.mk y15.kind y15.num y15.name y15.mod y18.kids) else some g else some g
theorem len3 {es : List TreeExpr} (h : es.length = 3) : ∃ a b c, es = [a, b, c] := by
  match es, h with
  | [a, b, c], _ => exact ⟨a, b, c, rfl⟩
theorem len2 {es : List TreeExpr} (h : es.length = 2) : ∃ a b, es = [a, b] := by
  match es, h with
  | [a, b], _ => exact ⟨a, b, rfl⟩
theorem node_if (g : TreeExpr) (k5 : g.kind = 5) (h0 : n135 g = some true) (hk : ∀ k ∈ g.kids, n135 k = some true ∧ okE k) : ∃ r, n109 g = some r ∧ end64 g = some r ∧ OutP g r := by
  obtain ⟨a, b, c, hab⟩ := len3 (if_len h0 k5)
  obtain ⟨qa, qo⟩ := hk a (by rw [hab]; simp)
  have w1 : IntKind.i64.wrap (2 - 1) = 1 := by decide
  have w0 : IntKind.i64.wrap (2 - 0) = 2 := by decide
  have g0 : ∀ x y z : TreeExpr, getI [x, y, z] 0 = some x := fun _ _ _ => rfl
  have g1 : ∀ x y z : TreeExpr, getI [x, y, z] 1 = some y := fun _ _ _ => rfl
  have g2 : ∀ x y z : TreeExpr, getI [x, y, z] 2 = some z := fun _ _ _ => rfl
  have i0 : ∀ x y z : TreeExpr, [x, y, z][0]? = some x := fun _ _ _ => rfl
  have i1 : ∀ x y z : TreeExpr, [x, y, z][(1 : Int).toNat]? = some y := fun _ _ _ => rfl
  have i2 : ∀ x y z : TreeExpr, [x, y, z][(2 : Int).toNat]? = some z := fun _ _ _ => rfl
  have d4 : (5 : Int) = 4 ↔ False := by decide
  have e109 := n109_eq g
  have e64 : end64 g = _ := rfl
  unfold end64 at e64 ⊢
  clear e64
  simp only [k5, hab, g0, i0, Option.bind_some, bindB, if_true, d4, if_false, Bool.false_eq_true, eta_TreeExpr] at e109 ⊢
  rcases known_ok qa qo with ⟨v, v1, v2, v3, v4⟩ | ⟨u1, u2, v1⟩
  · rw [v1]
    simp only [Option.bind_some, true_and]
    by_cases a2 : a.kind = 2
    · have hv2 : v.kind = 2 := by rw [v3, a2]
      simp only [a2, decide_true, if_true] at e109
      rw [if_pos hv2, v4]
      rcases flag_num qa a2 with h | h
      · simp only [h, w0, g2, Option.bind_some, i2, eta_TreeExpr] at e109 ⊢
        exact ⟨c, e109, rfl, .inr (.inl (by rw [hab]; simp))⟩
      · simp only [h, w1, g1, Option.bind_some, i1, eta_TreeExpr] at e109 ⊢
        exact ⟨b, e109, rfl, .inr (.inl (by rw [hab]; simp))⟩
    · have hv2 : v.kind ≠ 2 := by rw [v3]; exact a2
      rw [if_neg hv2]
      simp only [a2, decide_false, Bool.false_eq_true, if_false, decide_true, true_or, if_true] at e109
      exact ⟨g, e109, rfl, .inl rfl⟩
  · rw [v1]
    simp only [Option.bind_some, Bool.false_eq_true, false_and, if_false]
    simp only [u2, decide_false, Bool.false_eq_true, if_false, decide_true, true_or, if_true] at e109
    exact ⟨g, e109, rfl, .inl rfl⟩
theorem node_else (g : TreeExpr) (k4 : g.kind ≠ 4) (k5 : g.kind ≠ 5) : n109 g = some g ∧ end64 g = some g := by
  rw [n109_eq]
  unfold end64
  simp [k4, k5, bindB]
theorem node_prim (g : TreeExpr) (k4 : g.kind = 4) (h0 : n135 g = some true) (hl : g.kids.length ≤ 1048576) (hk : ∀ k ∈ g.kids, n135 k = some true ∧ okE k) : ∃ r, n109 g = some r ∧ end64 g = some r ∧ OutP g r := by
  have har := prim_len h0 k4
  have hs : g.name ∈ P16 := by
    by_cases h : g.name ∈ P16
    · exact h
    · have e : n155 g.name = some (-1) := by rw [n155_eq, n103_ok, show primN g.name = 0 from find_no _ _ _ h, Option.bind_some, if_pos rfl]
      rw [e] at har
      simp only [Option.some.injEq] at har
      omega
  have d5 : (4 : Int) = 5 ↔ False := by decide
  have e109 := n109_eq g
  simp only [k4, d5, if_false, bindB, Option.bind_some, Bool.false_eq_true, decide_true, Bool.true_eq_false, false_or] at e109
  have e64 : end64 g = if decide (14 < primN g.name) = true then n104 g else n105 g := by
    unfold end64
    simp only [k4, if_true, n103_ok, Option.bind_some, bindB]
  by_cases n1 : g.name = ⟨#[112, 114, 105, 110, 116]⟩
  · rw [if_pos n1] at e109
    rw [e109, e64, n1, if_neg (by decide +kernel)]
    refine ⟨g, rfl, ?_, .inl rfl⟩
    rcases reck g hl hk with ⟨_, h2⟩ | ⟨vs, _, _, _, h2⟩
    · exact h2
    · rw [h2]; unfold end105; rw [if_pos n1]; simp [bindB]
  rw [if_neg n1] at e109
  have half : (g.name = ⟨#[97, 110, 100]⟩ ∨ g.name = ⟨#[111, 114]⟩) → ∃ r, n109 g = some r ∧ end64 g = some r ∧ OutP g r := by
    intro hn
    have hlen : g.kids.length = 2 := by
      have : n155 g.name = some 2 := by
        rcases hn with h | h <;> rw [h, n155_eq, n103_ok] <;> decide +kernel
      rw [this] at har
      simp only [Option.some.injEq] at har
      omega
    obtain ⟨a, b, hab⟩ := len2 hlen
    obtain ⟨qa, qo⟩ := hk a (by rw [hab]; simp)
    have hp : decide (14 < primN g.name) = true := by rcases hn with h | h <;> rw [h] <;> decide +kernel
    have g0 : ∀ x y : TreeExpr, getI [x, y] 0 = some x := fun _ _ => rfl
    have g1 : ∀ x y : TreeExpr, getI [x, y] 1 = some y := fun _ _ => rfl
    have i0 : ∀ x y : TreeExpr, [x, y][0]? = some x := fun _ _ => rfl
    have i1 : ∀ x y : TreeExpr, [x, y][1]? = some y := fun _ _ => rfl
    have hnn : ¬ (decide (g.name = ⟨#[97, 110, 100]⟩) = false ∧ decide (g.name = ⟨#[111, 114]⟩) = false) := by
      rintro ⟨x, y⟩
      rcases hn with h | h
      · simp [h] at x
      · simp [h] at y
    rw [if_neg hnn] at e109
    rw [if_pos hp] at e64
    have e104 := n104_eq g
    simp only [hab, g0, g1, i0, i1, Option.bind_some, eta_TreeExpr] at e109 e104
    rw [e64, e104]
    rcases known_ok qa qo with ⟨v, v1, v2, v3, v4⟩ | ⟨u1, u2, v1⟩
    · rw [v1]
      simp only [Option.bind_some, v3, v4, Bool.true_eq_false, false_or]
      by_cases a2 : a.kind = 2
      · simp only [a2, if_true, decide_true, Bool.true_eq_false, if_false] at e109 ⊢
        have hb : (decide (a.num = 1) == decide (g.name = ⟨#[97, 110, 100]⟩)) = (decide (g.name = ⟨#[97, 110, 100]⟩) == decide (a.num = 1)) := by
          cases decide (a.num = 1) <;> cases decide (g.name = ⟨#[97, 110, 100]⟩) <;> rfl
        rw [hb] at e109
        by_cases hc : (decide (g.name = ⟨#[97, 110, 100]⟩) == decide (a.num = 1)) = true
        · rw [if_pos hc] at e109 ⊢
          exact ⟨b, e109, rfl, .inr (.inl (by rw [hab]; simp))⟩
        · rw [if_neg hc] at e109 ⊢
          exact ⟨a, e109, rfl, .inr (.inl (by rw [hab]; simp))⟩
      · simp only [a2, if_false, decide_false, if_true] at e109 ⊢
        exact ⟨g, e109, rfl, .inl rfl⟩
    · rw [v1]
      simp only [Option.bind_some, true_or, if_true]
      simp only [u2, if_false] at e109
      exact ⟨g, e109, rfl, .inl rfl⟩
  by_cases n2 : g.name = ⟨#[97, 110, 100]⟩
  · exact half (.inl n2)
  by_cases n3 : g.name = ⟨#[111, 114]⟩
  · exact half (.inr n3)
  obtain ⟨r, r1, r2, r3⟩ := reck_ok g hl hk hs n1 n2 n3
  have hp : ¬ decide (14 < primN g.name) = true := by
    refine prim_cases (C := fun s => s ≠ ⟨#[97, 110, 100]⟩ → s ≠ ⟨#[111, 114]⟩ → ¬ decide (14 < primN s) = true) g.name ?_ ?_ ?_ ?_ ?_ ?_ ?_ ?_ ?_ ?_ ?_ ?_ ?_ ?_ ?_ ?_ (fun h => absurd hs h) n2 n3
    all_goals intro a b
    all_goals first
      | decide +kernel
      | exact absurd rfl a
      | exact absurd rfl b
  rw [if_pos ⟨by simp [n2], by simp [n3]⟩, r1] at e109
  rw [if_neg hp, r2] at e64
  exact ⟨r, e109, e64, r3⟩
theorem node_fold (g : TreeExpr) (h0 : n135 g = some true) (hl : g.kids.length ≤ 1048576) (hk : ∀ k ∈ g.kids, n135 k = some true ∧ okE k) : ∃ r, n109 g = some r ∧ end64 g = some r ∧ OutP g r := by
  by_cases k4 : g.kind = 4
  · exact node_prim g k4 h0 hl hk
  by_cases k5 : g.kind = 5
  · exact node_if g k5 h0 hk
  obtain ⟨h1, h2⟩ := node_else g k4 k5
  exact ⟨g, h1, h2, .inl rfl⟩

/-! ### folding -/
inductive F2 {α β : Type} (R : α → β → Prop) : List α → List β → Prop
  | nil : F2 R [] []
  | cons {x y xs ys} : R x y → F2 R xs ys → F2 R (x :: xs) (y :: ys)
theorem F2.of {α β : Type} {R : α → β → Prop} : ∀ {xs : List α}, (∀ x ∈ xs, ∃ y, R x y) → ∃ ys, F2 R xs ys
  | [], _ => ⟨[], .nil⟩
  | x :: xs, h => by
    obtain ⟨y, hy⟩ := h x (.head _)
    obtain ⟨ys, hys⟩ := F2.of (xs := xs) fun x hx => h x (.tail _ hx)
    exact ⟨y :: ys, .cons hy hys⟩
theorem F2.len {α β : Type} {R : α → β → Prop} : ∀ {xs : List α} {ys : List β}, F2 R xs ys → ys.length = xs.length
  | _, _, .nil => rfl
  | _, _, .cons _ h => by rw [List.length_cons, List.length_cons, h.len]
theorem F2.mem {α β : Type} {R : α → β → Prop} : ∀ {xs : List α} {ys : List β}, F2 R xs ys → ∀ y ∈ ys, ∃ x ∈ xs, R x y
  | _, _, .nil, y, h => by cases h
  | _, _, .cons hr h, y, hy => by
    cases hy with
    | head => exact ⟨_, .head _, hr⟩
    | tail _ hy => obtain ⟨x, hx, hr⟩ := h.mem y hy; exact ⟨x, .tail _ hx, hr⟩
/-- What the two foldings of a tree come to. -/
def FoldP (k r : TreeExpr) : Prop := n67 k = some r ∧ n64 k = some r ∧ okE r ∧ RightP r ∧ NE r ≤ NE k
theorem F2.nodes : ∀ {xs ys : List TreeExpr}, F2 FoldP xs ys → NL ys ≤ NL xs
  | _, _, .nil => Nat.le_refl _
  | _, _, .cons hr h => by have := h.nodes; have := hr.2.2.2.2; rw [NL_cons, NL_cons]; omega
theorem F2.oks : ∀ {xs ys : List TreeExpr}, F2 FoldP xs ys → okEs ys
  | _, _, .nil => rfl
  | _, _, .cons hr h => (okEs_cons _ _).2 ⟨hr.2.2.1, h.oks⟩
theorem fold_ok : ∀ e : TreeExpr, okE e → RightP e → W e ≤ 1048576 → ∃ r, FoldP e r := by
  intro e
  induction e using tree_ind with
  | h e ih =>
    intro hok hr hw
    obtain ⟨k1, k2, k3, k4, k5, k6⟩ := (okE_iff e).1 hok
    rw [W_eq] at hw
    obtain ⟨h0, hkr⟩ := right_inv k5 hr
    obtain ⟨rs, hrs⟩ := F2.of (R := FoldP) (xs := e.kids) fun k hk => ih k hk (okEs_mem k6 k hk) (hkr k hk) (by have := WL_mem (es := e.kids) k hk; omega)
    have hlen := hrs.len
    have loop : ∀ (ys zs : List TreeExpr) (i : Nat) (acc : List TreeExpr), F2 FoldP ys zs → e.kids.drop i = ys → acc.length = i → i ≤ e.kids.length →
        l67_3 e (i : Int) acc = n109 (TreeExpr.mk e.kind e.num e.name e.mod (acc ++ zs)) ∧ l64_3 e (i : Int) acc = end64 (TreeExpr.mk e.kind e.num e.name e.mod (acc ++ zs)) := by
      intro ys zs i acc hF
      induction hF generalizing i acc with
      | nil =>
        intro hd ha hi
        have := dropEnd hd
        rw [List.append_nil]
        refine ⟨?_, ?_⟩
        · rw [l67_3_eq, if_neg (by omega)]
        · rw [l64_3_eq, if_neg (by omega)]; rfl
      | @cons x y xs ys hr hF ihF =>
        intro hd ha hi
        obtain ⟨d1, d2, d3, d4⟩ := dropAt hd
        obtain ⟨f1, f2, _⟩ := hr
        obtain ⟨r1, r2⟩ := ihF (i + 1) (acc ++ [y]) d4 (by simp [ha]) (by omega)
        rw [l67_3_eq, l64_3_eq, if_pos (by omega), if_pos (by omega), d2, Option.bind_some, Option.bind_some, f1, f2, Option.bind_some, Option.bind_some, if_pos ⟨by omega, by omega⟩, if_pos ⟨by omega, by omega⟩, wrN (by omega)]
        rw [List.append_assoc] at r1 r2
        exact ⟨r1, r2⟩
    obtain ⟨l1, l2⟩ := loop e.kids rs 0 [] hrs rfl rfl (by omega)
    rw [List.nil_append] at l1 l2
    have hg0 : n135 (TreeExpr.mk e.kind e.num e.name e.mod rs) = some true := by
      rw [n135_eq] at h0 ⊢
      simp only [n154_eq, hlen] at h0 ⊢
      exact h0
    have hgk : ∀ k ∈ rs, n135 k = some true ∧ okE k := fun k hk => by
      obtain ⟨x, hx, f⟩ := hrs.mem k hk
      have := (okE_iff k).1 f.2.2.1
      exact ⟨(right_inv this.2.2.2.2.1 f.2.2.2.1).1, f.2.2.1⟩
    have hgok : okE (TreeExpr.mk e.kind e.num e.name e.mod rs) := (okE_iff _).2 ⟨k1, k2, k3, k4, by show rs.length ≤ _; omega, hrs.oks⟩
    have hgr : RightP (TreeExpr.mk e.kind e.num e.name e.mod rs) := right_mk (by show rs.length ≤ _; omega) hg0 fun k hk => by
      obtain ⟨x, hx, f⟩ := hrs.mem k hk
      exact f.2.2.2.1
    have hgn : NE (TreeExpr.mk e.kind e.num e.name e.mod rs) ≤ NE e := by
      rw [NE_eq, NE_eq]
      have := hrs.nodes
      show 1 + NL rs ≤ _
      omega
    obtain ⟨r, r1, r2, r3⟩ := node_fold (TreeExpr.mk e.kind e.num e.name e.mod rs) hg0 (by show rs.length ≤ _; omega) hgk
    refine ⟨r, ?_, ?_, ?_⟩
    · rw [n67_eq]; exact l1.trans r1
    · rw [n64_eq]; exact l2.trans r2
    · rcases r3 with rfl | hm | ⟨h1, h2, h3⟩
      · exact ⟨hgok, hgr, hgn⟩
      · have hm : r ∈ rs := hm
        obtain ⟨x, hx, f⟩ := hrs.mem r hm
        refine ⟨f.2.2.1, f.2.2.2.1, ?_⟩
        have := NE_mem (es := rs) r hm
        have h2 : NE (TreeExpr.mk e.kind e.num e.name e.mod rs) = 1 + NL rs := NE_eq _
        omega
      · refine ⟨h2, h3, ?_⟩
        rw [NE_eq r, h1, NL_nil, NE_eq]
        omega
end Go.Fs.Se

set_option linter.unusedVariables false
set_option linter.unusedSimpArgs false
set_option maxRecDepth 40000
set_option maxHeartbeats 4000000
open Go.RowKit
namespace Go.Fs.Se
open Cel (cel unc)
open Dat (enc dec)
open Arg (ea da)
/-! loop.example/smithy/spec.TreeOk -/
noncomputable def l73_5 (a0 : TreeMod) (t4 : Int) (r1 : List ByteArray) : Option (Bool) := evRAt (envOf M .x) (lvT 73) cd73 [true, true, true, false, true, false] (endK (β := Bool) M 73 .x Go.Proofs.Try.f73.results.toList) (stL 71 [(1, AV.a 500000 0), (3, AV.r 500001), (4, AV.d (D.i IntKind.i64 t4))] [(500000, some (Ob.box [AV.d (D.l 1 (List.map cel a0.uses)), AV.d (D.l 9 (List.map cel a0.funs)), AV.d (D.l 5 (List.map cel a0.main))])), (500001, some (Ob.row 1 (List.map cel r1) true false 0))])
theorem n73_eq (a0 : TreeMod) : n73 a0 = bindB (if (4 < (↑a0.uses.length : Int) ∨ 8 < (↑a0.funs.length : Int)) ∨ 1 < (↑a0.main.length : Int) then some true else (n111 a0.uses).bind fun y0 => some !y0) fun y1 => bindB (if y1 = true then some true else (n112 a0).bind fun y2 => some !y2) fun y3 => if y3 = true then some false else l73_5 a0 0 [] := by
  rw [n73, fnO_code h73 rfl Go.Proofs.Try.func73 (c := cd73) rfl (a0, ()) rfl]
  simp (maxSteps := 60000000) (disch := first | (intros; rename_i h; cases h; done) | decide +kernel) only [evS, seS, List.map_replicate, Nat.reduceDiv, Nat.reduceMod, Nat.reduceEqDiff, reduceCtorEq, ↓reduceIte, Nat.reduceLT, Nat.reduceAdd, Nat.reduceMul, Nat.reduceSub, Nat.reduceLeDiff, Nat.reduceBEq, Int.reduceEq, Int.reduceNeg, Int.reduceToNat, Int.reduceLE, Int.reduceLT, cd73, Go.Proofs.Try.f73, h73.r, m73, lv_pl, pl73, c102, c111, c112, c113, lv73_5, l73_5]
  all_goals try simp only [rnS, seS, Nat.reduceEqDiff, reduceCtorEq, ↓reduceIte, Nat.reduceAdd, Nat.reduceLeDiff, Nat.reduceBEq, Nat.reduceMul, lv73_5]
  all_goals try simp only [bindN_eq]
theorem l73_5_eq (a0 : TreeMod) (t4 : Int) (r1 : List ByteArray) : l73_5 a0 t4 r1 = if t4 < (↑a0.funs.length : Int) then (getI a0.funs t4).bind fun y0 => if (r1.length + 1) * 16 ≤ 140737488355328 ∧ r1.length ≤ 140737488355327 then (getI a0.funs t4).bind fun y1 => (n113 y1).bind fun y2 => if y2 = false then some false else l73_5 a0 (IntKind.i64.wrap (t4 + 1)) (r1 ++ [y0.name]) else none else (n111 r1).bind fun y3 => if y3 = true then if (↑a0.main.length : Int) = 0 then some true else (getI a0.main 0).bind fun y4 => n102 y4 else some false := by
  rw [l73_5]
  simp only [evRAt, locS, cd73, Go.Proofs.Try.f73]
  rw [evR_eq]
  simp (maxSteps := 60000000) (disch := first | (intros; rename_i h; cases h; done) | decide +kernel) only [evS, seS, List.map_replicate, Nat.reduceDiv, Nat.reduceMod, Nat.reduceEqDiff, reduceCtorEq, ↓reduceIte, Nat.reduceLT, Nat.reduceAdd, Nat.reduceMul, Nat.reduceSub, Nat.reduceLeDiff, Nat.reduceBEq, Int.reduceEq, Int.reduceNeg, Int.reduceToNat, Int.reduceLE, Int.reduceLT, cd73, Go.Proofs.Try.f73, h73.r, m73, lv_pl, pl73, c102, c111, c112, c113, lv73_5, l73_5]
  all_goals try simp only [rnS, seS, Nat.reduceEqDiff, reduceCtorEq, ↓reduceIte, Nat.reduceAdd, Nat.reduceLeDiff, Nat.reduceBEq, Nat.reduceMul, lv73_5]
  all_goals try simp only [bindN_eq]
end Go.Fs.Se

set_option linter.unusedVariables false
set_option linter.unusedSimpArgs false
set_option maxRecDepth 40000
set_option maxHeartbeats 4000000
open Go.RowKit
namespace Go.Fs.Se
open Cel (cel unc)
open Dat (enc dec)
open Arg (ea da)
/-! loop.example/smithy/impl.TreeOk -/
noncomputable def l78_5 (a0 : TreeMod) (t4 : Int) (t37 : Int) (r1 : List ByteArray) : Option (Bool) := evRAt (envOf M .x) (lvT 78) cd78 [true, true, true, false, true, false] (endK (β := Bool) M 78 .x Go.Proofs.Try.f78.results.toList) (stL 94 [(1, AV.a 500000 0), (3, AV.r 500001), (4, AV.d (D.i IntKind.i64 t4)), (35, AV.d (D.l 9 (List.map cel a0.funs))), (36, AV.d (D.i IntKind.i64 (↑a0.funs.length : Int))), (37, AV.d (D.i IntKind.i64 t37))] [(500000, some (Ob.box [AV.d (D.l 1 (List.map cel a0.uses)), AV.d (D.l 9 (List.map cel a0.funs)), AV.d (D.l 5 (List.map cel a0.main))])), (500001, some (Ob.row 1 (List.map cel r1) true false 0))])
noncomputable def l78_12 (a0 : TreeMod) (t4 : Int) (t70 : List TreeExpr) (t71 : Int) (t72 : Int) (r0 : List ByteArray) : Option (Bool) := evRAt (envOf M .x) (lvT 78) cd78 [true, true, true, true, false, true, false] (endK (β := Bool) M 78 .x Go.Proofs.Try.f78.results.toList) (stL 94 [(3, AV.r 500000), (4, AV.d (D.i IntKind.i64 t4)), (70, AV.d (D.l 5 (List.map cel t70))), (71, AV.d (D.i IntKind.i64 t71)), (72, AV.d (D.i IntKind.i64 t72))] [(500000, some (Ob.row 1 (List.map cel r0) true false 0))])
theorem n78_eq (a0 : TreeMod) : n78 a0 = bindB (if (4 < (↑a0.uses.length : Int) ∨ 8 < (↑a0.funs.length : Int)) ∨ 1 < (↑a0.main.length : Int) then some true else (n115 a0.uses).bind fun y0 => some !y0) fun y1 => if y1 = true then some false else l78_5 a0 0 0 [] := by
  rw [n78, fnO_code h78 rfl Go.Proofs.Try.func78 (c := cd78) rfl (a0, ()) rfl]
  simp (maxSteps := 60000000) (disch := first | (intros; rename_i h; cases h; done) | decide +kernel) only [evS, seS, List.map_replicate, Nat.reduceDiv, Nat.reduceMod, Nat.reduceEqDiff, reduceCtorEq, ↓reduceIte, Nat.reduceLT, Nat.reduceAdd, Nat.reduceMul, Nat.reduceSub, Nat.reduceLeDiff, Nat.reduceBEq, Int.reduceEq, Int.reduceNeg, Int.reduceToNat, Int.reduceLE, Int.reduceLT, cd78, Go.Proofs.Try.f78, h78.r, m78, lv_pl, pl78, c66, c107, c115, c116, c117, c118, c119, c120, lv78_12, lv78_5, l78_12, l78_5]
  all_goals try simp only [rnS, seS, Nat.reduceEqDiff, reduceCtorEq, ↓reduceIte, Nat.reduceAdd, Nat.reduceLeDiff, Nat.reduceBEq, Nat.reduceMul, lv78_12, lv78_5]
  all_goals try simp only [bindN_eq]
theorem l78_5_eq (a0 : TreeMod) (t4 : Int) (t37 : Int) (r1 : List ByteArray) : l78_5 a0 t4 t37 r1 = if t37 < (↑a0.funs.length : Int) then (getI a0.funs t37).bind fun y0 => if (r1.length + 1) * 16 ≤ 140737488355328 ∧ r1.length ≤ 140737488355327 then bindB (if 4 < (↑y0.args.length : Int) then some true else (n116 y0.args).bind fun y1 => (n115 y1).bind fun y2 => some !y2) fun y3 => bindB (if y3 = true then some true else (n117 y0.type).bind fun y4 => some !y4) fun y5 => bindB (if y5 = true then some true else n118 y0.args (Fv.mk (D.f 119 []))) fun y6 => if y6 = true then some false else l78_5 a0 t4 (IntKind.i64.wrap (t37 + 1)) (r1 ++ [y0.name]) else none else (n120 a0).bind fun y7 => l78_12 a0 t4 y7 (↑y7.length : Int) 0 r1 := by
  rw [l78_5]
  simp only [evRAt, locS, cd78, Go.Proofs.Try.f78]
  rw [evR_eq]
  simp (maxSteps := 60000000) (disch := first | (intros; rename_i h; cases h; done) | decide +kernel) only [evS, seS, List.map_replicate, Nat.reduceDiv, Nat.reduceMod, Nat.reduceEqDiff, reduceCtorEq, ↓reduceIte, Nat.reduceLT, Nat.reduceAdd, Nat.reduceMul, Nat.reduceSub, Nat.reduceLeDiff, Nat.reduceBEq, Int.reduceEq, Int.reduceNeg, Int.reduceToNat, Int.reduceLE, Int.reduceLT, cd78, Go.Proofs.Try.f78, h78.r, m78, lv_pl, pl78, c66, c107, c115, c116, c117, c118, c119, c120, lv78_12, lv78_5, l78_12, l78_5]
  all_goals try simp only [rnS, seS, Nat.reduceEqDiff, reduceCtorEq, ↓reduceIte, Nat.reduceAdd, Nat.reduceLeDiff, Nat.reduceBEq, Nat.reduceMul, lv78_12, lv78_5]
  all_goals try simp only [bindN_eq]
theorem l78_12_eq (a0 : TreeMod) (t4 : Int) (t70 : List TreeExpr) (t71 : Int) (t72 : Int) (r0 : List ByteArray) : l78_12 a0 t4 t70 t71 t72 r0 = if t72 < t71 then (getI t70 t72).bind fun y0 => (n107 y0).bind fun y1 => bindB (if 150 < IntKind.i64.wrap (t4 + y1.fst) then some true else (n66 y0).bind fun y2 => some !y2) fun y3 => if y3 = true then some false else l78_12 a0 (IntKind.i64.wrap (t4 + y1.fst)) t70 t71 (IntKind.i64.wrap (t72 + 1)) r0 else n115 r0 := by
  rw [l78_12]
  simp only [evRAt, locS, cd78, Go.Proofs.Try.f78]
  rw [evR_eq]
  simp (maxSteps := 60000000) (disch := first | (intros; rename_i h; cases h; done) | decide +kernel) only [evS, seS, List.map_replicate, Nat.reduceDiv, Nat.reduceMod, Nat.reduceEqDiff, reduceCtorEq, ↓reduceIte, Nat.reduceLT, Nat.reduceAdd, Nat.reduceMul, Nat.reduceSub, Nat.reduceLeDiff, Nat.reduceBEq, Int.reduceEq, Int.reduceNeg, Int.reduceToNat, Int.reduceLE, Int.reduceLT, cd78, Go.Proofs.Try.f78, h78.r, m78, lv_pl, pl78, c66, c107, c115, c116, c117, c118, c119, c120, lv78_12, lv78_5, l78_12, l78_5]
  all_goals try simp only [rnS, seS, Nat.reduceEqDiff, reduceCtorEq, ↓reduceIte, Nat.reduceAdd, Nat.reduceLeDiff, Nat.reduceBEq, Nat.reduceMul, lv78_12, lv78_5]
  all_goals try simp only [bindN_eq]
end Go.Fs.Se

set_option linter.unusedVariables false
set_option linter.unusedSimpArgs false
set_option maxRecDepth 40000
set_option maxHeartbeats 4000000
open Go.RowKit
namespace Go.Fs.Se
open Cel (cel unc)
open Dat (enc dec)
open Arg (ea da)
/-! loop.example/smithy/spec.l2Uses -/
noncomputable def l111_2 (a0 : (List ByteArray)) (t3 : Int) : Option (Bool) := evRAt (envOf M .x) (lvT 111) cd111 [true, false, true, false] (endK (β := Bool) M 111 .x Go.Proofs.Try.f111.results.toList) (stL 31 [(0, AV.d (D.l 1 (List.map cel a0))), (3, AV.d (D.i IntKind.i64 t3))] [])
noncomputable def l111_7 (a0 : (List ByteArray)) (t3 : Int) (t4 : Int) : Option (Bool) := evRAt (envOf M .x) (lvT 111) cd111 [true, false, true, false, false, true, false, false, true, true, false] (endK (β := Bool) M 111 .x Go.Proofs.Try.f111.results.toList) (stL 31 [(0, AV.d (D.l 1 (List.map cel a0))), (3, AV.d (D.i IntKind.i64 t3)), (4, AV.d (D.i IntKind.i64 t4))] [])
theorem n111_eq (a0 : (List ByteArray)) : n111 a0 = l111_2 a0 0 := by
  rw [n111, fnO_code h111 rfl Go.Proofs.Try.func111 (c := cd111) rfl (a0, ()) rfl]
  simp (maxSteps := 60000000) (disch := first | (intros; rename_i h; cases h; done) | decide +kernel) only [evS, seS, List.map_replicate, Nat.reduceDiv, Nat.reduceMod, Nat.reduceEqDiff, reduceCtorEq, ↓reduceIte, Nat.reduceLT, Nat.reduceAdd, Nat.reduceMul, Nat.reduceSub, Nat.reduceLeDiff, Nat.reduceBEq, Int.reduceEq, Int.reduceNeg, Int.reduceToNat, Int.reduceLE, Int.reduceLT, cd111, Go.Proofs.Try.f111, h111.r, m111, lv_pl, pl111, c85, lv111_7, lv111_2, l111_2, l111_7]
  all_goals try simp only [rnS, seS, Nat.reduceEqDiff, reduceCtorEq, ↓reduceIte, Nat.reduceAdd, Nat.reduceLeDiff, Nat.reduceBEq, Nat.reduceMul, lv111_7, lv111_2]
theorem l111_2_eq (a0 : (List ByteArray)) (t3 : Int) : l111_2 a0 t3 = if t3 < (↑a0.length : Int) then (getI a0 t3).bind fun y0 => (n85 y0).bind fun y1 => if y1 = false then some false else l111_7 a0 t3 0 else some true := by
  rw [l111_2]
  simp only [evRAt, locS, cd111, Go.Proofs.Try.f111]
  rw [evR_eq]
  simp (maxSteps := 60000000) (disch := first | (intros; rename_i h; cases h; done) | decide +kernel) only [evS, seS, List.map_replicate, Nat.reduceDiv, Nat.reduceMod, Nat.reduceEqDiff, reduceCtorEq, ↓reduceIte, Nat.reduceLT, Nat.reduceAdd, Nat.reduceMul, Nat.reduceSub, Nat.reduceLeDiff, Nat.reduceBEq, Int.reduceEq, Int.reduceNeg, Int.reduceToNat, Int.reduceLE, Int.reduceLT, cd111, Go.Proofs.Try.f111, h111.r, m111, lv_pl, pl111, c85, lv111_7, lv111_2, l111_2, l111_7]
  all_goals try simp only [rnS, seS, Nat.reduceEqDiff, reduceCtorEq, ↓reduceIte, Nat.reduceAdd, Nat.reduceLeDiff, Nat.reduceBEq, Nat.reduceMul, lv111_7, lv111_2]
  all_goals try simp only [bindN_eq]
theorem l111_7_eq (a0 : (List ByteArray)) (t3 : Int) (t4 : Int) : l111_7 a0 t3 t4 = if t4 < t3 then (getI a0 t4).bind fun y0 => (getI a0 t3).bind fun y1 => if y0 = y1 then some false else l111_7 a0 t3 (IntKind.i64.wrap (t4 + 1)) else l111_2 a0 (IntKind.i64.wrap (t3 + 1)) := by
  rw [l111_7]
  simp only [evRAt, locS, cd111, Go.Proofs.Try.f111]
  rw [evR_eq]
  simp (maxSteps := 60000000) (disch := first | (intros; rename_i h; cases h; done) | decide +kernel) only [evS, seS, List.map_replicate, Nat.reduceDiv, Nat.reduceMod, Nat.reduceEqDiff, reduceCtorEq, ↓reduceIte, Nat.reduceLT, Nat.reduceAdd, Nat.reduceMul, Nat.reduceSub, Nat.reduceLeDiff, Nat.reduceBEq, Int.reduceEq, Int.reduceNeg, Int.reduceToNat, Int.reduceLE, Int.reduceLT, cd111, Go.Proofs.Try.f111, h111.r, m111, lv_pl, pl111, c85, lv111_7, lv111_2, l111_2, l111_7]
  all_goals try simp only [rnS, seS, Nat.reduceEqDiff, reduceCtorEq, ↓reduceIte, Nat.reduceAdd, Nat.reduceLeDiff, Nat.reduceBEq, Nat.reduceMul, lv111_7, lv111_2]
  all_goals try simp only [bindN_eq]
end Go.Fs.Se

set_option linter.unusedVariables false
set_option linter.unusedSimpArgs false
set_option maxRecDepth 40000
set_option maxHeartbeats 4000000
open Go.RowKit
namespace Go.Fs.Se
open Cel (cel unc)
open Dat (enc dec)
open Arg (ea da)
/-! loop.example/smithy/spec.l2Size -/
noncomputable def l112_3 (a0 : TreeMod) (t3 : Int) (t4 : Int) : Option (Bool) := evRAt (envOf M .x) (lvT 112) cd112 [true, true, false, true, false] (endK (β := Bool) M 112 .x Go.Proofs.Try.f112.results.toList) (stL 54 [(1, AV.a 500000 0), (3, AV.d (D.i IntKind.i64 t3)), (4, AV.d (D.i IntKind.i64 t4))] [(500000, some (Ob.box [AV.d (D.l 1 (List.map cel a0.uses)), AV.d (D.l 9 (List.map cel a0.funs)), AV.d (D.l 5 (List.map cel a0.main))]))])
theorem n112_eq (a0 : TreeMod) : n112 a0 = l112_3 a0 0 0 := by
  rw [n112, fnO_code h112 rfl Go.Proofs.Try.func112 (c := cd112) rfl (a0, ()) rfl]
  simp (maxSteps := 60000000) (disch := first | (intros; rename_i h; cases h; done) | decide +kernel) only [evS, seS, List.map_replicate, Nat.reduceDiv, Nat.reduceMod, Nat.reduceEqDiff, reduceCtorEq, ↓reduceIte, Nat.reduceLT, Nat.reduceAdd, Nat.reduceMul, Nat.reduceSub, Nat.reduceLeDiff, Nat.reduceBEq, Int.reduceEq, Int.reduceNeg, Int.reduceToNat, Int.reduceLE, Int.reduceLT, cd112, Go.Proofs.Try.f112, h112.r, m112, lv_pl, pl112, c101, lv112_3, l112_3]
  all_goals try simp only [rnS, seS, Nat.reduceEqDiff, reduceCtorEq, ↓reduceIte, Nat.reduceAdd, Nat.reduceLeDiff, Nat.reduceBEq, Nat.reduceMul, lv112_3]
theorem l112_3_eq (a0 : TreeMod) (t3 : Int) (t4 : Int) : l112_3 a0 t3 t4 = if t4 < IntKind.i64.wrap ((↑a0.funs.length : Int) + (↑a0.main.length : Int)) then if t4 < (↑a0.funs.length : Int) then (getI a0.funs t4).bind fun y0 => (n101 y0.body).bind fun y1 => if 150 < IntKind.i64.wrap (t3 + y1.fst) ∨ 16 < y1.snd then some false else l112_3 a0 (IntKind.i64.wrap (t3 + y1.fst)) (IntKind.i64.wrap (t4 + 1)) else (getI a0.main (IntKind.i64.wrap (t4 - (↑a0.funs.length : Int)))).bind fun y2 => (n101 y2).bind fun y3 => if 150 < IntKind.i64.wrap (t3 + y3.fst) ∨ 16 < y3.snd then some false else l112_3 a0 (IntKind.i64.wrap (t3 + y3.fst)) (IntKind.i64.wrap (t4 + 1)) else some true := by
  rw [l112_3]
  simp only [evRAt, locS, cd112, Go.Proofs.Try.f112]
  rw [evR_eq]
  simp (maxSteps := 60000000) (disch := first | (intros; rename_i h; cases h; done) | decide +kernel) only [evS, seS, List.map_replicate, Nat.reduceDiv, Nat.reduceMod, Nat.reduceEqDiff, reduceCtorEq, ↓reduceIte, Nat.reduceLT, Nat.reduceAdd, Nat.reduceMul, Nat.reduceSub, Nat.reduceLeDiff, Nat.reduceBEq, Int.reduceEq, Int.reduceNeg, Int.reduceToNat, Int.reduceLE, Int.reduceLT, cd112, Go.Proofs.Try.f112, h112.r, m112, lv_pl, pl112, c101, lv112_3, l112_3]
  all_goals try simp only [rnS, seS, Nat.reduceEqDiff, reduceCtorEq, ↓reduceIte, Nat.reduceAdd, Nat.reduceLeDiff, Nat.reduceBEq, Nat.reduceMul, lv112_3]
  all_goals try simp only [bindN_eq]
end Go.Fs.Se
