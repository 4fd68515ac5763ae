/- A part of the proof: an evaluator of the program's code over plain data, proved sound; the equations of its functions; what they compute. No conditions beyond those in the theorems. -/
import Derived.Test.YtkgkoolfobmfnaaGreatDoorP10
set_option linter.unusedVariables false
set_option linter.unusedSimpArgs false
set_option linter.constructorNameAsVariable false
set_option linter.unusedSectionVars false
set_option linter.defProp false
set_option maxRecDepth 40000
set_option maxHeartbeats 4000000
open Go.RowKit
namespace Go.Fs.Se
open Cel (cel unc)
open Dat (enc dec)
open Arg (ea da)
noncomputable def l101_3 (a0 : (List ByteArray)) (t4 : Int) (r4 : List CodeRef) (r5 : List CodeFun) : Option (CodeObj) := evRAt (envOf M .x) (lvT 101) cd101 [true, true, false, true, false] (endK (β := CodeObj) M 101 .x Go.Proofs.Tryz.f101.results.toList) (stL 99 [(0, AV.d (D.l 1 (List.map cel a0))), (2, AV.a 500000 0), (3, AV.a 500001 0), (4, AV.d (D.i IntKind.i64 t4))] [(500000, some (Ob.box [AV.r 500002, AV.r 500003])), (500001, some (Ob.box [AV.r 500004, AV.r 500005])), (500002, some (Ob.row 2 [] true false 0)), (500003, some (Ob.row 6 [] true false 0)), (500004, some (Ob.row 2 (List.map cel r4) true false 0)), (500005, some (Ob.row 6 (List.map cel r5) true false 0))])
theorem n101_eq (a0 : (List ByteArray)) : n101 a0 = l101_3 a0 1 [] [] := by
  rw [n101, fnO_code h101 rfl Go.Proofs.Tryz.func101 (c := cd101) rfl (a0, ()) rfl]
  simp (maxSteps := 60000000) (disch := first | (intros; rename_i h; cases h; done) | decide +kernel) only [evS, seS, List.map_replicate, Nat.reduceDiv, Nat.reduceMod, Nat.reduceEqDiff, reduceCtorEq, ↓reduceIte, Nat.reduceLT, Nat.reduceAdd, Nat.reduceMul, Nat.reduceSub, Nat.reduceLeDiff, Nat.reduceBEq, Int.reduceEq, Int.reduceNeg, Int.reduceToNat, Int.reduceLE, Int.reduceLT, cd101, Go.Proofs.Tryz.f101, h101.r, m101, lv_pl, pl101, c38, c41, c70, c138, lv101_3, l101_3]
  all_goals try simp only [rnS, seS, Nat.reduceEqDiff, reduceCtorEq, ↓reduceIte, Nat.reduceAdd, Nat.reduceLeDiff, Nat.reduceBEq, Nat.reduceMul, lv101_3]
theorem l101_3_eq (a0 : (List ByteArray)) (t4 : Int) (r4 : List CodeRef) (r5 : List CodeFun) : l101_3 a0 t4 r4 r5 = if IntKind.i64.wrap (t4 + 1) < (↑a0.length : Int) then (getI a0 t4).bind fun y0 => (n38 y0).bind fun y1 => bindB (if (↑y1.length : Int) = 2 then (getI y1 0).bind fun y2 => some (decide (y2 = ByteArray.mk #[114, 101, 102])) else some false) fun y3 => if y3 = true then (getI y1 1).bind fun y4 => (n70 y4 (U8.mk 46)).bind fun y5 => if 0 ≤ y5 then (getI y1 1).bind fun y6 => if 0 ≤ y5 then if 0 ≤ y5.toNat ∧ y5.toNat ≤ y6.size then (getI y1 1).bind fun y7 => if 0 ≤ IntKind.i64.wrap (y5 + 1) then if (IntKind.i64.wrap (y5 + 1)).toNat ≤ y7.size then if (r4.length + 1) * 32 ≤ 140737488355328 ∧ r4.length ≤ 140737488355327 then l101_3 a0 (IntKind.i64.wrap (t4 + 1)) (r4 ++ [CodeRef.mk (y6.extract 0 y5.toNat) (y7.extract (IntKind.i64.wrap (y5 + 1)).toNat y7.size)]) r5 else none else none else none else none else none else l101_3 a0 (IntKind.i64.wrap (t4 + 1)) r4 r5 else bindB (if (↑y1.length : Int) = 6 then (getI y1 0).bind fun y8 => some (decide (y8 = ByteArray.mk #[102, 117, 110])) else some false) fun y9 => if y9 = true then (n138 y1).bind fun y10 => if (r5.length + 1) * 88 ≤ 140737488355328 ∧ r5.length ≤ 140737488355327 then l101_3 a0 (IntKind.i64.wrap (t4 + 1)) r4 (r5 ++ [y10]) else none else if (↑y1.length : Int) = 2 ∧ 0 ≤ IntKind.i64.wrap ((↑r5.length : Int) - 1) then (getI r5 (IntKind.i64.wrap ((↑r5.length : Int) - 1))).bind fun y11 => r5[(IntKind.i64.wrap ((↑r5.length : Int) - 1)).toNat]?.bind fun y14 => (n41 y1).bind fun y15 => r5[(IntKind.i64.wrap ((↑r5.length : Int) - 1)).toNat]?.bind fun y18 => if (y18.code.length + 1) * 16 ≤ 140737488355328 ∧ y18.code.length ≤ 140737488355327 then (getI r5 (IntKind.i64.wrap ((↑r5.length : Int) - 1))).bind fun y19 => r5[(IntKind.i64.wrap ((↑r5.length : Int) - 1)).toNat]?.bind fun y22 => l101_3 a0 (IntKind.i64.wrap (t4 + 1)) r4 (r5.set (IntKind.i64.wrap ((↑r5.length : Int) - 1)).toNat (CodeFun.mk y18.name y18.pub y18.args y18.type y18.slots (y18.code ++ [y15]))) else none else l101_3 a0 (IntKind.i64.wrap (t4 + 1)) r4 r5 else some (CodeObj.mk r4 r5) := by
  rw [l101_3]
  simp only [evRAt, locS, cd101, Go.Proofs.Tryz.f101]
  rw [evR_eq]
  simp (maxSteps := 60000000) (disch := first | (intros; rename_i h; cases h; done) | decide +kernel) only [evS, seS, List.map_replicate, Nat.reduceDiv, Nat.reduceMod, Nat.reduceEqDiff, reduceCtorEq, ↓reduceIte, Nat.reduceLT, Nat.reduceAdd, Nat.reduceMul, Nat.reduceSub, Nat.reduceLeDiff, Nat.reduceBEq, Int.reduceEq, Int.reduceNeg, Int.reduceToNat, Int.reduceLE, Int.reduceLT, cd101, Go.Proofs.Tryz.f101, h101.r, m101, lv_pl, pl101, c38, c41, c70, c138, lv101_3, l101_3]
  all_goals try simp only [rnS, seS, Nat.reduceEqDiff, reduceCtorEq, ↓reduceIte, Nat.reduceAdd, Nat.reduceLeDiff, Nat.reduceBEq, Nat.reduceMul, lv101_3]
  all_goals try simp only [bindN_eq]
noncomputable def l107_3 (a0 : ByteArray) (t16 : List ByteArray) (t17 : Int) (t18 : Int) (r0 : List FaceSig) : Option ((List FaceSig) × Bool) := evRAt (envOf M .x) (lvT 107) cd107 [true, true, false, true, false] (endK (β := (List FaceSig) × Bool) M 107 .x Go.Proofs.Tryz.f107.results.toList) (stL 56 [(0, AV.d (D.s a0)), (4, AV.r 500000), (16, AV.d (D.l 1 (List.map cel t16))), (17, AV.d (D.i IntKind.i64 t17)), (18, AV.d (D.i IntKind.i64 t18))] [(500000, some (Ob.row 3 (List.map cel r0) true false 0))])
theorem n107_eq (a0 : ByteArray) : n107 a0 = (n80 a0 (ByteArray.mk #[10])).bind fun y0 => (lSplit y0 (ByteArray.mk #[10])).bind fun y1 => l107_3 a0 y1 (↑y1.length : Int) 0 [] := by
  rw [n107, fnO_code h107 rfl Go.Proofs.Tryz.func107 (c := cd107) rfl (a0, ()) rfl]
  simp (maxSteps := 60000000) (disch := first | (intros; rename_i h; cases h; done) | decide +kernel) only [evS, seS, List.map_replicate, Nat.reduceDiv, Nat.reduceMod, Nat.reduceEqDiff, reduceCtorEq, ↓reduceIte, Nat.reduceLT, Nat.reduceAdd, Nat.reduceMul, Nat.reduceSub, Nat.reduceLeDiff, Nat.reduceBEq, Int.reduceEq, Int.reduceNeg, Int.reduceToNat, Int.reduceLE, Int.reduceLT, cd107, Go.Proofs.Tryz.f107, h107.r, m107, lv_pl, pl107, c47, c79, c80, c83, c84, c141, c142, lv107_3, l107_3]
  all_goals try simp only [rnS, seS, Nat.reduceEqDiff, reduceCtorEq, ↓reduceIte, Nat.reduceAdd, Nat.reduceLeDiff, Nat.reduceBEq, Nat.reduceMul, lv107_3]
  all_goals try simp only [bindN_eq]
theorem l107_3_eq (a0 : ByteArray) (t16 : List ByteArray) (t17 : Int) (t18 : Int) (r0 : List FaceSig) : l107_3 a0 t16 t17 t18 r0 = if t18 < t17 then (getI t16 t18).bind fun y0 => (lCut y0 (ByteArray.mk #[40])).bind fun y1 => (lCut y1.b (ByteArray.mk #[41])).bind fun y2 => if decide (a0 = ByteArray.mk #[]) = false then (n83 y2.a).bind fun y3 => (n84 y2.b).bind fun y4 => if (r0.length + 1) * 48 ≤ 140737488355328 ∧ r0.length ≤ 140737488355327 then l107_3 a0 t16 t17 (IntKind.i64.wrap (t18 + 1)) (r0 ++ [FaceSig.mk y1.a y3 y4]) else none else l107_3 a0 t16 t17 (IntKind.i64.wrap (t18 + 1)) r0 else (n141 r0).bind fun y5 => bindB (if y5 = false then some true else (n142 r0).bind fun y6 => some !decide (y6 = a0)) fun y7 => if y7 = true then some ([], false) else some (r0, true) := by
  rw [l107_3]
  simp only [evRAt, locS, cd107, Go.Proofs.Tryz.f107]
  rw [evR_eq]
  simp (maxSteps := 60000000) (disch := first | (intros; rename_i h; cases h; done) | decide +kernel) only [evS, seS, List.map_replicate, Nat.reduceDiv, Nat.reduceMod, Nat.reduceEqDiff, reduceCtorEq, ↓reduceIte, Nat.reduceLT, Nat.reduceAdd, Nat.reduceMul, Nat.reduceSub, Nat.reduceLeDiff, Nat.reduceBEq, Int.reduceEq, Int.reduceNeg, Int.reduceToNat, Int.reduceLE, Int.reduceLT, cd107, Go.Proofs.Tryz.f107, h107.r, m107, lv_pl, pl107, c47, c79, c80, c83, c84, c141, c142, lv107_3, l107_3]
  all_goals try simp only [rnS, seS, Nat.reduceEqDiff, reduceCtorEq, ↓reduceIte, Nat.reduceAdd, Nat.reduceLeDiff, Nat.reduceBEq, Nat.reduceMul, lv107_3]
  all_goals try simp only [bindN_eq]
noncomputable def l55_6 (a0 : ByteArray) (t4 : List ByteArray) (t6 : Int) (r0 : List FaceSig) : Option ((List FaceSig) × Bool) := evRAt (envOf M .x) (lvT 55) cd55 [true, true, true, true, false, true, false] (endK (β := (List FaceSig) × Bool) M 55 .x Go.Proofs.Tryz.f55.results.toList) (stL 38 [(0, AV.d (D.s a0)), (4, AV.d (D.l 1 (List.map cel t4))), (5, AV.r 500000), (6, AV.d (D.i IntKind.i64 t6))] [(500000, some (Ob.row 3 (List.map cel r0) true false 0))])
theorem n55_eq (a0 : ByteArray) : n55 a0 = if 400 < (↑a0.size : Int) then some ([], false) else (n37 a0 (U8.mk 10)).bind fun y0 => l55_6 a0 y0 0 [] := by
  rw [n55, fnO_code h55 rfl Go.Proofs.Tryz.func55 (c := cd55) rfl (a0, ()) rfl]
  simp (maxSteps := 60000000) (disch := first | (intros; rename_i h; cases h; done) | decide +kernel) only [evS, seS, List.map_replicate, Nat.reduceDiv, Nat.reduceMod, Nat.reduceEqDiff, reduceCtorEq, ↓reduceIte, Nat.reduceLT, Nat.reduceAdd, Nat.reduceMul, Nat.reduceSub, Nat.reduceLeDiff, Nat.reduceBEq, Int.reduceEq, Int.reduceNeg, Int.reduceToNat, Int.reduceLE, Int.reduceLT, cd55, Go.Proofs.Tryz.f55, h55.r, m55, lv_pl, pl55, c37, c98, c99, c100, lv55_6, l55_6]
  all_goals try simp only [rnS, seS, Nat.reduceEqDiff, reduceCtorEq, ↓reduceIte, Nat.reduceAdd, Nat.reduceLeDiff, Nat.reduceBEq, Nat.reduceMul, lv55_6]
  all_goals try simp only [bindN_eq]
theorem l55_6_eq (a0 : ByteArray) (t4 : List ByteArray) (t6 : Int) (r0 : List FaceSig) : l55_6 a0 t4 t6 r0 = if IntKind.i64.wrap (t6 + 1) < (↑t4.length : Int) then (getI t4 t6).bind fun y0 => (n98 y0).bind fun y1 => if (r0.length + 1) * 48 ≤ 140737488355328 ∧ r0.length ≤ 140737488355327 then l55_6 a0 t4 (IntKind.i64.wrap (t6 + 1)) (r0 ++ [y1]) else none else (n99 r0).bind fun y2 => bindB (if y2 = false then some true else (n100 r0).bind fun y3 => some !decide (y3 = a0)) fun y4 => if y4 = true then some ([], false) else some (r0, true) := by
  rw [l55_6]
  simp only [evRAt, locS, cd55, Go.Proofs.Tryz.f55]
  rw [evR_eq]
  simp (maxSteps := 60000000) (disch := first | (intros; rename_i h; cases h; done) | decide +kernel) only [evS, seS, List.map_replicate, Nat.reduceDiv, Nat.reduceMod, Nat.reduceEqDiff, reduceCtorEq, ↓reduceIte, Nat.reduceLT, Nat.reduceAdd, Nat.reduceMul, Nat.reduceSub, Nat.reduceLeDiff, Nat.reduceBEq, Int.reduceEq, Int.reduceNeg, Int.reduceToNat, Int.reduceLE, Int.reduceLT, cd55, Go.Proofs.Tryz.f55, h55.r, m55, lv_pl, pl55, c37, c98, c99, c100, lv55_6, l55_6]
  all_goals try simp only [rnS, seS, Nat.reduceEqDiff, reduceCtorEq, ↓reduceIte, Nat.reduceAdd, Nat.reduceLeDiff, Nat.reduceBEq, Nat.reduceMul, lv55_6]
  all_goals try simp only [bindN_eq]
noncomputable def l100_5 (a0 : (List FaceSig)) (t3 : ByteArray) (t4 : Int) : Option (ByteArray) := evRAt (envOf M .x) (lvT 100) cd100 [true, true, true, false, true, false] (endK (β := ByteArray) M 100 .x Go.Proofs.Tryz.f100.results.toList) (stL 39 [(0, AV.d (D.l 3 (List.map cel a0))), (3, AV.d (D.s t3)), (4, AV.d (D.i IntKind.i64 t4))] [])
theorem n100_eq (a0 : (List FaceSig)) : n100 a0 = (n99 a0).bind fun y0 => if y0 = false then some (ByteArray.mk #[]) else l100_5 a0 (ByteArray.mk #[]) 0 := by
  rw [n100, fnO_code h100 rfl Go.Proofs.Tryz.func100 (c := cd100) rfl (a0, ()) rfl]
  simp (maxSteps := 60000000) (disch := first | (intros; rename_i h; cases h; done) | decide +kernel) only [evS, seS, List.map_replicate, Nat.reduceDiv, Nat.reduceMod, Nat.reduceEqDiff, reduceCtorEq, ↓reduceIte, Nat.reduceLT, Nat.reduceAdd, Nat.reduceMul, Nat.reduceSub, Nat.reduceLeDiff, Nat.reduceBEq, Int.reduceEq, Int.reduceNeg, Int.reduceToNat, Int.reduceLE, Int.reduceLT, cd100, Go.Proofs.Tryz.f100, h100.r, m100, lv_pl, pl100, c75, c76, c99, lv100_5, l100_5]
  all_goals try simp only [rnS, seS, Nat.reduceEqDiff, reduceCtorEq, ↓reduceIte, Nat.reduceAdd, Nat.reduceLeDiff, Nat.reduceBEq, Nat.reduceMul, lv100_5]
  all_goals try simp only [bindN_eq]
theorem l100_5_eq (a0 : (List FaceSig)) (t3 : ByteArray) (t4 : Int) : l100_5 a0 t3 t4 = if t4 < (↑a0.length : Int) then (getI a0 t4).bind fun y0 => (cat t3 y0.name).bind fun y1 => (cat y1 (ByteArray.mk #[40])).bind fun y2 => (getI a0 t4).bind fun y3 => (n75 y3.args).bind fun y4 => (cat y2 y4).bind fun y5 => (cat y5 (ByteArray.mk #[41])).bind fun y6 => (getI a0 t4).bind fun y7 => (n76 y7.type).bind fun y8 => (cat y6 y8).bind fun y9 => (cat y9 (ByteArray.mk #[10])).bind fun y10 => l100_5 a0 y10 (IntKind.i64.wrap (t4 + 1)) else some t3 := by
  rw [l100_5]
  simp only [evRAt, locS, cd100, Go.Proofs.Tryz.f100]
  rw [evR_eq]
  simp (maxSteps := 60000000) (disch := first | (intros; rename_i h; cases h; done) | decide +kernel) only [evS, seS, List.map_replicate, Nat.reduceDiv, Nat.reduceMod, Nat.reduceEqDiff, reduceCtorEq, ↓reduceIte, Nat.reduceLT, Nat.reduceAdd, Nat.reduceMul, Nat.reduceSub, Nat.reduceLeDiff, Nat.reduceBEq, Int.reduceEq, Int.reduceNeg, Int.reduceToNat, Int.reduceLE, Int.reduceLT, cd100, Go.Proofs.Tryz.f100, h100.r, m100, lv_pl, pl100, c75, c76, c99, lv100_5, l100_5]
  all_goals try simp only [rnS, seS, Nat.reduceEqDiff, reduceCtorEq, ↓reduceIte, Nat.reduceAdd, Nat.reduceLeDiff, Nat.reduceBEq, Nat.reduceMul, lv100_5]
  all_goals try simp only [bindN_eq]
noncomputable def l126_3 (a0 : (List Int)) (t9 : Int) (r0 : List ByteArray) : Option (ByteArray) := evRAt (envOf M .x) (lvT 126) cd126 [true, true, false, true, false] (endK (β := ByteArray) M 126 .x Go.Proofs.Tryz.f126.results.toList) (stL 21 [(3, AV.r 500000), (7, AV.d (D.l 1 (List.map cel a0))), (8, AV.d (D.i IntKind.i64 (↑a0.length : Int))), (9, AV.d (D.i IntKind.i64 t9))] [(500000, some (Ob.row 1 (List.map cel r0) true false 0))])
theorem n126_eq (a0 : (List Int)) : n126 a0 = l126_3 a0 0 [] := by
  rw [n126, fnO_code h126 rfl Go.Proofs.Tryz.func126 (c := cd126) rfl (a0, ()) rfl]
  simp (maxSteps := 60000000) (disch := first | (intros; rename_i h; cases h; done) | decide +kernel) only [evS, seS, List.map_replicate, Nat.reduceDiv, Nat.reduceMod, Nat.reduceEqDiff, reduceCtorEq, ↓reduceIte, Nat.reduceLT, Nat.reduceAdd, Nat.reduceMul, Nat.reduceSub, Nat.reduceLeDiff, Nat.reduceBEq, Int.reduceEq, Int.reduceNeg, Int.reduceToNat, Int.reduceLE, Int.reduceLT, cd126, Go.Proofs.Tryz.f126, h126.r, m126, lv_pl, pl126, c127, c163, lv126_3, l126_3]
  all_goals try simp only [rnS, seS, Nat.reduceEqDiff, reduceCtorEq, ↓reduceIte, Nat.reduceAdd, Nat.reduceLeDiff, Nat.reduceBEq, Nat.reduceMul, lv126_3]
theorem l126_3_eq (a0 : (List Int)) (t9 : Int) (r0 : List ByteArray) : l126_3 a0 t9 r0 = if t9 < (↑a0.length : Int) then (getI a0 t9).bind fun y0 => (n127 y0).bind fun y1 => if (r0.length + 1) * 16 ≤ 140737488355328 ∧ r0.length ≤ 140737488355327 then l126_3 a0 (IntKind.i64.wrap (t9 + 1)) (r0 ++ [y1]) else none else lJoin r0 (ByteArray.mk #[44]) := by
  rw [l126_3]
  simp only [evRAt, locS, cd126, Go.Proofs.Tryz.f126]
  rw [evR_eq]
  simp (maxSteps := 60000000) (disch := first | (intros; rename_i h; cases h; done) | decide +kernel) only [evS, seS, List.map_replicate, Nat.reduceDiv, Nat.reduceMod, Nat.reduceEqDiff, reduceCtorEq, ↓reduceIte, Nat.reduceLT, Nat.reduceAdd, Nat.reduceMul, Nat.reduceSub, Nat.reduceLeDiff, Nat.reduceBEq, Int.reduceEq, Int.reduceNeg, Int.reduceToNat, Int.reduceLE, Int.reduceLT, cd126, Go.Proofs.Tryz.f126, h126.r, m126, lv_pl, pl126, c127, c163, lv126_3, l126_3]
  all_goals try simp only [rnS, seS, Nat.reduceEqDiff, reduceCtorEq, ↓reduceIte, Nat.reduceAdd, Nat.reduceLeDiff, Nat.reduceBEq, Nat.reduceMul, lv126_3]
  all_goals try simp only [bindN_eq]
noncomputable def l41_2 (a0 : (List ByteArray)) (t3 : Int) : Option (CodeIns) := evRAt (envOf M .x) (lvT 41) cd41 [true, false, true, false] (endK (β := CodeIns) M 41 .x Go.Proofs.Tryz.f41.results.toList) (stL 27 [(0, AV.d (D.l 1 (List.map cel a0))), (2, AV.a 500000 0), (3, AV.d (D.i IntKind.i64 t3))] [(500000, some (Ob.box [AV.d (D.i IntKind.i64 0), AV.d (D.i IntKind.i64 0)]))])
theorem n41_eq (a0 : (List ByteArray)) : n41 a0 = l41_2 a0 1 := by
  rw [n41, fnO_code h41 rfl Go.Proofs.Tryz.func41 (c := cd41) rfl (a0, ()) rfl]
  simp (maxSteps := 60000000) (disch := first | (intros; rename_i h; cases h; done) | decide +kernel) only [evS, seS, List.map_replicate, Nat.reduceDiv, Nat.reduceMod, Nat.reduceEqDiff, reduceCtorEq, ↓reduceIte, Nat.reduceLT, Nat.reduceAdd, Nat.reduceMul, Nat.reduceSub, Nat.reduceLeDiff, Nat.reduceBEq, Int.reduceEq, Int.reduceNeg, Int.reduceToNat, Int.reduceLE, Int.reduceLT, cd41, Go.Proofs.Tryz.f41, h41.r, m41, lv_pl, pl41, c40, c73, lv41_2, l41_2]
  all_goals try simp only [rnS, seS, Nat.reduceEqDiff, reduceCtorEq, ↓reduceIte, Nat.reduceAdd, Nat.reduceLeDiff, Nat.reduceBEq, Nat.reduceMul, lv41_2]
theorem l41_2_eq (a0 : (List ByteArray)) (t3 : Int) : l41_2 a0 t3 = if t3 ≤ 10 then (getI a0 0).bind fun y0 => (n73 t3).bind fun y1 => if y0 = y1 then (getI a0 1).bind fun y2 => (n40 y2).bind fun y3 => some (CodeIns.mk t3 y3.fst) else l41_2 a0 (IntKind.i64.wrap (t3 + 1)) else some (CodeIns.mk 0 0) := by
  rw [l41_2]
  simp only [evRAt, locS, cd41, Go.Proofs.Tryz.f41]
  rw [evR_eq]
  simp (maxSteps := 60000000) (disch := first | (intros; rename_i h; cases h; done) | decide +kernel) only [evS, seS, List.map_replicate, Nat.reduceDiv, Nat.reduceMod, Nat.reduceEqDiff, reduceCtorEq, ↓reduceIte, Nat.reduceLT, Nat.reduceAdd, Nat.reduceMul, Nat.reduceSub, Nat.reduceLeDiff, Nat.reduceBEq, Int.reduceEq, Int.reduceNeg, Int.reduceToNat, Int.reduceLE, Int.reduceLT, cd41, Go.Proofs.Tryz.f41, h41.r, m41, lv_pl, pl41, c40, c73, lv41_2, l41_2]
  all_goals try simp only [rnS, seS, Nat.reduceEqDiff, reduceCtorEq, ↓reduceIte, Nat.reduceAdd, Nat.reduceLeDiff, Nat.reduceBEq, Nat.reduceMul, lv41_2]
  all_goals try simp only [bindN_eq]
noncomputable def l70_2 (a0 : ByteArray) (a1 : U8) (t5 : Int) : Option (Int) := evRAt (envOf M .x) (lvT 70) cd70 [true, false, true, false] (endK (β := Int) M 70 .x Go.Proofs.Tryz.f70.results.toList) (stL 18 [(0, AV.d (D.s a0)), (1, AV.d (D.i IntKind.u8 (U8.mk a1.n).n)), (5, AV.d (D.i IntKind.i64 t5))] [])
theorem n70_eq (a0 : ByteArray) (a1 : U8) : n70 a0 a1 = l70_2 a0 a1 0 := by
  rw [n70, fnO_code h70 rfl Go.Proofs.Tryz.func70 (c := cd70) rfl (a0, a1, ()) rfl]
  simp (maxSteps := 60000000) (disch := first | (intros; rename_i h; cases h; done) | decide +kernel) only [evS, seS, List.map_replicate, Nat.reduceDiv, Nat.reduceMod, Nat.reduceEqDiff, reduceCtorEq, ↓reduceIte, Nat.reduceLT, Nat.reduceAdd, Nat.reduceMul, Nat.reduceSub, Nat.reduceLeDiff, Nat.reduceBEq, Int.reduceEq, Int.reduceNeg, Int.reduceToNat, Int.reduceLE, Int.reduceLT, cd70, Go.Proofs.Tryz.f70, h70.r, m70, lv_pl, pl70, lv70_2, l70_2]
  all_goals try simp only [rnS, seS, Nat.reduceEqDiff, reduceCtorEq, ↓reduceIte, Nat.reduceAdd, Nat.reduceLeDiff, Nat.reduceBEq, Nat.reduceMul, lv70_2]
theorem l70_2_eq (a0 : ByteArray) (a1 : U8) (t5 : Int) : l70_2 a0 a1 t5 = if t5 < (↑a0.size : Int) then if 0 ≤ t5 ∧ t5 < (↑a0.size : Int) then if byteAt a0 t5 = a1.n then some t5 else l70_2 a0 a1 (IntKind.i64.wrap (t5 + 1)) else none else some (-1) := by
  rw [l70_2]
  simp only [evRAt, locS, cd70, Go.Proofs.Tryz.f70]
  rw [evR_eq]
  simp (maxSteps := 60000000) (disch := first | (intros; rename_i h; cases h; done) | decide +kernel) only [evS, seS, List.map_replicate, Nat.reduceDiv, Nat.reduceMod, Nat.reduceEqDiff, reduceCtorEq, ↓reduceIte, Nat.reduceLT, Nat.reduceAdd, Nat.reduceMul, Nat.reduceSub, Nat.reduceLeDiff, Nat.reduceBEq, Int.reduceEq, Int.reduceNeg, Int.reduceToNat, Int.reduceLE, Int.reduceLT, cd70, Go.Proofs.Tryz.f70, h70.r, m70, lv_pl, pl70, lv70_2, l70_2]
  all_goals try simp only [rnS, seS, Nat.reduceEqDiff, reduceCtorEq, ↓reduceIte, Nat.reduceAdd, Nat.reduceLeDiff, Nat.reduceBEq, Nat.reduceMul, lv70_2]
theorem n76_eq (a0 : Int) : n76 a0 = if a0 < 1 ∨ 3 < a0 then some (ByteArray.mk #[]) else (getI [ByteArray.mk #[105, 110, 116], ByteArray.mk #[98, 111, 111, 108], ByteArray.mk #[114, 111, 119]] (IntKind.i64.wrap (a0 - 1))).bind fun y0 => [ByteArray.mk #[105, 110, 116], ByteArray.mk #[98, 111, 111, 108], ByteArray.mk #[114, 111, 119]][(IntKind.i64.wrap (a0 - 1)).toNat]? := by
  rw [n76, fnO_code h76 rfl Go.Proofs.Tryz.func76 (c := cd76) rfl (a0, ()) rfl]
  simp (maxSteps := 60000000) (disch := first | (intros; rename_i h; cases h; done) | decide +kernel) only [evS, seS, List.map_replicate, Nat.reduceDiv, Nat.reduceMod, Nat.reduceEqDiff, reduceCtorEq, ↓reduceIte, Nat.reduceLT, Nat.reduceAdd, Nat.reduceMul, Nat.reduceSub, Nat.reduceLeDiff, Nat.reduceBEq, Int.reduceEq, Int.reduceNeg, Int.reduceToNat, Int.reduceLE, Int.reduceLT, cd76, Go.Proofs.Tryz.f76, h76.r, m76, lv_pl, pl76]
  all_goals try simp only [bindN_eq]
theorem n49_eq (a0 : (List ByteArray)) : n49 a0 = (getI a0 1).bind fun y0 => (n46 y0).bind fun y1 => (getI a0 0).bind fun y2 => (n85 opW y2).bind fun y3 => some (CodeIns.mk (IntKind.i64.wrap (y3 + 1)) y1.fst) := by
  rw [n49, fnO_code h49 rfl Go.Proofs.Tryz.func49 (c := cd49) rfl (a0, ()) rfl]
  simp (maxSteps := 60000000) (disch := first | (intros; rename_i h; cases h; done) | decide +kernel) only [evS, seS, List.map_replicate, Nat.reduceDiv, Nat.reduceMod, Nat.reduceEqDiff, reduceCtorEq, ↓reduceIte, Nat.reduceLT, Nat.reduceAdd, Nat.reduceMul, Nat.reduceSub, Nat.reduceLeDiff, Nat.reduceBEq, Int.reduceEq, Int.reduceNeg, Int.reduceToNat, Int.reduceLE, Int.reduceLT, cd49, Go.Proofs.Tryz.f49, h49.r, m49, lv_pl, pl49, c46, c85]
  all_goals try simp only [bindN_eq]
theorem n127_eq (a0 : Int) : n127 a0 = (n129 a0).bind fun y0 => if y0 = false then some (ByteArray.mk #[]) else getI tyW (IntKind.i64.wrap (a0 - 1)) := by
  rw [n127, fnO_code h127 rfl Go.Proofs.Tryz.func127 (c := cd127) rfl (a0, ()) rfl]
  simp (maxSteps := 60000000) (disch := first | (intros; rename_i h; cases h; done) | decide +kernel) only [evS, seS, List.map_replicate, Nat.reduceDiv, Nat.reduceMod, Nat.reduceEqDiff, reduceCtorEq, ↓reduceIte, Nat.reduceLT, Nat.reduceAdd, Nat.reduceMul, Nat.reduceSub, Nat.reduceLeDiff, Nat.reduceBEq, Int.reduceEq, Int.reduceNeg, Int.reduceToNat, Int.reduceLE, Int.reduceLT, cd127, Go.Proofs.Tryz.f127, h127.r, m127, lv_pl, pl127, c129]
  all_goals try simp only [bindN_eq]
theorem n8_eq (a0 : ByteArray) : n8 a0 = (n6 a0).bind fun y0 => some (IntKind.i64.wrap ((↑a0.size : Int) - (↑y0.size : Int))) := by
  rw [n8, fnO_code h8 rfl Go.Proofs.Tryz.func8 (c := cd8) rfl (a0, ()) rfl]
  simp (maxSteps := 60000000) (disch := first | (intros; rename_i h; cases h; done) | decide +kernel) only [evS, seS, List.map_replicate, Nat.reduceDiv, Nat.reduceMod, Nat.reduceEqDiff, reduceCtorEq, ↓reduceIte, Nat.reduceLT, Nat.reduceAdd, Nat.reduceMul, Nat.reduceSub, Nat.reduceLeDiff, Nat.reduceBEq, Int.reduceEq, Int.reduceNeg, Int.reduceToNat, Int.reduceLE, Int.reduceLT, cd8, Go.Proofs.Tryz.f8, h8.r, m8, lv_pl, pl8, c6]
  all_goals try simp only [bindN_eq]
theorem n16_eq (a0 : (List KeepRec)) : n16 a0 = if 10000 < (↑a0.length : Int) then some [] else n33 a0 := by
  rw [n16, fnO_code h16 rfl Go.Proofs.Tryz.func16 (c := cd16) rfl (a0, ()) rfl]
  simp (maxSteps := 60000000) (disch := first | (intros; rename_i h; cases h; done) | decide +kernel) only [evS, seS, List.map_replicate, Nat.reduceDiv, Nat.reduceMod, Nat.reduceEqDiff, reduceCtorEq, ↓reduceIte, Nat.reduceLT, Nat.reduceAdd, Nat.reduceMul, Nat.reduceSub, Nat.reduceLeDiff, Nat.reduceBEq, Int.reduceEq, Int.reduceNeg, Int.reduceToNat, Int.reduceLE, Int.reduceLT, cd16, Go.Proofs.Tryz.f16, h16.r, m16, lv_pl, pl16, c33]
end Go.Fs.Se
