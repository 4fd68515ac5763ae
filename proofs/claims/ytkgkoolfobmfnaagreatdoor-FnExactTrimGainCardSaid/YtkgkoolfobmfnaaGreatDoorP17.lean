/- A part of the proof: an evaluator of the program's code over plain data, proved sound; the equations of its functions; what they compute. No conditions beyond those in the theorems. -/
import Derived.Test.YtkgkoolfobmfnaaGreatDoorP10
set_option linter.unusedVariables false
set_option linter.unusedSimpArgs false
set_option linter.constructorNameAsVariable false
set_option linter.unusedSectionVars false
set_option linter.defProp false
set_option maxRecDepth 40000
set_option maxHeartbeats 4000000
open Go.RowKit
namespace Go.Fs.Se
open Cel (cel unc)
open Dat (enc dec)
open Arg (ea da)
noncomputable def l33_3 (a0 : (List KeepRec)) (t13 : Int) (mr0 : List (ByteArray × Int)) : Option ((List KeepRec)) := evRAt (envOf M .x) (lvT 33) cd33 [true, true, false, true, false] (endK (β := (List KeepRec)) M 33 .x Go.Proofs.Tryz.f33.results.toList) (stL 43 [(0, AV.d (D.l 5 (List.map cel a0))), (3, AV.mp 500000), (4, AV.r 500001), (11, AV.d (D.l 5 (List.map cel a0))), (12, AV.d (D.i IntKind.i64 (↑a0.length : Int))), (13, AV.d (D.i IntKind.i64 t13))] [(500000, some (Ob.map (mI mr0))), (500001, some (Ob.row 5 [] true false 0))])
noncomputable def l33_8 (a0 : (List KeepRec)) (t25 : Int) (mr0 : List (ByteArray × Int)) (r1 : List KeepRec) : Option ((List KeepRec)) := evRAt (envOf M .x) (lvT 33) cd33 [true, true, true, false, true, false] (endK (β := (List KeepRec)) M 33 .x Go.Proofs.Tryz.f33.results.toList) (stL 43 [(3, AV.mp 500000), (4, AV.r 500001), (23, AV.d (D.l 5 (List.map cel a0))), (24, AV.d (D.i IntKind.i64 (↑a0.length : Int))), (25, AV.d (D.i IntKind.i64 t25))] [(500000, some (Ob.map (mI mr0))), (500001, some (Ob.row 5 (List.map cel r1) true false 0))])
theorem n33_eq (a0 : (List KeepRec)) : n33 a0 = l33_3 a0 0 [] := by
  rw [n33, fnO_code h33 rfl Go.Proofs.Tryz.func33 (c := cd33) rfl (a0, ()) rfl]
  simp (maxSteps := 60000000) (disch := first | (intros; rename_i h; cases h; done) | decide +kernel) only [evS, seS, List.map_replicate, Nat.reduceDiv, Nat.reduceMod, Nat.reduceEqDiff, reduceCtorEq, ↓reduceIte, Nat.reduceLT, Nat.reduceAdd, Nat.reduceMul, Nat.reduceSub, Nat.reduceLeDiff, Nat.reduceBEq, Int.reduceEq, Int.reduceNeg, Int.reduceToNat, Int.reduceLE, Int.reduceLT, cd33, Go.Proofs.Tryz.f33, h33.r, m33, lv_pl, pl33, c60, lv33_8, lv33_3, l33_3, l33_8]
  all_goals try simp only [rnS, seS, Nat.reduceEqDiff, reduceCtorEq, ↓reduceIte, Nat.reduceAdd, Nat.reduceLeDiff, Nat.reduceBEq, Nat.reduceMul, lv33_8, lv33_3]
theorem l33_3_eq (a0 : (List KeepRec)) (t13 : Int) (mr0 : List (ByteArray × Int)) : l33_3 a0 t13 mr0 = if t13 < (↑a0.length : Int) then (getI a0 t13).bind fun y0 => l33_3 a0 (IntKind.i64.wrap (t13 + 1)) (mSet mr0 y0.name t13) else l33_8 a0 0 mr0 [] := by
  rw [l33_3]
  simp only [evRAt, locS, cd33, Go.Proofs.Tryz.f33]
  rw [evR_eq]
  simp (maxSteps := 60000000) (disch := first | (intros; rename_i h; cases h; done) | decide +kernel) only [evS, seS, List.map_replicate, Nat.reduceDiv, Nat.reduceMod, Nat.reduceEqDiff, reduceCtorEq, ↓reduceIte, Nat.reduceLT, Nat.reduceAdd, Nat.reduceMul, Nat.reduceSub, Nat.reduceLeDiff, Nat.reduceBEq, Int.reduceEq, Int.reduceNeg, Int.reduceToNat, Int.reduceLE, Int.reduceLT, cd33, Go.Proofs.Tryz.f33, h33.r, m33, lv_pl, pl33, c60, lv33_8, lv33_3, l33_3, l33_8]
  all_goals try simp only [rnS, seS, Nat.reduceEqDiff, reduceCtorEq, ↓reduceIte, Nat.reduceAdd, Nat.reduceLeDiff, Nat.reduceBEq, Nat.reduceMul, lv33_8, lv33_3]
  all_goals try simp only [bindN_eq]
theorem l33_8_eq (a0 : (List KeepRec)) (t25 : Int) (mr0 : List (ByteArray × Int)) (r1 : List KeepRec) : l33_8 a0 t25 mr0 r1 = if t25 < (↑a0.length : Int) then (getI a0 t25).bind fun y0 => if (mGet mr0 y0.name).getD 0 = t25 then (n60 y0).bind fun y1 => if (r1.length + 1) * 88 ≤ 140737488355328 ∧ r1.length ≤ 140737488355327 then l33_8 a0 (IntKind.i64.wrap (t25 + 1)) mr0 (r1 ++ [y1]) else none else l33_8 a0 (IntKind.i64.wrap (t25 + 1)) mr0 r1 else some r1 := by
  rw [l33_8]
  simp only [evRAt, locS, cd33, Go.Proofs.Tryz.f33]
  rw [evR_eq]
  simp (maxSteps := 60000000) (disch := first | (intros; rename_i h; cases h; done) | decide +kernel) only [evS, seS, List.map_replicate, Nat.reduceDiv, Nat.reduceMod, Nat.reduceEqDiff, reduceCtorEq, ↓reduceIte, Nat.reduceLT, Nat.reduceAdd, Nat.reduceMul, Nat.reduceSub, Nat.reduceLeDiff, Nat.reduceBEq, Int.reduceEq, Int.reduceNeg, Int.reduceToNat, Int.reduceLE, Int.reduceLT, cd33, Go.Proofs.Tryz.f33, h33.r, m33, lv_pl, pl33, c60, lv33_8, lv33_3, l33_3, l33_8]
  all_goals try simp only [rnS, seS, Nat.reduceEqDiff, reduceCtorEq, ↓reduceIte, Nat.reduceAdd, Nat.reduceLeDiff, Nat.reduceBEq, Nat.reduceMul, lv33_8, lv33_3]
  all_goals try simp only [bindN_eq]
noncomputable def l25_5 (a0 : ByteArray) (t5 : Int) (t7 : Int) (b1c0 : ByteArray) (b1c1 : Int) (b1c2 : Bool) (b2c0 : ByteArray) (b2c1 : ByteArray) (r4 : List ByteArray) : Option (KeepRec) := evRAt (envOf M .x) (lvT 25) cd25 [true, true, true, true, false, true, false] (endK (β := KeepRec) M 25 .x Go.Proofs.Tryz.f25.results.toList) (stL 57 [(2, AV.a 500000 0), (3, AV.a 500001 0), (4, AV.a 500002 0), (5, AV.d (D.i IntKind.i64 t5)), (7, AV.d (D.i IntKind.i64 t7))] [(500000, some (Ob.box [AV.d (D.s ByteArray.empty), AV.d (D.s ByteArray.empty), AV.r 500003, AV.d (D.s ByteArray.empty), AV.d (D.s ByteArray.empty)])), (500001, some (Ob.box [AV.d (D.s b1c0), AV.d (D.i IntKind.i64 b1c1), AV.d (D.b b1c2)])), (500002, some (Ob.box [AV.d (D.s b2c0), AV.d (D.s b2c1), AV.r 500004, AV.d (D.s ByteArray.empty), AV.d (D.s ByteArray.empty)])), (500003, some (Ob.row 1 [] true false 0)), (500004, some (Ob.row 1 (List.map cel r4) true false 0))])
theorem n25_eq (a0 : ByteArray) : n25 a0 = (n53 (Pt.mk (L14In.mk a0 0 false))).bind fun y0 => (n53 (Pt.mk y0.snd.v)).bind fun y1 => (n53 (Pt.mk y1.snd.v)).bind fun y2 => (n40 y2.fst).bind fun y3 => l25_5 a0 y3.fst 0 y2.snd.v.s y2.snd.v.at_ y2.snd.v.bad y0.fst y1.fst [] := by
  rw [n25, fnO_code h25 rfl Go.Proofs.Tryz.func25 (c := cd25) rfl (a0, ()) rfl]
  simp (maxSteps := 60000000) (disch := first | (intros; rename_i h; cases h; done) | decide +kernel) only [evS, seS, List.map_replicate, Nat.reduceDiv, Nat.reduceMod, Nat.reduceEqDiff, reduceCtorEq, ↓reduceIte, Nat.reduceLT, Nat.reduceAdd, Nat.reduceMul, Nat.reduceSub, Nat.reduceLeDiff, Nat.reduceBEq, Int.reduceEq, Int.reduceNeg, Int.reduceToNat, Int.reduceLE, Int.reduceLT, cd25, Go.Proofs.Tryz.f25, h25.r, m25, lv_pl, pl25, c40, c53, lv25_5, l25_5]
  all_goals try simp only [rnS, seS, Nat.reduceEqDiff, reduceCtorEq, ↓reduceIte, Nat.reduceAdd, Nat.reduceLeDiff, Nat.reduceBEq, Nat.reduceMul, lv25_5]
  all_goals try simp only [bindN_eq]
theorem l25_5_eq (a0 : ByteArray) (t5 : Int) (t7 : Int) (b1c0 : ByteArray) (b1c1 : Int) (b1c2 : Bool) (b2c0 : ByteArray) (b2c1 : ByteArray) (r4 : List ByteArray) : l25_5 a0 t5 t7 b1c0 b1c1 b1c2 b2c0 b2c1 r4 = if (t7 < t5 ∧ t7 < 5) ∧ b1c2 = false then (n53 (Pt.mk (L14In.mk b1c0 b1c1 b1c2))).bind fun y0 => if (r4.length + 1) * 16 ≤ 140737488355328 ∧ r4.length ≤ 140737488355327 then l25_5 a0 t5 (IntKind.i64.wrap (t7 + 1)) y0.snd.v.s y0.snd.v.at_ y0.snd.v.bad b2c0 b2c1 (r4 ++ [y0.fst]) else none else (n53 (Pt.mk (L14In.mk b1c0 b1c1 b1c2))).bind fun y1 => (n53 (Pt.mk y1.snd.v)).bind fun y2 => if y2.snd.v.bad = true then some (KeepRec.mk ByteArray.empty ByteArray.empty [] ByteArray.empty ByteArray.empty) else some (KeepRec.mk b2c0 b2c1 r4 y1.fst y2.fst) := by
  rw [l25_5]
  simp only [evRAt, locS, cd25, Go.Proofs.Tryz.f25]
  rw [evR_eq]
  simp (maxSteps := 60000000) (disch := first | (intros; rename_i h; cases h; done) | decide +kernel) only [evS, seS, List.map_replicate, Nat.reduceDiv, Nat.reduceMod, Nat.reduceEqDiff, reduceCtorEq, ↓reduceIte, Nat.reduceLT, Nat.reduceAdd, Nat.reduceMul, Nat.reduceSub, Nat.reduceLeDiff, Nat.reduceBEq, Int.reduceEq, Int.reduceNeg, Int.reduceToNat, Int.reduceLE, Int.reduceLT, cd25, Go.Proofs.Tryz.f25, h25.r, m25, lv_pl, pl25, c40, c53, lv25_5, l25_5]
  all_goals try simp only [rnS, seS, Nat.reduceEqDiff, reduceCtorEq, ↓reduceIte, Nat.reduceAdd, Nat.reduceLeDiff, Nat.reduceBEq, Nat.reduceMul, lv25_5]
  all_goals try simp only [bindN_eq]
noncomputable def l37_4 (a0 : ByteArray) (a1 : U8) (t6 : Int) (t7 : Int) (r0 : List ByteArray) : Option ((List ByteArray)) := evRAt (envOf M .x) (lvT 37) cd37 [true, true, true, false, true, false] (endK (β := (List ByteArray)) M 37 .x Go.Proofs.Tryz.f37.results.toList) (stL 36 [(0, AV.d (D.s a0)), (1, AV.d (D.i IntKind.u8 (U8.mk a1.n).n)), (5, AV.r 500000), (6, AV.d (D.i IntKind.i64 t6)), (7, AV.d (D.i IntKind.i64 t7))] [(500000, some (Ob.row 1 (List.map cel r0) true false 0))])
theorem n37_eq (a0 : ByteArray) (a1 : U8) : n37 a0 a1 = l37_4 a0 a1 0 0 [] := by
  rw [n37, fnO_code h37 rfl Go.Proofs.Tryz.func37 (c := cd37) rfl (a0, a1, ()) rfl]
  simp (maxSteps := 60000000) (disch := first | (intros; rename_i h; cases h; done) | decide +kernel) only [evS, seS, List.map_replicate, Nat.reduceDiv, Nat.reduceMod, Nat.reduceEqDiff, reduceCtorEq, ↓reduceIte, Nat.reduceLT, Nat.reduceAdd, Nat.reduceMul, Nat.reduceSub, Nat.reduceLeDiff, Nat.reduceBEq, Int.reduceEq, Int.reduceNeg, Int.reduceToNat, Int.reduceLE, Int.reduceLT, cd37, Go.Proofs.Tryz.f37, h37.r, m37, lv_pl, pl37, lv37_4, l37_4]
  all_goals try simp only [rnS, seS, Nat.reduceEqDiff, reduceCtorEq, ↓reduceIte, Nat.reduceAdd, Nat.reduceLeDiff, Nat.reduceBEq, Nat.reduceMul, lv37_4]
theorem l37_4_eq (a0 : ByteArray) (a1 : U8) (t6 : Int) (t7 : Int) (r0 : List ByteArray) : l37_4 a0 a1 t6 t7 r0 = if t7 ≤ (↑a0.size : Int) then bindB (if t7 = (↑a0.size : Int) then some true else if 0 ≤ t7 ∧ t7 < (↑a0.size : Int) then some (decide (byteAt a0 t7 = a1.n)) else none) fun y0 => if y0 = true then if 0 ≤ t7 then if 0 ≤ t6 then if t6.toNat ≤ t7.toNat ∧ t7.toNat ≤ a0.size then if (r0.length + 1) * 16 ≤ 140737488355328 ∧ r0.length ≤ 140737488355327 then l37_4 a0 a1 (IntKind.i64.wrap (t7 + 1)) (IntKind.i64.wrap (t7 + 1)) (r0 ++ [a0.extract t6.toNat t7.toNat]) else none else none else none else none else l37_4 a0 a1 t6 (IntKind.i64.wrap (t7 + 1)) r0 else some r0 := by
  rw [l37_4]
  simp only [evRAt, locS, cd37, Go.Proofs.Tryz.f37]
  rw [evR_eq]
  simp (maxSteps := 60000000) (disch := first | (intros; rename_i h; cases h; done) | decide +kernel) only [evS, seS, List.map_replicate, Nat.reduceDiv, Nat.reduceMod, Nat.reduceEqDiff, reduceCtorEq, ↓reduceIte, Nat.reduceLT, Nat.reduceAdd, Nat.reduceMul, Nat.reduceSub, Nat.reduceLeDiff, Nat.reduceBEq, Int.reduceEq, Int.reduceNeg, Int.reduceToNat, Int.reduceLE, Int.reduceLT, cd37, Go.Proofs.Tryz.f37, h37.r, m37, lv_pl, pl37, lv37_4, l37_4]
  all_goals try simp only [rnS, seS, Nat.reduceEqDiff, reduceCtorEq, ↓reduceIte, Nat.reduceAdd, Nat.reduceLeDiff, Nat.reduceBEq, Nat.reduceMul, lv37_4]
noncomputable def l83_5 (a0 : ByteArray) (t11 : List ByteArray) (t12 : Int) (t13 : Int) (r0 : List Int) : Option ((List Int)) := evRAt (envOf M .x) (lvT 83) cd83 [true, true, true, false, true, false] (endK (β := (List Int)) M 83 .x Go.Proofs.Tryz.f83.results.toList) (stL 24 [(3, AV.r 500000), (11, AV.d (D.l 1 (List.map cel t11))), (12, AV.d (D.i IntKind.i64 t12)), (13, AV.d (D.i IntKind.i64 t13))] [(500000, some (Ob.row 1 (List.map cel r0) true false 0))])
theorem n83_eq (a0 : ByteArray) : n83 a0 = if a0 = ByteArray.mk #[] then some [] else (lSplit a0 (ByteArray.mk #[44])).bind fun y0 => l83_5 a0 y0 (↑y0.length : Int) 0 [] := by
  rw [n83, fnO_code h83 rfl Go.Proofs.Tryz.func83 (c := cd83) rfl (a0, ()) rfl]
  simp (maxSteps := 60000000) (disch := first | (intros; rename_i h; cases h; done) | decide +kernel) only [evS, seS, List.map_replicate, Nat.reduceDiv, Nat.reduceMod, Nat.reduceEqDiff, reduceCtorEq, ↓reduceIte, Nat.reduceLT, Nat.reduceAdd, Nat.reduceMul, Nat.reduceSub, Nat.reduceLeDiff, Nat.reduceBEq, Int.reduceEq, Int.reduceNeg, Int.reduceToNat, Int.reduceLE, Int.reduceLT, cd83, Go.Proofs.Tryz.f83, h83.r, m83, lv_pl, pl83, c79, c84, lv83_5, l83_5]
  all_goals try simp only [rnS, seS, Nat.reduceEqDiff, reduceCtorEq, ↓reduceIte, Nat.reduceAdd, Nat.reduceLeDiff, Nat.reduceBEq, Nat.reduceMul, lv83_5]
  all_goals try simp only [bindN_eq]
theorem l83_5_eq (a0 : ByteArray) (t11 : List ByteArray) (t12 : Int) (t13 : Int) (r0 : List Int) : l83_5 a0 t11 t12 t13 r0 = if t13 < t12 then (getI t11 t13).bind fun y0 => (n84 y0).bind fun y1 => if (r0.length + 1) * 8 ≤ 140737488355328 ∧ r0.length ≤ 140737488355327 then l83_5 a0 t11 t12 (IntKind.i64.wrap (t13 + 1)) (r0 ++ [y1]) else none else some r0 := by
  rw [l83_5]
  simp only [evRAt, locS, cd83, Go.Proofs.Tryz.f83]
  rw [evR_eq]
  simp (maxSteps := 60000000) (disch := first | (intros; rename_i h; cases h; done) | decide +kernel) only [evS, seS, List.map_replicate, Nat.reduceDiv, Nat.reduceMod, Nat.reduceEqDiff, reduceCtorEq, ↓reduceIte, Nat.reduceLT, Nat.reduceAdd, Nat.reduceMul, Nat.reduceSub, Nat.reduceLeDiff, Nat.reduceBEq, Int.reduceEq, Int.reduceNeg, Int.reduceToNat, Int.reduceLE, Int.reduceLT, cd83, Go.Proofs.Tryz.f83, h83.r, m83, lv_pl, pl83, c79, c84, lv83_5, l83_5]
  all_goals try simp only [rnS, seS, Nat.reduceEqDiff, reduceCtorEq, ↓reduceIte, Nat.reduceAdd, Nat.reduceLeDiff, Nat.reduceBEq, Nat.reduceMul, lv83_5]
  all_goals try simp only [bindN_eq]
noncomputable def l15_1 (a0 : ByteArray) (t5 : Int) (r0 : List KeepRec) : Option ((List KeepRec) × Int) := evRAt (envOf M .x) (lvT 15) cd15 [true, true, true, false] (endK (β := (List KeepRec) × Int) M 15 .x Go.Proofs.Tryz.f15.results.toList) (stL 30 [(0, AV.d (D.s a0)), (4, AV.r 500000), (5, AV.d (D.i IntKind.i64 t5))] [(500000, some (Ob.row 5 (List.map cel r0) true false 0))])
theorem n15_eq (a0 : ByteArray) : n15 a0 = if 400000 < (↑a0.size : Int) then some ([], 0) else l15_1 a0 0 [] := by
  rw [n15, fnO_code h15 rfl Go.Proofs.Tryz.func15 (c := cd15) rfl (a0, ()) rfl]
  simp (maxSteps := 60000000) (disch := first | (intros; rename_i h; cases h; done) | decide +kernel) only [evS, seS, List.map_replicate, Nat.reduceDiv, Nat.reduceMod, Nat.reduceEqDiff, reduceCtorEq, ↓reduceIte, Nat.reduceLT, Nat.reduceAdd, Nat.reduceMul, Nat.reduceSub, Nat.reduceLeDiff, Nat.reduceBEq, Int.reduceEq, Int.reduceNeg, Int.reduceToNat, Int.reduceLE, Int.reduceLT, cd15, Go.Proofs.Tryz.f15, h15.r, m15, lv_pl, pl15, c32, lv15_1, l15_1]
  all_goals try simp only [rnS, seS, Nat.reduceEqDiff, reduceCtorEq, ↓reduceIte, Nat.reduceAdd, Nat.reduceLeDiff, Nat.reduceBEq, Nat.reduceMul, lv15_1]
theorem l15_1_eq (a0 : ByteArray) (t5 : Int) (r0 : List KeepRec) : l15_1 a0 t5 r0 = if 0 ≤ t5 then if t5.toNat ≤ a0.size then (n32 (a0.extract t5.toNat a0.size)).bind fun y0 => if y0.snd = 0 then some (r0, t5) else if (r0.length + 1) * 88 ≤ 140737488355328 ∧ r0.length ≤ 140737488355327 then l15_1 a0 (IntKind.i64.wrap (t5 + y0.snd)) (r0 ++ [y0.fst]) else none else none else none := by
  rw [l15_1]
  simp only [evRAt, locS, cd15, Go.Proofs.Tryz.f15]
  rw [evR_eq]
  simp (maxSteps := 60000000) (disch := first | (intros; rename_i h; cases h; done) | decide +kernel) only [evS, seS, List.map_replicate, Nat.reduceDiv, Nat.reduceMod, Nat.reduceEqDiff, reduceCtorEq, ↓reduceIte, Nat.reduceLT, Nat.reduceAdd, Nat.reduceMul, Nat.reduceSub, Nat.reduceLeDiff, Nat.reduceBEq, Int.reduceEq, Int.reduceNeg, Int.reduceToNat, Int.reduceLE, Int.reduceLT, cd15, Go.Proofs.Tryz.f15, h15.r, m15, lv_pl, pl15, c32, lv15_1, l15_1]
  all_goals try simp only [rnS, seS, Nat.reduceEqDiff, reduceCtorEq, ↓reduceIte, Nat.reduceAdd, Nat.reduceLeDiff, Nat.reduceBEq, Nat.reduceMul, lv15_1]
  all_goals try simp only [bindN_eq]
noncomputable def l54_4 (a0 : ByteArray) (t3 : Int) : Option (Bool) := evRAt (envOf M .x) (lvT 54) cd54 [true, true, false, true, false] (endK (β := Bool) M 54 .x Go.Proofs.Tryz.f54.results.toList) (stL 32 [(0, AV.d (D.s a0)), (3, AV.d (D.i IntKind.i64 t3))] [])
theorem n54_eq (a0 : ByteArray) : n54 a0 = bindB (if (↑a0.size : Int) < 1 ∨ 8 < (↑a0.size : Int) then some true else n97 a0) fun y0 => if y0 = true then some false else l54_4 a0 0 := by
  rw [n54, fnO_code h54 rfl Go.Proofs.Tryz.func54 (c := cd54) rfl (a0, ()) rfl]
  simp (maxSteps := 60000000) (disch := first | (intros; rename_i h; cases h; done) | decide +kernel) only [evS, seS, List.map_replicate, Nat.reduceDiv, Nat.reduceMod, Nat.reduceEqDiff, reduceCtorEq, ↓reduceIte, Nat.reduceLT, Nat.reduceAdd, Nat.reduceMul, Nat.reduceSub, Nat.reduceLeDiff, Nat.reduceBEq, Int.reduceEq, Int.reduceNeg, Int.reduceToNat, Int.reduceLE, Int.reduceLT, cd54, Go.Proofs.Tryz.f54, h54.r, m54, lv_pl, pl54, c97, lv54_4, l54_4]
  all_goals try simp only [rnS, seS, Nat.reduceEqDiff, reduceCtorEq, ↓reduceIte, Nat.reduceAdd, Nat.reduceLeDiff, Nat.reduceBEq, Nat.reduceMul, lv54_4]
theorem l54_4_eq (a0 : ByteArray) (t3 : Int) : l54_4 a0 t3 = if t3 < (↑a0.size : Int) then if 0 ≤ t3 ∧ t3 < (↑a0.size : Int) then bindB (if byteAt a0 t3 < 97 then some true else if 0 ≤ t3 ∧ t3 < (↑a0.size : Int) then some (decide (122 < byteAt a0 t3)) else none) fun y0 => if y0 = true then some false else l54_4 a0 (IntKind.i64.wrap (t3 + 1)) else none else some true := by
  rw [l54_4]
  simp only [evRAt, locS, cd54, Go.Proofs.Tryz.f54]
  rw [evR_eq]
  simp (maxSteps := 60000000) (disch := first | (intros; rename_i h; cases h; done) | decide +kernel) only [evS, seS, List.map_replicate, Nat.reduceDiv, Nat.reduceMod, Nat.reduceEqDiff, reduceCtorEq, ↓reduceIte, Nat.reduceLT, Nat.reduceAdd, Nat.reduceMul, Nat.reduceSub, Nat.reduceLeDiff, Nat.reduceBEq, Int.reduceEq, Int.reduceNeg, Int.reduceToNat, Int.reduceLE, Int.reduceLT, cd54, Go.Proofs.Tryz.f54, h54.r, m54, lv_pl, pl54, c97, lv54_4, l54_4]
  all_goals try simp only [rnS, seS, Nat.reduceEqDiff, reduceCtorEq, ↓reduceIte, Nat.reduceAdd, Nat.reduceLeDiff, Nat.reduceBEq, Nat.reduceMul, lv54_4]
theorem n98_eq (a0 : ByteArray) : n98 a0 = (n70 a0 (U8.mk 40)).bind fun y0 => (n70 a0 (U8.mk 41)).bind fun y1 => if y0 < 0 ∨ y1 < y0 then some (FaceSig.mk ByteArray.empty [] 0) else if 0 ≤ y0 then if 0 ≤ y0.toNat ∧ y0.toNat ≤ a0.size then if 0 ≤ y1 then if 0 ≤ IntKind.i64.wrap (y0 + 1) then if (IntKind.i64.wrap (y0 + 1)).toNat ≤ y1.toNat ∧ y1.toNat ≤ a0.size then (n72 (a0.extract (IntKind.i64.wrap (y0 + 1)).toNat y1.toNat)).bind fun y2 => if 0 ≤ IntKind.i64.wrap (y1 + 1) then if (IntKind.i64.wrap (y1 + 1)).toNat ≤ a0.size then (n71 (a0.extract (IntKind.i64.wrap (y1 + 1)).toNat a0.size)).bind fun y3 => some (FaceSig.mk (a0.extract 0 y0.toNat) y2 y3) else none else none else none else none else none else none else none := by
  rw [n98, fnO_code h98 rfl Go.Proofs.Tryz.func98 (c := cd98) rfl (a0, ()) rfl]
  simp (maxSteps := 60000000) (disch := first | (intros; rename_i h; cases h; done) | decide +kernel) only [evS, seS, List.map_replicate, Nat.reduceDiv, Nat.reduceMod, Nat.reduceEqDiff, reduceCtorEq, ↓reduceIte, Nat.reduceLT, Nat.reduceAdd, Nat.reduceMul, Nat.reduceSub, Nat.reduceLeDiff, Nat.reduceBEq, Int.reduceEq, Int.reduceNeg, Int.reduceToNat, Int.reduceLE, Int.reduceLT, cd98, Go.Proofs.Tryz.f98, h98.r, m98, lv_pl, pl98, c70, c71, c72]
  all_goals try simp only [bindN_eq]
theorem n122_eq (a0 : ByteArray) (a1 : ByteArray) : n122 a0 a1 = (n153 a0 a1).bind fun y0 => if y0 = true then if 0 ≤ IntKind.i64.wrap ((↑a0.size : Int) - (↑a1.size : Int)) then if 0 ≤ (IntKind.i64.wrap ((↑a0.size : Int) - (↑a1.size : Int))).toNat ∧ (IntKind.i64.wrap ((↑a0.size : Int) - (↑a1.size : Int))).toNat ≤ a0.size then some (a0.extract 0 (IntKind.i64.wrap ((↑a0.size : Int) - (↑a1.size : Int))).toNat) else none else none else some a0 := by
  rw [n122, fnO_code h122 rfl Go.Proofs.Tryz.func122 (c := cd122) rfl (a0, a1, ()) rfl]
  simp (maxSteps := 60000000) (disch := first | (intros; rename_i h; cases h; done) | decide +kernel) only [evS, seS, List.map_replicate, Nat.reduceDiv, Nat.reduceMod, Nat.reduceEqDiff, reduceCtorEq, ↓reduceIte, Nat.reduceLT, Nat.reduceAdd, Nat.reduceMul, Nat.reduceSub, Nat.reduceLeDiff, Nat.reduceBEq, Int.reduceEq, Int.reduceNeg, Int.reduceToNat, Int.reduceLE, Int.reduceLT, cd122, Go.Proofs.Tryz.f122, h122.r, m122, lv_pl, pl122, c153]
  all_goals try simp only [bindN_eq]
theorem n112_eq (a0 : CodeIns) : n112 a0 = if a0.op = 1 then some (decide (a0.a < 100000000000000000) && decide (-100000000000000000 < a0.a)) else if a0.op = 2 then some (decide (a0.a = 0) || decide (a0.a = 1)) else if a0.op = 9 then some (decide (a0.a = 0)) else some (decide ((1 ≤ a0.op ∧ a0.op ≤ 10) ∧ 0 ≤ a0.a) && decide (a0.a ≤ 1000)) := by
  rw [n112, fnO_code h112 rfl Go.Proofs.Tryz.func112 (c := cd112) rfl (a0, ()) rfl]
  simp (maxSteps := 60000000) (disch := first | (intros; rename_i h; cases h; done) | decide +kernel) only [evS, seS, List.map_replicate, Nat.reduceDiv, Nat.reduceMod, Nat.reduceEqDiff, reduceCtorEq, ↓reduceIte, Nat.reduceLT, Nat.reduceAdd, Nat.reduceMul, Nat.reduceSub, Nat.reduceLeDiff, Nat.reduceBEq, Int.reduceEq, Int.reduceNeg, Int.reduceToNat, Int.reduceLE, Int.reduceLT, cd112, Go.Proofs.Tryz.f112, h112.r, m112, lv_pl, pl112]
theorem n64_65_eq (a0 : (List ByteArray)) : n64 a0 (Fv.mk (D.f 65 [])) = (n108 a0 (Fv.mk (D.f 65 []))).bind fun y0 => some (decide (0 ≤ y0)) := by
  rw [n64, fnO_code h64 rfl Go.Proofs.Tryz.func64 (c := cd64) rfl (a0, (Fv.mk (D.f 65 [])), ()) rfl]
  simp (maxSteps := 60000000) (disch := first | (intros; rename_i h; cases h; done) | decide +kernel) only [evS, seS, List.map_replicate, Nat.reduceDiv, Nat.reduceMod, Nat.reduceEqDiff, reduceCtorEq, ↓reduceIte, Nat.reduceLT, Nat.reduceAdd, Nat.reduceMul, Nat.reduceSub, Nat.reduceLeDiff, Nat.reduceBEq, Int.reduceEq, Int.reduceNeg, Int.reduceToNat, Int.reduceLE, Int.reduceLT, cd64, Go.Proofs.Tryz.f64, h64.r, m64, lv_pl, pl64, c108, c65]
  all_goals try simp only [bindN_eq]
theorem n29_eq (a0 : ByteArray) : n29 a0 = (n30 (↑a0.size : Int)).bind fun y0 => (cat y0 (ByteArray.mk #[58])).bind fun y1 => cat y1 a0 := by
  rw [n29, fnO_code h29 rfl Go.Proofs.Tryz.func29 (c := cd29) rfl (a0, ()) rfl]
  simp (maxSteps := 60000000) (disch := first | (intros; rename_i h; cases h; done) | decide +kernel) only [evS, seS, List.map_replicate, Nat.reduceDiv, Nat.reduceMod, Nat.reduceEqDiff, reduceCtorEq, ↓reduceIte, Nat.reduceLT, Nat.reduceAdd, Nat.reduceMul, Nat.reduceSub, Nat.reduceLeDiff, Nat.reduceBEq, Int.reduceEq, Int.reduceNeg, Int.reduceToNat, Int.reduceLE, Int.reduceLT, cd29, Go.Proofs.Tryz.f29, h29.r, m29, lv_pl, pl29, c30]
  all_goals try simp only [bindN_eq]
theorem n164_eq (a0 : Int) : n164 a0 = (n129 a0).bind fun y0 => some !y0 := by
  rw [n164, fnO_code h164 rfl Go.Proofs.Tryz.func164 (c := cd164) rfl (a0, ()) rfl]
  simp (maxSteps := 60000000) (disch := first | (intros; rename_i h; cases h; done) | decide +kernel) only [evS, seS, List.map_replicate, Nat.reduceDiv, Nat.reduceMod, Nat.reduceEqDiff, reduceCtorEq, ↓reduceIte, Nat.reduceLT, Nat.reduceAdd, Nat.reduceMul, Nat.reduceSub, Nat.reduceLeDiff, Nat.reduceBEq, Int.reduceEq, Int.reduceNeg, Int.reduceToNat, Int.reduceLE, Int.reduceLT, cd164, Go.Proofs.Tryz.f164, h164.r, m164, lv_pl, pl164, c129]
  all_goals try simp only [bindN_eq]
theorem n59_eq (a0 : ByteArray) (a1 : ByteArray) : n59 a0 a1 = n104 a0 a1 := by
  rw [n59, fnO_code h59 rfl Go.Proofs.Tryz.func59 (c := cd59) rfl (a0, a1, ()) rfl]
  simp (maxSteps := 60000000) (disch := first | (intros; rename_i h; cases h; done) | decide +kernel) only [evS, seS, List.map_replicate, Nat.reduceDiv, Nat.reduceMod, Nat.reduceEqDiff, reduceCtorEq, ↓reduceIte, Nat.reduceLT, Nat.reduceAdd, Nat.reduceMul, Nat.reduceSub, Nat.reduceLeDiff, Nat.reduceBEq, Int.reduceEq, Int.reduceNeg, Int.reduceToNat, Int.reduceLE, Int.reduceLT, cd59, Go.Proofs.Tryz.f59, h59.r, m59, lv_pl, pl59, c104]
end Go.Fs.Se
