/- A part of the proof: an evaluator of the program's code over plain data, proved sound; the equations of its functions; what they compute. No conditions beyond those in the theorems. -/
import Derived.Test.YtkgkoolfobmfnaaGreatDoorP10
set_option linter.unusedVariables false
set_option linter.unusedSimpArgs false
set_option linter.constructorNameAsVariable false
set_option linter.unusedSectionVars false
set_option linter.defProp false
set_option maxRecDepth 40000
set_option maxHeartbeats 4000000
open Go.RowKit
namespace Go.Fs.Se
open Cel (cel unc)
open Dat (enc dec)
open Arg (ea da)
noncomputable def l109_6 (a0 : CodeObj) (t16 : Int) (sr1 : ByteArray) : Option (ByteArray) := evRAt (envOf M .x) (lvT 109) cd109 [true, true, true, true, false, true, false] (endK (β := ByteArray) M 109 .x Go.Proofs.Tryz.f109.results.toList) (stL 62 [(1, AV.a 500000 0), (3, AV.bp 500001), (14, AV.d (D.l 2 (List.map cel a0.refs))), (15, AV.d (D.i IntKind.i64 (↑a0.refs.length : Int))), (16, AV.d (D.i IntKind.i64 t16))] [(500000, some (Ob.box [AV.d (D.l 2 (List.map cel a0.refs)), AV.d (D.l 6 (List.map cel a0.funs))])), (500001, some (Ob.bld sr1))])
noncomputable def l109_11 (a0 : CodeObj) (t33 : Int) (sr0 : ByteArray) : Option (ByteArray) := evRAt (envOf M .x) (lvT 109) cd109 [true, true, true, true, true, false, true, false] (endK (β := ByteArray) M 109 .x Go.Proofs.Tryz.f109.results.toList) (stL 62 [(3, AV.bp 500000), (31, AV.d (D.l 6 (List.map cel a0.funs))), (32, AV.d (D.i IntKind.i64 (↑a0.funs.length : Int))), (33, AV.d (D.i IntKind.i64 t33))] [(500000, some (Ob.bld sr0))])
theorem n109_eq (a0 : CodeObj) : n109 a0 = (n143 a0).bind fun y0 => if y0 = false then some (ByteArray.mk #[]) else if ByteArray.empty.size + (ByteArray.mk #[111, 98, 106, 101, 99, 116, 10]).size ≤ 140737488355328 then l109_6 a0 0 (ByteArray.empty ++ ByteArray.mk #[111, 98, 106, 101, 99, 116, 10]) else none := by
  rw [n109, fnO_code h109 rfl Go.Proofs.Tryz.func109 (c := cd109) rfl (a0, ()) rfl]
  simp (maxSteps := 60000000) (disch := first | (intros; rename_i h; cases h; done) | decide +kernel) only [evS, seS, List.map_replicate, Nat.reduceDiv, Nat.reduceMod, Nat.reduceEqDiff, reduceCtorEq, ↓reduceIte, Nat.reduceLT, Nat.reduceAdd, Nat.reduceMul, Nat.reduceSub, Nat.reduceLeDiff, Nat.reduceBEq, Int.reduceEq, Int.reduceNeg, Int.reduceToNat, Int.reduceLE, Int.reduceLT, cd109, Go.Proofs.Tryz.f109, h109.r, m109, lv_pl, pl109, c17, c19, c86, c87, c143, lv109_11, lv109_6, l109_11, l109_6]
  all_goals try simp only [rnS, seS, Nat.reduceEqDiff, reduceCtorEq, ↓reduceIte, Nat.reduceAdd, Nat.reduceLeDiff, Nat.reduceBEq, Nat.reduceMul, lv109_11, lv109_6]
  all_goals try simp only [bindN_eq]
theorem l109_6_eq (a0 : CodeObj) (t16 : Int) (sr1 : ByteArray) : l109_6 a0 t16 sr1 = if t16 < (↑a0.refs.length : Int) then (getI a0.refs t16).bind fun y0 => (cat (ByteArray.mk #[114, 101, 102, 32]) y0.mod).bind fun y1 => (cat y1 (ByteArray.mk #[46])).bind fun y2 => (cat y2 y0.name).bind fun y3 => (cat y3 (ByteArray.mk #[10])).bind fun y4 => if sr1.size + y4.size ≤ 140737488355328 then l109_6 a0 (IntKind.i64.wrap (t16 + 1)) (sr1 ++ y4) else none else l109_11 a0 0 sr1 := by
  rw [l109_6]
  simp only [evRAt, locS, cd109, Go.Proofs.Tryz.f109]
  rw [evR_eq]
  simp (maxSteps := 60000000) (disch := first | (intros; rename_i h; cases h; done) | decide +kernel) only [evS, seS, List.map_replicate, Nat.reduceDiv, Nat.reduceMod, Nat.reduceEqDiff, reduceCtorEq, ↓reduceIte, Nat.reduceLT, Nat.reduceAdd, Nat.reduceMul, Nat.reduceSub, Nat.reduceLeDiff, Nat.reduceBEq, Int.reduceEq, Int.reduceNeg, Int.reduceToNat, Int.reduceLE, Int.reduceLT, cd109, Go.Proofs.Tryz.f109, h109.r, m109, lv_pl, pl109, c17, c19, c86, c87, c143, lv109_11, lv109_6, l109_11, l109_6]
  all_goals try simp only [rnS, seS, Nat.reduceEqDiff, reduceCtorEq, ↓reduceIte, Nat.reduceAdd, Nat.reduceLeDiff, Nat.reduceBEq, Nat.reduceMul, lv109_11, lv109_6]
  all_goals try simp only [bindN_eq]
theorem l109_11_eq (a0 : CodeObj) (t33 : Int) (sr0 : ByteArray) : l109_11 a0 t33 sr0 = if t33 < (↑a0.funs.length : Int) then (getI a0.funs t33).bind fun y0 => if y0.pub = true then (cat (ByteArray.mk #[102, 117, 110, 32]) y0.name).bind fun y1 => (cat y1 (ByteArray.mk #[32])).bind fun y2 => (cat y2 (ByteArray.mk #[112, 117, 98])).bind fun y3 => (cat y3 (ByteArray.mk #[32])).bind fun y4 => (n86 y0.args y0.type y0.slots).bind fun y5 => (cat y4 y5).bind fun y6 => (cat y6 (ByteArray.mk #[10])).bind fun y7 => (n87 y0.code).bind fun y8 => (cat y7 y8).bind fun y9 => if sr0.size + y9.size ≤ 140737488355328 then l109_11 a0 (IntKind.i64.wrap (t33 + 1)) (sr0 ++ y9) else none else (cat (ByteArray.mk #[102, 117, 110, 32]) y0.name).bind fun y10 => (cat y10 (ByteArray.mk #[32])).bind fun y11 => (cat y11 (ByteArray.mk #[111, 119, 110])).bind fun y12 => (cat y12 (ByteArray.mk #[32])).bind fun y13 => (n86 y0.args y0.type y0.slots).bind fun y14 => (cat y13 y14).bind fun y15 => (cat y15 (ByteArray.mk #[10])).bind fun y16 => (n87 y0.code).bind fun y17 => (cat y16 y17).bind fun y18 => if sr0.size + y18.size ≤ 140737488355328 then l109_11 a0 (IntKind.i64.wrap (t33 + 1)) (sr0 ++ y18) else none else some sr0 := by
  rw [l109_11]
  simp only [evRAt, locS, cd109, Go.Proofs.Tryz.f109]
  rw [evR_eq]
  simp (maxSteps := 60000000) (disch := first | (intros; rename_i h; cases h; done) | decide +kernel) only [evS, seS, List.map_replicate, Nat.reduceDiv, Nat.reduceMod, Nat.reduceEqDiff, reduceCtorEq, ↓reduceIte, Nat.reduceLT, Nat.reduceAdd, Nat.reduceMul, Nat.reduceSub, Nat.reduceLeDiff, Nat.reduceBEq, Int.reduceEq, Int.reduceNeg, Int.reduceToNat, Int.reduceLE, Int.reduceLT, cd109, Go.Proofs.Tryz.f109, h109.r, m109, lv_pl, pl109, c17, c19, c86, c87, c143, lv109_11, lv109_6, l109_11, l109_6]
  all_goals try simp only [rnS, seS, Nat.reduceEqDiff, reduceCtorEq, ↓reduceIte, Nat.reduceAdd, Nat.reduceLeDiff, Nat.reduceBEq, Nat.reduceMul, lv109_11, lv109_6]
  all_goals try simp only [bindN_eq]
noncomputable def l36_3 (a0 : KeepRec) (t3 : ByteArray) (t22 : Int) : Option (ByteArray) := evRAt (envOf M .x) (lvT 36) cd36 [true, true, false, true, false] (endK (β := ByteArray) M 36 .x Go.Proofs.Tryz.f36.results.toList) (stL 52 [(1, AV.a 500000 0), (3, AV.d (D.s t3)), (20, AV.d (D.l 1 (List.map cel a0.faces))), (21, AV.d (D.i IntKind.i64 (↑a0.faces.length : Int))), (22, AV.d (D.i IntKind.i64 t22))] [(500000, some (Ob.box [AV.d (D.s a0.name), AV.d (D.s a0.src), AV.d (D.l 1 (List.map cel a0.faces)), AV.d (D.s a0.face), AV.d (D.s a0.obj)]))])
theorem n36_eq (a0 : KeepRec) : n36 a0 = (n67 a0.name).bind fun y0 => (n67 a0.src).bind fun y1 => (cat y0 y1).bind fun y2 => (lItoa (↑a0.faces.length : Int)).bind fun y3 => (n67 y3).bind fun y4 => (cat y2 y4).bind fun y5 => l36_3 a0 y5 0 := by
  rw [n36, fnO_code h36 rfl Go.Proofs.Tryz.func36 (c := cd36) rfl (a0, ()) rfl]
  simp (maxSteps := 60000000) (disch := first | (intros; rename_i h; cases h; done) | decide +kernel) only [evS, seS, List.map_replicate, Nat.reduceDiv, Nat.reduceMod, Nat.reduceEqDiff, reduceCtorEq, ↓reduceIte, Nat.reduceLT, Nat.reduceAdd, Nat.reduceMul, Nat.reduceSub, Nat.reduceLeDiff, Nat.reduceBEq, Int.reduceEq, Int.reduceNeg, Int.reduceToNat, Int.reduceLE, Int.reduceLT, cd36, Go.Proofs.Tryz.f36, h36.r, m36, lv_pl, pl36, c67, c68, c69, lv36_3, l36_3]
  all_goals try simp only [rnS, seS, Nat.reduceEqDiff, reduceCtorEq, ↓reduceIte, Nat.reduceAdd, Nat.reduceLeDiff, Nat.reduceBEq, Nat.reduceMul, lv36_3]
  all_goals try simp only [bindN_eq]
theorem l36_3_eq (a0 : KeepRec) (t3 : ByteArray) (t22 : Int) : l36_3 a0 t3 t22 = if t22 < (↑a0.faces.length : Int) then (getI a0.faces t22).bind fun y0 => (n67 y0).bind fun y1 => (cat t3 y1).bind fun y2 => l36_3 a0 y2 (IntKind.i64.wrap (t22 + 1)) else (n67 a0.face).bind fun y3 => (n67 a0.obj).bind fun y4 => (cat y3 y4).bind fun y5 => (cat t3 y5).bind fun y6 => (lItoa (↑y6.size : Int)).bind fun y7 => (cat y7 (ByteArray.mk #[32])).bind fun y8 => (n69 y6).bind fun y9 => (lItoa y9).bind fun y10 => (cat y8 y10).bind fun y11 => (cat y11 (ByteArray.mk #[10])).bind fun y12 => (cat y12 y6).bind fun y13 => cat y13 (ByteArray.mk #[10]) := by
  rw [l36_3]
  simp only [evRAt, locS, cd36, Go.Proofs.Tryz.f36]
  rw [evR_eq]
  simp (maxSteps := 60000000) (disch := first | (intros; rename_i h; cases h; done) | decide +kernel) only [evS, seS, List.map_replicate, Nat.reduceDiv, Nat.reduceMod, Nat.reduceEqDiff, reduceCtorEq, ↓reduceIte, Nat.reduceLT, Nat.reduceAdd, Nat.reduceMul, Nat.reduceSub, Nat.reduceLeDiff, Nat.reduceBEq, Int.reduceEq, Int.reduceNeg, Int.reduceToNat, Int.reduceLE, Int.reduceLT, cd36, Go.Proofs.Tryz.f36, h36.r, m36, lv_pl, pl36, c67, c68, c69, lv36_3, l36_3]
  all_goals try simp only [rnS, seS, Nat.reduceEqDiff, reduceCtorEq, ↓reduceIte, Nat.reduceAdd, Nat.reduceLeDiff, Nat.reduceBEq, Nat.reduceMul, lv36_3]
  all_goals try simp only [bindN_eq]
noncomputable def l141_2 (a0 : (List FaceSig)) (t7 : Int) : Option (Bool) := evRAt (envOf M .x) (lvT 141) cd141 [true, false, true, false] (endK (β := Bool) M 141 .x Go.Proofs.Tryz.f141.results.toList) (stL 47 [(0, AV.d (D.l 3 (List.map cel a0))), (5, AV.d (D.l 3 (List.map cel a0))), (6, AV.d (D.i IntKind.i64 (↑a0.length : Int))), (7, AV.d (D.i IntKind.i64 t7))] [])
theorem n141_eq (a0 : (List FaceSig)) : n141 a0 = l141_2 a0 0 := by
  rw [n141, fnO_code h141 rfl Go.Proofs.Tryz.func141 (c := cd141) rfl (a0, ()) rfl]
  simp (maxSteps := 60000000) (disch := first | (intros; rename_i h; cases h; done) | decide +kernel) only [evS, seS, List.map_replicate, Nat.reduceDiv, Nat.reduceMod, Nat.reduceEqDiff, reduceCtorEq, ↓reduceIte, Nat.reduceLT, Nat.reduceAdd, Nat.reduceMul, Nat.reduceSub, Nat.reduceLeDiff, Nat.reduceBEq, Int.reduceEq, Int.reduceNeg, Int.reduceToNat, Int.reduceLE, Int.reduceLT, cd141, Go.Proofs.Tryz.f141, h141.r, m141, lv_pl, pl141, c62, c128, c129, lv141_2, l141_2]
  all_goals try simp only [rnS, seS, Nat.reduceEqDiff, reduceCtorEq, ↓reduceIte, Nat.reduceAdd, Nat.reduceLeDiff, Nat.reduceBEq, Nat.reduceMul, lv141_2]
theorem l141_2_eq (a0 : (List FaceSig)) (t7 : Int) : l141_2 a0 t7 = if t7 < (↑a0.length : Int) then (getI a0 t7).bind fun y0 => bindB ((n62 y0.name).bind fun y1 => if y1 = false then some true else if 0 < t7 then (getI a0 (IntKind.i64.wrap (t7 - 1))).bind fun y2 => if Op.bytesLess y2.name.data.toList y0.name.data.toList = false then some true else (n128 y0.args).bind fun y3 => if y3 = false then some true else (n129 y0.type).bind fun y4 => some !y4 else (n128 y0.args).bind fun y5 => if y5 = false then some true else (n129 y0.type).bind fun y6 => some !y6) fun y7 => if y7 = true then some false else l141_2 a0 (IntKind.i64.wrap (t7 + 1)) else some (decide ((↑a0.length : Int) ≤ 8)) := by
  rw [l141_2]
  simp only [evRAt, locS, cd141, Go.Proofs.Tryz.f141]
  rw [evR_eq]
  simp (maxSteps := 60000000) (disch := first | (intros; rename_i h; cases h; done) | decide +kernel) only [evS, seS, List.map_replicate, Nat.reduceDiv, Nat.reduceMod, Nat.reduceEqDiff, reduceCtorEq, ↓reduceIte, Nat.reduceLT, Nat.reduceAdd, Nat.reduceMul, Nat.reduceSub, Nat.reduceLeDiff, Nat.reduceBEq, Int.reduceEq, Int.reduceNeg, Int.reduceToNat, Int.reduceLE, Int.reduceLT, cd141, Go.Proofs.Tryz.f141, h141.r, m141, lv_pl, pl141, c62, c128, c129, lv141_2, l141_2]
  all_goals try simp only [rnS, seS, Nat.reduceEqDiff, reduceCtorEq, ↓reduceIte, Nat.reduceAdd, Nat.reduceLeDiff, Nat.reduceBEq, Nat.reduceMul, lv141_2]
  all_goals try simp only [bindN_eq]
noncomputable def l137_4 (a0 : FaceSig) (t3 : Int) : Option (Bool) := evRAt (envOf M .x) (lvT 137) cd137 [true, true, false, true, false] (endK (β := Bool) M 137 .x Go.Proofs.Tryz.f137.results.toList) (stL 34 [(1, AV.a 500000 0), (3, AV.d (D.i IntKind.i64 t3))] [(500000, some (Ob.box [AV.d (D.s a0.name), AV.d (D.l 1 (List.map cel a0.args)), AV.d (D.i IntKind.i64 a0.type)]))])
theorem n137_eq (a0 : FaceSig) : n137 a0 = (n54 a0.name).bind fun y0 => bindB (if y0 = false ∨ 4 < (↑a0.args.length : Int) then some true else (n76 a0.type).bind fun y1 => some (decide (y1 = ByteArray.mk #[]))) fun y2 => if y2 = true then some false else l137_4 a0 0 := by
  rw [n137, fnO_code h137 rfl Go.Proofs.Tryz.func137 (c := cd137) rfl (a0, ()) rfl]
  simp (maxSteps := 60000000) (disch := first | (intros; rename_i h; cases h; done) | decide +kernel) only [evS, seS, List.map_replicate, Nat.reduceDiv, Nat.reduceMod, Nat.reduceEqDiff, reduceCtorEq, ↓reduceIte, Nat.reduceLT, Nat.reduceAdd, Nat.reduceMul, Nat.reduceSub, Nat.reduceLeDiff, Nat.reduceBEq, Int.reduceEq, Int.reduceNeg, Int.reduceToNat, Int.reduceLE, Int.reduceLT, cd137, Go.Proofs.Tryz.f137, h137.r, m137, lv_pl, pl137, c54, c76, lv137_4, l137_4]
  all_goals try simp only [rnS, seS, Nat.reduceEqDiff, reduceCtorEq, ↓reduceIte, Nat.reduceAdd, Nat.reduceLeDiff, Nat.reduceBEq, Nat.reduceMul, lv137_4]
  all_goals try simp only [bindN_eq]
theorem l137_4_eq (a0 : FaceSig) (t3 : Int) : l137_4 a0 t3 = if t3 < (↑a0.args.length : Int) then (getI a0.args t3).bind fun y0 => (n76 y0).bind fun y1 => if y1 = ByteArray.mk #[] then some false else l137_4 a0 (IntKind.i64.wrap (t3 + 1)) else some true := by
  rw [l137_4]
  simp only [evRAt, locS, cd137, Go.Proofs.Tryz.f137]
  rw [evR_eq]
  simp (maxSteps := 60000000) (disch := first | (intros; rename_i h; cases h; done) | decide +kernel) only [evS, seS, List.map_replicate, Nat.reduceDiv, Nat.reduceMod, Nat.reduceEqDiff, reduceCtorEq, ↓reduceIte, Nat.reduceLT, Nat.reduceAdd, Nat.reduceMul, Nat.reduceSub, Nat.reduceLeDiff, Nat.reduceBEq, Int.reduceEq, Int.reduceNeg, Int.reduceToNat, Int.reduceLE, Int.reduceLT, cd137, Go.Proofs.Tryz.f137, h137.r, m137, lv_pl, pl137, c54, c76, lv137_4, l137_4]
  all_goals try simp only [rnS, seS, Nat.reduceEqDiff, reduceCtorEq, ↓reduceIte, Nat.reduceAdd, Nat.reduceLeDiff, Nat.reduceBEq, Nat.reduceMul, lv137_4]
  all_goals try simp only [bindN_eq]
noncomputable def l75_3 (a0 : (List Int)) (t3 : ByteArray) (t4 : Int) : Option (ByteArray) := evRAt (envOf M .x) (lvT 75) cd75 [true, true, false, true, false] (endK (β := ByteArray) M 75 .x Go.Proofs.Tryz.f75.results.toList) (stL 23 [(0, AV.d (D.l 1 (List.map cel a0))), (3, AV.d (D.s t3)), (4, AV.d (D.i IntKind.i64 t4))] [])
theorem n75_eq (a0 : (List Int)) : n75 a0 = l75_3 a0 (ByteArray.mk #[]) 0 := by
  rw [n75, fnO_code h75 rfl Go.Proofs.Tryz.func75 (c := cd75) rfl (a0, ()) rfl]
  simp (maxSteps := 60000000) (disch := first | (intros; rename_i h; cases h; done) | decide +kernel) only [evS, seS, List.map_replicate, Nat.reduceDiv, Nat.reduceMod, Nat.reduceEqDiff, reduceCtorEq, ↓reduceIte, Nat.reduceLT, Nat.reduceAdd, Nat.reduceMul, Nat.reduceSub, Nat.reduceLeDiff, Nat.reduceBEq, Int.reduceEq, Int.reduceNeg, Int.reduceToNat, Int.reduceLE, Int.reduceLT, cd75, Go.Proofs.Tryz.f75, h75.r, m75, lv_pl, pl75, c76, lv75_3, l75_3]
  all_goals try simp only [rnS, seS, Nat.reduceEqDiff, reduceCtorEq, ↓reduceIte, Nat.reduceAdd, Nat.reduceLeDiff, Nat.reduceBEq, Nat.reduceMul, lv75_3]
theorem l75_3_eq (a0 : (List Int)) (t3 : ByteArray) (t4 : Int) : l75_3 a0 t3 t4 = if t4 < (↑a0.length : Int) then if 0 < t4 then (cat t3 (ByteArray.mk #[44])).bind fun y0 => (getI a0 t4).bind fun y1 => (n76 y1).bind fun y2 => (cat y0 y2).bind fun y3 => l75_3 a0 y3 (IntKind.i64.wrap (t4 + 1)) else (getI a0 t4).bind fun y4 => (n76 y4).bind fun y5 => (cat t3 y5).bind fun y6 => l75_3 a0 y6 (IntKind.i64.wrap (t4 + 1)) else some t3 := by
  rw [l75_3]
  simp only [evRAt, locS, cd75, Go.Proofs.Tryz.f75]
  rw [evR_eq]
  simp (maxSteps := 60000000) (disch := first | (intros; rename_i h; cases h; done) | decide +kernel) only [evS, seS, List.map_replicate, Nat.reduceDiv, Nat.reduceMod, Nat.reduceEqDiff, reduceCtorEq, ↓reduceIte, Nat.reduceLT, Nat.reduceAdd, Nat.reduceMul, Nat.reduceSub, Nat.reduceLeDiff, Nat.reduceBEq, Int.reduceEq, Int.reduceNeg, Int.reduceToNat, Int.reduceLE, Int.reduceLT, cd75, Go.Proofs.Tryz.f75, h75.r, m75, lv_pl, pl75, c76, lv75_3, l75_3]
  all_goals try simp only [rnS, seS, Nat.reduceEqDiff, reduceCtorEq, ↓reduceIte, Nat.reduceAdd, Nat.reduceLeDiff, Nat.reduceBEq, Nat.reduceMul, lv75_3]
  all_goals try simp only [bindN_eq]
noncomputable def l69_3 (a0 : ByteArray) (t3 : Int) (t7 : Int) : Option (Int) := evRAt (envOf M .x) (lvT 69) cd69 [true, true, false, true, false] (endK (β := Int) M 69 .x Go.Proofs.Tryz.f69.results.toList) (stL 20 [(0, AV.d (D.s a0)), (3, AV.d (D.i IntKind.i64 t3)), (6, AV.d (D.i IntKind.i64 (↑a0.size : Int))), (7, AV.d (D.i IntKind.i64 t7))] [])
theorem n69_eq (a0 : ByteArray) : n69 a0 = l69_3 a0 1 0 := by
  rw [n69, fnO_code h69 rfl Go.Proofs.Tryz.func69 (c := cd69) rfl (a0, ()) rfl]
  simp (maxSteps := 60000000) (disch := first | (intros; rename_i h; cases h; done) | decide +kernel) only [evS, seS, List.map_replicate, Nat.reduceDiv, Nat.reduceMod, Nat.reduceEqDiff, reduceCtorEq, ↓reduceIte, Nat.reduceLT, Nat.reduceAdd, Nat.reduceMul, Nat.reduceSub, Nat.reduceLeDiff, Nat.reduceBEq, Int.reduceEq, Int.reduceNeg, Int.reduceToNat, Int.reduceLE, Int.reduceLT, cd69, Go.Proofs.Tryz.f69, h69.r, m69, lv_pl, pl69, lv69_3, l69_3]
  all_goals try simp only [rnS, seS, Nat.reduceEqDiff, reduceCtorEq, ↓reduceIte, Nat.reduceAdd, Nat.reduceLeDiff, Nat.reduceBEq, Nat.reduceMul, lv69_3]
theorem l69_3_eq (a0 : ByteArray) (t3 : Int) (t7 : Int) : l69_3 a0 t3 t7 = if t7 < (↑a0.size : Int) then if 0 ≤ t7 ∧ t7 < (↑a0.size : Int) then l69_3 a0 ((IntKind.i64.wrap (IntKind.i64.wrap (263 * t3) + IntKind.i64.wrap (byteAt a0 t7))).tmod 65521) (IntKind.i64.wrap (t7 + 1)) else none else some t3 := by
  rw [l69_3]
  simp only [evRAt, locS, cd69, Go.Proofs.Tryz.f69]
  rw [evR_eq]
  simp (maxSteps := 60000000) (disch := first | (intros; rename_i h; cases h; done) | decide +kernel) only [evS, seS, List.map_replicate, Nat.reduceDiv, Nat.reduceMod, Nat.reduceEqDiff, reduceCtorEq, ↓reduceIte, Nat.reduceLT, Nat.reduceAdd, Nat.reduceMul, Nat.reduceSub, Nat.reduceLeDiff, Nat.reduceBEq, Int.reduceEq, Int.reduceNeg, Int.reduceToNat, Int.reduceLE, Int.reduceLT, cd69, Go.Proofs.Tryz.f69, h69.r, m69, lv_pl, pl69, lv69_3, l69_3]
  all_goals try simp only [rnS, seS, Nat.reduceEqDiff, reduceCtorEq, ↓reduceIte, Nat.reduceAdd, Nat.reduceLeDiff, Nat.reduceBEq, Nat.reduceMul, lv69_3]
theorem n106_eq (a0 : ByteArray) : n106 a0 = n140 [ByteArray.mk #[117, 115, 101], ByteArray.mk #[102, 117, 110], ByteArray.mk #[112, 117, 98], ByteArray.mk #[109, 97, 105, 110], ByteArray.mk #[105, 110, 116], ByteArray.mk #[98, 111, 111, 108], ByteArray.mk #[114, 111, 119], ByteArray.mk #[105, 102], ByteArray.mk #[108, 101, 116], ByteArray.mk #[116, 114, 117, 101], ByteArray.mk #[102, 97, 108, 115, 101], ByteArray.mk #[97, 110, 100], ByteArray.mk #[111, 114], ByteArray.mk #[110, 111, 116], ByteArray.mk #[97, 116], ByteArray.mk #[108, 101, 110], ByteArray.mk #[112, 117, 116], ByteArray.mk #[106, 111, 105, 110], ByteArray.mk #[112, 114, 105, 110, 116]] a0 := by
  rw [n106, fnO_code h106 rfl Go.Proofs.Tryz.func106 (c := cd106) rfl (a0, ()) rfl]
  simp (maxSteps := 60000000) (disch := first | (intros; rename_i h; cases h; done) | decide +kernel) only [evS, seS, List.map_replicate, Nat.reduceDiv, Nat.reduceMod, Nat.reduceEqDiff, reduceCtorEq, ↓reduceIte, Nat.reduceLT, Nat.reduceAdd, Nat.reduceMul, Nat.reduceSub, Nat.reduceLeDiff, Nat.reduceBEq, Int.reduceEq, Int.reduceNeg, Int.reduceToNat, Int.reduceLE, Int.reduceLT, cd106, Go.Proofs.Tryz.f106, h106.r, m106, lv_pl, pl106, c140]
theorem n153_eq (a0 : ByteArray) (a1 : ByteArray) : n153 a0 a1 = if (↑a1.size : Int) ≤ (↑a0.size : Int) then if 0 ≤ IntKind.i64.wrap ((↑a0.size : Int) - (↑a1.size : Int)) then if (IntKind.i64.wrap ((↑a0.size : Int) - (↑a1.size : Int))).toNat ≤ a0.size then some (decide (a0.extract (IntKind.i64.wrap ((↑a0.size : Int) - (↑a1.size : Int))).toNat a0.size = a1)) else none else none else some false := by
  rw [n153, fnO_code h153 rfl Go.Proofs.Tryz.func153 (c := cd153) rfl (a0, a1, ()) rfl]
  simp (maxSteps := 60000000) (disch := first | (intros; rename_i h; cases h; done) | decide +kernel) only [evS, seS, List.map_replicate, Nat.reduceDiv, Nat.reduceMod, Nat.reduceEqDiff, reduceCtorEq, ↓reduceIte, Nat.reduceLT, Nat.reduceAdd, Nat.reduceMul, Nat.reduceSub, Nat.reduceLeDiff, Nat.reduceBEq, Int.reduceEq, Int.reduceNeg, Int.reduceToNat, Int.reduceLE, Int.reduceLT, cd153, Go.Proofs.Tryz.f153, h153.r, m153, lv_pl, pl153]
theorem n89_174_eq (a0 : (List CodeIns)) : n89 a0 (Fv.mk (D.f 174 [])) = (n130 a0 (Fv.mk (D.f 174 []))).bind fun y0 => some (decide (0 ≤ y0)) := by
  rw [n89, fnO_code h89 rfl Go.Proofs.Tryz.func89 (c := cd89) rfl (a0, (Fv.mk (D.f 174 [])), ()) rfl]
  simp (maxSteps := 60000000) (disch := first | (intros; rename_i h; cases h; done) | decide +kernel) only [evS, seS, List.map_replicate, Nat.reduceDiv, Nat.reduceMod, Nat.reduceEqDiff, reduceCtorEq, ↓reduceIte, Nat.reduceLT, Nat.reduceAdd, Nat.reduceMul, Nat.reduceSub, Nat.reduceLeDiff, Nat.reduceBEq, Int.reduceEq, Int.reduceNeg, Int.reduceToNat, Int.reduceLE, Int.reduceLT, cd89, Go.Proofs.Tryz.f89, h89.r, m89, lv_pl, pl89, c130, c174]
  all_goals try simp only [bindN_eq]
theorem n128_eq (a0 : (List Int)) : n128 a0 = if (↑a0.length : Int) ≤ 4 then (n92 a0 (Fv.mk (D.f 164 []))).bind fun y0 => some !y0 else some false := by
  rw [n128, fnO_code h128 rfl Go.Proofs.Tryz.func128 (c := cd128) rfl (a0, ()) rfl]
  simp (maxSteps := 60000000) (disch := first | (intros; rename_i h; cases h; done) | decide +kernel) only [evS, seS, List.map_replicate, Nat.reduceDiv, Nat.reduceMod, Nat.reduceEqDiff, reduceCtorEq, ↓reduceIte, Nat.reduceLT, Nat.reduceAdd, Nat.reduceMul, Nat.reduceSub, Nat.reduceLeDiff, Nat.reduceBEq, Int.reduceEq, Int.reduceNeg, Int.reduceToNat, Int.reduceLE, Int.reduceLT, cd128, Go.Proofs.Tryz.f128, h128.r, m128, lv_pl, pl128, c92, c164]
  all_goals try simp only [bindN_eq]
theorem n60_eq (a0 : KeepRec) : n60 a0 = (lClone a0.faces).bind fun y0 => some (KeepRec.mk a0.name a0.src y0 a0.face a0.obj) := by
  rw [n60, fnO_code h60 rfl Go.Proofs.Tryz.func60 (c := cd60) rfl (a0, ()) rfl]
  simp (maxSteps := 60000000) (disch := first | (intros; rename_i h; cases h; done) | decide +kernel) only [evS, seS, List.map_replicate, Nat.reduceDiv, Nat.reduceMod, Nat.reduceEqDiff, reduceCtorEq, ↓reduceIte, Nat.reduceLT, Nat.reduceAdd, Nat.reduceMul, Nat.reduceSub, Nat.reduceLeDiff, Nat.reduceBEq, Int.reduceEq, Int.reduceNeg, Int.reduceToNat, Int.reduceLE, Int.reduceLT, cd60, Go.Proofs.Tryz.f60, h60.r, m60, lv_pl, pl60, c105]
  all_goals try simp only [bindN_eq]
theorem n57_eq (a0 : Int) (a1 : Int) (a2 : Int) : n57 a0 a1 a2 = some (decide (a1 ≤ a0) && decide (a0 ≤ a2)) := by
  rw [n57, fnO_code h57 rfl Go.Proofs.Tryz.func57 (c := cd57) rfl (a0, a1, a2, ()) rfl]
  simp (maxSteps := 60000000) (disch := first | (intros; rename_i h; cases h; done) | decide +kernel) only [evS, seS, List.map_replicate, Nat.reduceDiv, Nat.reduceMod, Nat.reduceEqDiff, reduceCtorEq, ↓reduceIte, Nat.reduceLT, Nat.reduceAdd, Nat.reduceMul, Nat.reduceSub, Nat.reduceLeDiff, Nat.reduceBEq, Int.reduceEq, Int.reduceNeg, Int.reduceToNat, Int.reduceLE, Int.reduceLT, cd57, Go.Proofs.Tryz.f57, h57.r, m57, lv_pl, pl57]
end Go.Fs.Se
