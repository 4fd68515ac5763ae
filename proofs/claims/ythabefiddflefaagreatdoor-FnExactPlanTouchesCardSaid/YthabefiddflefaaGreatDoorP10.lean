/- A part of the proof: an evaluator of the program's code over plain data, proved sound; the equations of its functions; what they compute. No conditions beyond those in the theorems. -/
import Derived.Test.YthabefiddflefaaGreatDoorP5
set_option linter.unusedVariables false
set_option linter.unusedSimpArgs false
set_option linter.constructorNameAsVariable false
set_option linter.unusedSectionVars false
set_option linter.defProp false
set_option maxRecDepth 40000
set_option maxHeartbeats 4000000
open Go.RowKit
namespace Go.Fs.Se
open Cel (cel unc)
open Dat (enc dec)
open Arg (ea da)
noncomputable def l60_4 (a0 : TreeFun) (t3 : Int) : Option (Bool) := evRAt (envOf M .x) (lvT 60) cd60 [true, true, false, true, false] (endK (β := Bool) M 60 .x Go.Proofs.Tryz.f60.results.toList) (stL 70 [(1, AV.a 500000 0), (3, AV.d (D.i IntKind.i64 t3))] [(500000, some (Ob.box [AV.d (D.s a0.name), AV.d (D.b a0.pub), AV.d (D.l 2 (List.map cel a0.args)), AV.d (D.i IntKind.i64 a0.type), AV.d (D.i IntKind.i64 a0.body.kind), AV.d (D.i IntKind.i64 a0.body.num), AV.d (D.s a0.body.name), AV.d (D.s a0.body.mod), AV.d (D.l 5 (List.map cel a0.body.kids))]))])
noncomputable def l60_9 (a0 : TreeFun) (t3 : Int) (t4 : Int) : Option (Bool) := evRAt (envOf M .x) (lvT 60) cd60 [true, true, false, true, false, false, true, false, false, true, true, false] (endK (β := Bool) M 60 .x Go.Proofs.Tryz.f60.results.toList) (stL 70 [(1, AV.a 500000 0), (3, AV.d (D.i IntKind.i64 t3)), (4, AV.d (D.i IntKind.i64 t4))] [(500000, some (Ob.box [AV.d (D.s a0.name), AV.d (D.b a0.pub), AV.d (D.l 2 (List.map cel a0.args)), AV.d (D.i IntKind.i64 a0.type), AV.d (D.i IntKind.i64 a0.body.kind), AV.d (D.i IntKind.i64 a0.body.num), AV.d (D.s a0.body.name), AV.d (D.s a0.body.mod), AV.d (D.l 5 (List.map cel a0.body.kids))]))])
theorem n60_eq (a0 : TreeFun) : n60 a0 = (n35 a0.name).bind fun y0 => bindB (if y0 = false ∨ 4 < (↑a0.args.length : Int) then some true else (n42 a0.type).bind fun y1 => some (decide (y1 = ByteArray.mk #[]))) fun y2 => bindB (if y2 = true then some true else (n61 a0.body).bind fun y3 => some !y3) fun y4 => if y4 = true then some false else l60_4 a0 0 := by
 rw [n60, fnO_code h60 rfl Go.Proofs.Tryz.func60 (c := cd60) rfl (a0, ()) rfl]
 simp (maxSteps := 60000000) (disch := first | (intros; rename_i h; cases h; done) | decide +kernel) only [evS, seS, List.map_replicate, Nat.reduceDiv, Nat.reduceMod, Nat.reduceEqDiff, reduceCtorEq, ↓reduceIte, Nat.reduceLT, Nat.reduceAdd, Nat.reduceMul, Nat.reduceSub, Nat.reduceLeDiff, Nat.reduceBEq, Int.reduceEq, Int.reduceNeg, Int.reduceToNat, Int.reduceLE, Int.reduceLT, cd60, Go.Proofs.Tryz.f60, h60.r, m60, lv_pl, pl60, c35, c42, c61, lv60_9, lv60_4, l60_4, l60_9]
 all_goals try simp only [rnS, seS, Nat.reduceEqDiff, reduceCtorEq, ↓reduceIte, Nat.reduceAdd, Nat.reduceLeDiff, Nat.reduceBEq, Nat.reduceMul, lv60_9, lv60_4]
 all_goals try simp only [bindN_eq]
theorem l60_4_eq (a0 : TreeFun) (t3 : Int) : l60_4 a0 t3 = if t3 < (↑a0.args.length : Int) then (getI a0.args t3).bind fun y0 => (n35 y0.name).bind fun y1 => bindB (if y1 = false then some true else (getI a0.args t3).bind fun y2 => (n42 y2.type).bind fun y3 => some (decide (y3 = ByteArray.mk #[]))) fun y4 => if y4 = true then some false else l60_9 a0 t3 0 else some true := by
 rw [l60_4]
 simp only [evRAt, locS, cd60, Go.Proofs.Tryz.f60]
 rw [evR_eq]
 simp (maxSteps := 60000000) (disch := first | (intros; rename_i h; cases h; done) | decide +kernel) only [evS, seS, List.map_replicate, Nat.reduceDiv, Nat.reduceMod, Nat.reduceEqDiff, reduceCtorEq, ↓reduceIte, Nat.reduceLT, Nat.reduceAdd, Nat.reduceMul, Nat.reduceSub, Nat.reduceLeDiff, Nat.reduceBEq, Int.reduceEq, Int.reduceNeg, Int.reduceToNat, Int.reduceLE, Int.reduceLT, cd60, Go.Proofs.Tryz.f60, h60.r, m60, lv_pl, pl60, c35, c42, c61, lv60_9, lv60_4, l60_4, l60_9]
 all_goals try simp only [rnS, seS, Nat.reduceEqDiff, reduceCtorEq, ↓reduceIte, Nat.reduceAdd, Nat.reduceLeDiff, Nat.reduceBEq, Nat.reduceMul, lv60_9, lv60_4]
 all_goals try simp only [bindN_eq]
theorem l60_9_eq (a0 : TreeFun) (t3 : Int) (t4 : Int) : l60_9 a0 t3 t4 = if t4 < t3 then (getI a0.args t4).bind fun y0 => (getI a0.args t3).bind fun y1 => if y0.name = y1.name then some false else l60_9 a0 t3 (IntKind.i64.wrap (t4 + 1)) else l60_4 a0 (IntKind.i64.wrap (t3 + 1)) := by
 rw [l60_9]
 simp only [evRAt, locS, cd60, Go.Proofs.Tryz.f60]
 rw [evR_eq]
 simp (maxSteps := 60000000) (disch := first | (intros; rename_i h; cases h; done) | decide +kernel) only [evS, seS, List.map_replicate, Nat.reduceDiv, Nat.reduceMod, Nat.reduceEqDiff, reduceCtorEq, ↓reduceIte, Nat.reduceLT, Nat.reduceAdd, Nat.reduceMul, Nat.reduceSub, Nat.reduceLeDiff, Nat.reduceBEq, Int.reduceEq, Int.reduceNeg, Int.reduceToNat, Int.reduceLE, Int.reduceLT, cd60, Go.Proofs.Tryz.f60, h60.r, m60, lv_pl, pl60, c35, c42, c61, lv60_9, lv60_4, l60_4, l60_9]
 all_goals try simp only [rnS, seS, Nat.reduceEqDiff, reduceCtorEq, ↓reduceIte, Nat.reduceAdd, Nat.reduceLeDiff, Nat.reduceBEq, Nat.reduceMul, lv60_9, lv60_4]
 all_goals try simp only [bindN_eq]
noncomputable def l128_16 (a0 : (Pt Reader)) (b1c0 : Int) (b1c2 : ByteArray) (b1c3 : ByteArray) (r2 : List ByteArray) (r4 : List TreeExpr) : Option ((Po (TreeExpr)) × (Pt Reader)) := evRAt (envOf M (inAV (.io (enc a0)))) (lvT 128) cd128 [true, true, true, true, false, false] (endPI (α := (Pt Reader)) (β := Po (TreeExpr)) M 128 (enc a0) (inAV (.io (enc a0))) Go.Proofs.Tryz.f128.results.toList) (stL 66 [(0, AV.a 900000 0), (2, AV.a 500000 0), (4, AV.a 500001 0)] [(900000, some (Ob.box [AV.r 500002])), (500000, some (Ob.box [AV.d (D.i IntKind.i64 0), AV.d (D.i IntKind.i64 0), AV.d (D.s ByteArray.empty), AV.d (D.s ByteArray.empty), AV.r 500003])), (500001, some (Ob.box [AV.d (D.i IntKind.i64 b1c0), AV.d (D.i IntKind.i64 0), AV.d (D.s b1c2), AV.d (D.s b1c3), AV.r 500004])), (500002, some (Ob.row 1 (List.map cel r2) true false 0)), (500003, some (Ob.row 5 [] true false 0)), (500004, some (Ob.row 5 (List.map cel r4) true false 0))])
theorem n128_eq (a0 : (Pt Reader)) : n128 a0 = (n125 (Pt.mk a0.v)).bind fun y0 => poE y0.fst (fun y1 => (n149 y1).bind fun y2 => if y1 = ByteArray.mk #[105, 102] then l128_16 a0 5 ByteArray.empty ByteArray.empty y0.snd.v.words [] else if y1 = ByteArray.mk #[114, 111, 119] then l128_16 a0 8 ByteArray.empty ByteArray.empty y0.snd.v.words [] else if y1 = ByteArray.mk #[108, 101, 116] then (n107 (Pt.mk y0.snd.v)).bind fun y3 => poE y3.fst (fun y4 => l128_16 a0 6 y4 ByteArray.empty y3.snd.v.words []) fun y5 y6 => some (Po.pan y5 y6, Pt.mk a0.v) else (n150 y1).bind fun y7 => if 0 < y7 then l128_16 a0 4 y1 ByteArray.empty y0.snd.v.words [] else if y2.c = true then l128_16 a0 7 y2.b y2.a y0.snd.v.words [] else (n44 y1).bind fun y8 => if y8 = true then l128_16 a0 7 y1 ByteArray.empty y0.snd.v.words [] else some (Po.pan 120 [], Pt.mk a0.v)) fun y9 y10 => some (Po.pan y9 y10, Pt.mk a0.v) := by
 rw [n128, fnP_code h128 rfl Go.Proofs.Tryz.func128 (c := cd128) rfl (a0, ()) rfl]
 simp (maxSteps := 60000000) (disch := first | (intros; rename_i h; cases h; done) | decide +kernel) only [evS, seS, List.map_replicate, Nat.reduceDiv, Nat.reduceMod, Nat.reduceEqDiff, reduceCtorEq, ↓reduceIte, Nat.reduceLT, Nat.reduceAdd, Nat.reduceMul, Nat.reduceSub, Nat.reduceLeDiff, Nat.reduceBEq, Int.reduceEq, Int.reduceNeg, Int.reduceToNat, Int.reduceLE, Int.reduceLT, cd128, Go.Proofs.Tryz.f128, h128.r, m128, lv_pl, pl128, endPI_p h128, c44, c106, c107, c109, c125, c149, c150, lv128_16, l128_16]
 all_goals try simp only [rnS, seS, Nat.reduceEqDiff, reduceCtorEq, ↓reduceIte, Nat.reduceAdd, Nat.reduceLeDiff, Nat.reduceBEq, Nat.reduceMul, lv128_16]
 all_goals try simp only [bindN_eq]
theorem l128_16_eq (a0 : (Pt Reader)) (b1c0 : Int) (b1c2 : ByteArray) (b1c3 : ByteArray) (r2 : List ByteArray) (r4 : List TreeExpr) : l128_16 a0 b1c0 b1c2 b1c3 r2 r4 = (n106 (Pt.mk (Reader.mk r2)) [ByteArray.mk #[41]]).bind fun y0 => if y0.fst = false then (n109 (Pt.mk y0.snd.v)).bind fun y1 => poE y1.fst (fun y2 => if (r4.length + 1) * 72 ≤ 140737488355328 ∧ r4.length ≤ 140737488355327 then l128_16 a0 b1c0 b1c2 b1c3 y1.snd.v.words (r4 ++ [y2]) else none) fun y3 y4 => some (Po.pan y3 y4, Pt.mk a0.v) else some (Po.ok (TreeExpr.mk b1c0 0 b1c2 b1c3 r4), Pt.mk y0.snd.v) := by
 rw [l128_16]
 simp only [evRAt, locS, cd128, Go.Proofs.Tryz.f128]
 rw [evR_eq]
 simp (maxSteps := 60000000) (disch := first | (intros; rename_i h; cases h; done) | decide +kernel) only [evS, seS, List.map_replicate, Nat.reduceDiv, Nat.reduceMod, Nat.reduceEqDiff, reduceCtorEq, ↓reduceIte, Nat.reduceLT, Nat.reduceAdd, Nat.reduceMul, Nat.reduceSub, Nat.reduceLeDiff, Nat.reduceBEq, Int.reduceEq, Int.reduceNeg, Int.reduceToNat, Int.reduceLE, Int.reduceLT, cd128, Go.Proofs.Tryz.f128, h128.r, m128, lv_pl, pl128, endPI_p h128, c44, c106, c107, c109, c125, c149, c150, lv128_16, l128_16]
 all_goals try simp only [rnS, seS, Nat.reduceEqDiff, reduceCtorEq, ↓reduceIte, Nat.reduceAdd, Nat.reduceLeDiff, Nat.reduceBEq, Nat.reduceMul, lv128_16]
 all_goals try simp only [bindN_eq]
noncomputable def l58_2 (a0 : (List ByteArray)) (t3 : Int) : Option (Bool) := evRAt (envOf M .x) (lvT 58) cd58 [true, false, true, false] (endK (β := Bool) M 58 .x Go.Proofs.Tryz.f58.results.toList) (stL 31 [(0, AV.d (D.l 1 (List.map cel a0))), (3, AV.d (D.i IntKind.i64 t3))] [])
noncomputable def l58_7 (a0 : (List ByteArray)) (t3 : Int) (t4 : Int) : Option (Bool) := evRAt (envOf M .x) (lvT 58) cd58 [true, false, true, false, false, true, false, false, true, true, false] (endK (β := Bool) M 58 .x Go.Proofs.Tryz.f58.results.toList) (stL 31 [(0, AV.d (D.l 1 (List.map cel a0))), (3, AV.d (D.i IntKind.i64 t3)), (4, AV.d (D.i IntKind.i64 t4))] [])
theorem n58_eq (a0 : (List ByteArray)) : n58 a0 = l58_2 a0 0 := by
 rw [n58, fnO_code h58 rfl Go.Proofs.Tryz.func58 (c := cd58) rfl (a0, ()) rfl]
 simp (maxSteps := 60000000) (disch := first | (intros; rename_i h; cases h; done) | decide +kernel) only [evS, seS, List.map_replicate, Nat.reduceDiv, Nat.reduceMod, Nat.reduceEqDiff, reduceCtorEq, ↓reduceIte, Nat.reduceLT, Nat.reduceAdd, Nat.reduceMul, Nat.reduceSub, Nat.reduceLeDiff, Nat.reduceBEq, Int.reduceEq, Int.reduceNeg, Int.reduceToNat, Int.reduceLE, Int.reduceLT, cd58, Go.Proofs.Tryz.f58, h58.r, m58, lv_pl, pl58, c35, lv58_7, lv58_2, l58_2, l58_7]
 all_goals try simp only [rnS, seS, Nat.reduceEqDiff, reduceCtorEq, ↓reduceIte, Nat.reduceAdd, Nat.reduceLeDiff, Nat.reduceBEq, Nat.reduceMul, lv58_7, lv58_2]
theorem l58_2_eq (a0 : (List ByteArray)) (t3 : Int) : l58_2 a0 t3 = if t3 < (↑a0.length : Int) then (getI a0 t3).bind fun y0 => (n35 y0).bind fun y1 => if y1 = false then some false else l58_7 a0 t3 0 else some true := by
 rw [l58_2]
 simp only [evRAt, locS, cd58, Go.Proofs.Tryz.f58]
 rw [evR_eq]
 simp (maxSteps := 60000000) (disch := first | (intros; rename_i h; cases h; done) | decide +kernel) only [evS, seS, List.map_replicate, Nat.reduceDiv, Nat.reduceMod, Nat.reduceEqDiff, reduceCtorEq, ↓reduceIte, Nat.reduceLT, Nat.reduceAdd, Nat.reduceMul, Nat.reduceSub, Nat.reduceLeDiff, Nat.reduceBEq, Int.reduceEq, Int.reduceNeg, Int.reduceToNat, Int.reduceLE, Int.reduceLT, cd58, Go.Proofs.Tryz.f58, h58.r, m58, lv_pl, pl58, c35, lv58_7, lv58_2, l58_2, l58_7]
 all_goals try simp only [rnS, seS, Nat.reduceEqDiff, reduceCtorEq, ↓reduceIte, Nat.reduceAdd, Nat.reduceLeDiff, Nat.reduceBEq, Nat.reduceMul, lv58_7, lv58_2]
 all_goals try simp only [bindN_eq]
theorem l58_7_eq (a0 : (List ByteArray)) (t3 : Int) (t4 : Int) : l58_7 a0 t3 t4 = if t4 < t3 then (getI a0 t4).bind fun y0 => (getI a0 t3).bind fun y1 => if y0 = y1 then some false else l58_7 a0 t3 (IntKind.i64.wrap (t4 + 1)) else l58_2 a0 (IntKind.i64.wrap (t3 + 1)) := by
 rw [l58_7]
 simp only [evRAt, locS, cd58, Go.Proofs.Tryz.f58]
 rw [evR_eq]
 simp (maxSteps := 60000000) (disch := first | (intros; rename_i h; cases h; done) | decide +kernel) only [evS, seS, List.map_replicate, Nat.reduceDiv, Nat.reduceMod, Nat.reduceEqDiff, reduceCtorEq, ↓reduceIte, Nat.reduceLT, Nat.reduceAdd, Nat.reduceMul, Nat.reduceSub, Nat.reduceLeDiff, Nat.reduceBEq, Int.reduceEq, Int.reduceNeg, Int.reduceToNat, Int.reduceLE, Int.reduceLT, cd58, Go.Proofs.Tryz.f58, h58.r, m58, lv_pl, pl58, c35, lv58_7, lv58_2, l58_2, l58_7]
 all_goals try simp only [rnS, seS, Nat.reduceEqDiff, reduceCtorEq, ↓reduceIte, Nat.reduceAdd, Nat.reduceLeDiff, Nat.reduceBEq, Nat.reduceMul, lv58_7, lv58_2]
 all_goals try simp only [bindN_eq]
noncomputable def l50_3 (a0 : ByteArray) (t4 : Int) (r0 : List ByteArray) : Option (Bool) := evRAt (envOf M .x) (lvT 50) cd50 [true, true, false, true, false] (endK (β := Bool) M 50 .x Go.Proofs.Tryz.f50.results.toList) (stL 18 [(0, AV.d (D.s a0)), (3, AV.r 500000), (4, AV.d (D.i IntKind.i64 t4))] [(500000, some (Ob.row 1 (List.map cel r0) true false 0))])
theorem n50_eq (a0 : ByteArray) : n50 a0 = l50_3 a0 0 [ByteArray.mk #[117, 115, 101], ByteArray.mk #[102, 117, 110], ByteArray.mk #[112, 117, 98], ByteArray.mk #[109, 97, 105, 110], ByteArray.mk #[105, 110, 116], ByteArray.mk #[98, 111, 111, 108], ByteArray.mk #[114, 111, 119], ByteArray.mk #[105, 102], ByteArray.mk #[108, 101, 116], ByteArray.mk #[116, 114, 117, 101], ByteArray.mk #[102, 97, 108, 115, 101], ByteArray.mk #[97, 110, 100], ByteArray.mk #[111, 114], ByteArray.mk #[110, 111, 116], ByteArray.mk #[97, 116], ByteArray.mk #[108, 101, 110], ByteArray.mk #[112, 117, 116], ByteArray.mk #[106, 111, 105, 110], ByteArray.mk #[112, 114, 105, 110, 116]] := by
 rw [n50, fnO_code h50 rfl Go.Proofs.Tryz.func50 (c := cd50) rfl (a0, ()) rfl]
 simp (maxSteps := 60000000) (disch := first | (intros; rename_i h; cases h; done) | decide +kernel) only [evS, seS, List.map_replicate, Nat.reduceDiv, Nat.reduceMod, Nat.reduceEqDiff, reduceCtorEq, ↓reduceIte, Nat.reduceLT, Nat.reduceAdd, Nat.reduceMul, Nat.reduceSub, Nat.reduceLeDiff, Nat.reduceBEq, Int.reduceEq, Int.reduceNeg, Int.reduceToNat, Int.reduceLE, Int.reduceLT, cd50, Go.Proofs.Tryz.f50, h50.r, m50, lv_pl, pl50, lv50_3, l50_3]
 all_goals try simp only [rnS, seS, Nat.reduceEqDiff, reduceCtorEq, ↓reduceIte, Nat.reduceAdd, Nat.reduceLeDiff, Nat.reduceBEq, Nat.reduceMul, lv50_3]
theorem l50_3_eq (a0 : ByteArray) (t4 : Int) (r0 : List ByteArray) : l50_3 a0 t4 r0 = if t4 < (↑r0.length : Int) then (getI r0 t4).bind fun y0 => r0[t4.toNat]?.bind fun y3 => if y3 = a0 then some true else l50_3 a0 (IntKind.i64.wrap (t4 + 1)) r0 else some false := by
 rw [l50_3]
 simp only [evRAt, locS, cd50, Go.Proofs.Tryz.f50]
 rw [evR_eq]
 simp (maxSteps := 60000000) (disch := first | (intros; rename_i h; cases h; done) | decide +kernel) only [evS, seS, List.map_replicate, Nat.reduceDiv, Nat.reduceMod, Nat.reduceEqDiff, reduceCtorEq, ↓reduceIte, Nat.reduceLT, Nat.reduceAdd, Nat.reduceMul, Nat.reduceSub, Nat.reduceLeDiff, Nat.reduceBEq, Int.reduceEq, Int.reduceNeg, Int.reduceToNat, Int.reduceLE, Int.reduceLT, cd50, Go.Proofs.Tryz.f50, h50.r, m50, lv_pl, pl50, lv50_3, l50_3]
 all_goals try simp only [rnS, seS, Nat.reduceEqDiff, reduceCtorEq, ↓reduceIte, Nat.reduceAdd, Nat.reduceLeDiff, Nat.reduceBEq, Nat.reduceMul, lv50_3]
 all_goals try simp only [bindN_eq]
noncomputable def l11_2 (a0 : (List WholeSrc)) (a1 : Int) (t1 : Int) (t5 : Int) (z0 : List WholeSrc) : Option (Int × (List WholeSrc)) := evRAt (envOf M (inAV (.io (enc a0)))) (lvT 11) cd11 [true, false, true, false] (endI (α := (List WholeSrc)) (β := Int) M 11 (inAV (.io (enc a0))) Go.Proofs.Tryz.f11.results.toList) (stL 29 [(0, AV.r 900000), (1, AV.d (D.i IntKind.i64 t1)), (5, AV.d (D.i IntKind.i64 t5))] [(900000, some (Ob.row 2 (List.map cel z0) true false 0))])
theorem n11_eq (a0 : (List WholeSrc)) (a1 : Int) : n11 a0 a1 = l11_2 a0 a1 a1 0 a0 := by
 rw [n11, fnI_code h11 (by rw [m11]; decide) Go.Proofs.Tryz.func11 (c := cd11) rfl (a0, a1, ()) rfl]
 simp (maxSteps := 60000000) (disch := first | (intros; rename_i h; cases h; done) | decide +kernel) only [evS, seS, List.map_replicate, Nat.reduceDiv, Nat.reduceMod, Nat.reduceEqDiff, reduceCtorEq, ↓reduceIte, Nat.reduceLT, Nat.reduceAdd, Nat.reduceMul, Nat.reduceSub, Nat.reduceLeDiff, Nat.reduceBEq, Int.reduceEq, Int.reduceNeg, Int.reduceToNat, Int.reduceLE, Int.reduceLT, cd11, Go.Proofs.Tryz.f11, h11.r, m11, lv_pl, pl11, c23, lv11_2, l11_2]
 all_goals try simp only [rnS, seS, Nat.reduceEqDiff, reduceCtorEq, ↓reduceIte, Nat.reduceAdd, Nat.reduceLeDiff, Nat.reduceBEq, Nat.reduceMul, lv11_2]
theorem l11_2_eq (a0 : (List WholeSrc)) (a1 : Int) (t1 : Int) (t5 : Int) (z0 : List WholeSrc) : l11_2 a0 a1 t1 t5 z0 = if t5 < (↑z0.length : Int) then (n23 t1).bind fun y0 => (getI z0 t5).bind fun y1 => z0[t5.toNat]?.bind fun y4 => (n23 (IntKind.i64.wrap (t1 + 1))).bind fun y5 => (getI z0 t5).bind fun y6 => z0[t5.toNat]?.bind fun y9 => l11_2 a0 a1 (IntKind.i64.wrap (IntKind.i64.wrap (t1 + 1) + 1)) (IntKind.i64.wrap (t5 + 1)) (z0.set t5.toNat (WholeSrc.mk y0 y5)) else some (t1, z0) := by
 rw [l11_2]
 simp only [evRAt, locS, cd11, Go.Proofs.Tryz.f11]
 rw [evR_eq]
 simp (maxSteps := 60000000) (disch := first | (intros; rename_i h; cases h; done) | decide +kernel) only [evS, seS, List.map_replicate, Nat.reduceDiv, Nat.reduceMod, Nat.reduceEqDiff, reduceCtorEq, ↓reduceIte, Nat.reduceLT, Nat.reduceAdd, Nat.reduceMul, Nat.reduceSub, Nat.reduceLeDiff, Nat.reduceBEq, Int.reduceEq, Int.reduceNeg, Int.reduceToNat, Int.reduceLE, Int.reduceLT, cd11, Go.Proofs.Tryz.f11, h11.r, m11, lv_pl, pl11, c23, lv11_2, l11_2]
 all_goals try simp only [rnS, seS, Nat.reduceEqDiff, reduceCtorEq, ↓reduceIte, Nat.reduceAdd, Nat.reduceLeDiff, Nat.reduceBEq, Nat.reduceMul, lv11_2]
 all_goals try simp only [bindN_eq]
noncomputable def l7_3 (a0 : (List WholeSrc)) (t4 : Int) (r0 : List WholeSrc) : Option ((List WholeSrc)) := evRAt (envOf M .x) (lvT 7) cd7 [true, true, false, true, false] (endK (β := (List WholeSrc)) M 7 .x Go.Proofs.Tryz.f7.results.toList) (stL 23 [(0, AV.d (D.l 2 (List.map cel a0))), (3, AV.r 500000), (4, AV.d (D.i IntKind.i64 t4))] [(500000, some (Ob.row 2 (List.map cel r0) true false 0))])
theorem n7_eq (a0 : (List WholeSrc)) : n7 a0 = if 0 ≤ (↑a0.length : Int) ∧ (↑a0.length : Int) * 32 ≤ 140737488355328 ∧ (↑a0.length : Int) ≤ 140737488355328 then l7_3 a0 0 (List.replicate a0.length (WholeSrc.mk ByteArray.empty ByteArray.empty)) else none := by
 rw [n7, fnO_code h7 rfl Go.Proofs.Tryz.func7 (c := cd7) rfl (a0, ()) rfl]
 simp (maxSteps := 60000000) (disch := first | (intros; rename_i h; cases h; done) | decide +kernel) only [evS, seS, List.map_replicate, Nat.reduceDiv, Nat.reduceMod, Nat.reduceEqDiff, reduceCtorEq, ↓reduceIte, Nat.reduceLT, Nat.reduceAdd, Nat.reduceMul, Nat.reduceSub, Nat.reduceLeDiff, Nat.reduceBEq, Int.reduceEq, Int.reduceNeg, Int.reduceToNat, Int.reduceLE, Int.reduceLT, cd7, Go.Proofs.Tryz.f7, h7.r, m7, lv_pl, pl7, c19, lv7_3, l7_3]
 all_goals try simp only [rnS, seS, Nat.reduceEqDiff, reduceCtorEq, ↓reduceIte, Nat.reduceAdd, Nat.reduceLeDiff, Nat.reduceBEq, Nat.reduceMul, lv7_3]
theorem l7_3_eq (a0 : (List WholeSrc)) (t4 : Int) (r0 : List WholeSrc) : l7_3 a0 t4 r0 = if t4 < (↑a0.length : Int) then (getI a0 t4).bind fun y0 => (n19 y0).bind fun y1 => (getI r0 t4).bind fun y2 => r0[t4.toNat]?.bind fun y5 => l7_3 a0 (IntKind.i64.wrap (t4 + 1)) (r0.set t4.toNat y1) else some r0 := by
 rw [l7_3]
 simp only [evRAt, locS, cd7, Go.Proofs.Tryz.f7]
 rw [evR_eq]
 simp (maxSteps := 60000000) (disch := first | (intros; rename_i h; cases h; done) | decide +kernel) only [evS, seS, List.map_replicate, Nat.reduceDiv, Nat.reduceMod, Nat.reduceEqDiff, reduceCtorEq, ↓reduceIte, Nat.reduceLT, Nat.reduceAdd, Nat.reduceMul, Nat.reduceSub, Nat.reduceLeDiff, Nat.reduceBEq, Int.reduceEq, Int.reduceNeg, Int.reduceToNat, Int.reduceLE, Int.reduceLT, cd7, Go.Proofs.Tryz.f7, h7.r, m7, lv_pl, pl7, c19, lv7_3, l7_3]
 all_goals try simp only [rnS, seS, Nat.reduceEqDiff, reduceCtorEq, ↓reduceIte, Nat.reduceAdd, Nat.reduceLeDiff, Nat.reduceBEq, Nat.reduceMul, lv7_3]
 all_goals try simp only [bindN_eq]
noncomputable def l145_4 (a0 : (List ByteArray)) (a1 : (List ByteArray)) (t13 : Int) : Option (Bool) := evRAt (envOf M .x) (lvT 145) cd145 [true, true, false, true, false] (endK (β := Bool) M 145 .x Go.Proofs.Tryz.f145.results.toList) (stL 26 [(0, AV.d (D.l 1 (List.map cel a0))), (1, AV.d (D.l 1 (List.map cel a1))), (12, AV.d (D.i IntKind.i64 (↑a0.length : Int))), (13, AV.d (D.i IntKind.i64 t13))] [])
theorem n145_eq (a0 : (List ByteArray)) (a1 : (List ByteArray)) : n145 a0 a1 = if decide ((↑a0.length : Int) = (↑a1.length : Int)) = false then some false else l145_4 a0 a1 0 := by
 rw [n145, fnO_code h145 rfl Go.Proofs.Tryz.func145 (c := cd145) rfl (a0, a1, ()) rfl]
 simp (maxSteps := 60000000) (disch := first | (intros; rename_i h; cases h; done) | decide +kernel) only [evS, seS, List.map_replicate, Nat.reduceDiv, Nat.reduceMod, Nat.reduceEqDiff, reduceCtorEq, ↓reduceIte, Nat.reduceLT, Nat.reduceAdd, Nat.reduceMul, Nat.reduceSub, Nat.reduceLeDiff, Nat.reduceBEq, Int.reduceEq, Int.reduceNeg, Int.reduceToNat, Int.reduceLE, Int.reduceLT, cd145, Go.Proofs.Tryz.f145, h145.r, m145, lv_pl, pl145, lv145_4, l145_4]
 all_goals try simp only [rnS, seS, Nat.reduceEqDiff, reduceCtorEq, ↓reduceIte, Nat.reduceAdd, Nat.reduceLeDiff, Nat.reduceBEq, Nat.reduceMul, lv145_4]
theorem l145_4_eq (a0 : (List ByteArray)) (a1 : (List ByteArray)) (t13 : Int) : l145_4 a0 a1 t13 = if t13 < (↑a0.length : Int) then (getI a0 t13).bind fun y0 => (getI a1 t13).bind fun y1 => if decide (y0 = y1) = false then some false else l145_4 a0 a1 (IntKind.i64.wrap (t13 + 1)) else some true := by
 rw [l145_4]
 simp only [evRAt, locS, cd145, Go.Proofs.Tryz.f145]
 rw [evR_eq]
 simp (maxSteps := 60000000) (disch := first | (intros; rename_i h; cases h; done) | decide +kernel) only [evS, seS, List.map_replicate, Nat.reduceDiv, Nat.reduceMod, Nat.reduceEqDiff, reduceCtorEq, ↓reduceIte, Nat.reduceLT, Nat.reduceAdd, Nat.reduceMul, Nat.reduceSub, Nat.reduceLeDiff, Nat.reduceBEq, Int.reduceEq, Int.reduceNeg, Int.reduceToNat, Int.reduceLE, Int.reduceLT, cd145, Go.Proofs.Tryz.f145, h145.r, m145, lv_pl, pl145, lv145_4, l145_4]
 all_goals try simp only [rnS, seS, Nat.reduceEqDiff, reduceCtorEq, ↓reduceIte, Nat.reduceAdd, Nat.reduceLeDiff, Nat.reduceBEq, Nat.reduceMul, lv145_4]
 all_goals try simp only [bindN_eq]
noncomputable def l86_2 (a0 : (List ByteArray)) (t7 : Int) : Option (Bool) := evRAt (envOf M .x) (lvT 86) cd86 [true, false, true, false] (endK (β := Bool) M 86 .x Go.Proofs.Tryz.f86.results.toList) (stL 23 [(0, AV.d (D.l 1 (List.map cel a0))), (5, AV.d (D.l 1 (List.map cel a0))), (6, AV.d (D.i IntKind.i64 (↑a0.length : Int))), (7, AV.d (D.i IntKind.i64 t7))] [])
theorem n86_eq (a0 : (List ByteArray)) : n86 a0 = l86_2 a0 0 := by
 rw [n86, fnO_code h86 rfl Go.Proofs.Tryz.func86 (c := cd86) rfl (a0, ()) rfl]
 simp (maxSteps := 60000000) (disch := first | (intros; rename_i h; cases h; done) | decide +kernel) only [evS, seS, List.map_replicate, Nat.reduceDiv, Nat.reduceMod, Nat.reduceEqDiff, reduceCtorEq, ↓reduceIte, Nat.reduceLT, Nat.reduceAdd, Nat.reduceMul, Nat.reduceSub, Nat.reduceLeDiff, Nat.reduceBEq, Int.reduceEq, Int.reduceNeg, Int.reduceToNat, Int.reduceLE, Int.reduceLT, cd86, Go.Proofs.Tryz.f86, h86.r, m86, lv_pl, pl86, c21, c44, lv86_2, l86_2]
 all_goals try simp only [rnS, seS, Nat.reduceEqDiff, reduceCtorEq, ↓reduceIte, Nat.reduceAdd, Nat.reduceLeDiff, Nat.reduceBEq, Nat.reduceMul, lv86_2]
theorem l86_2_eq (a0 : (List ByteArray)) (t7 : Int) : l86_2 a0 t7 = if t7 < (↑a0.length : Int) then (getI a0 t7).bind fun y0 => (n44 y0).bind fun y1 => bindB (if y1 = false then some true else if 0 ≤ t7 then if 0 ≤ t7.toNat ∧ t7.toNat ≤ a0.length then n21 (List.take (t7.toNat - 0) a0) y0 else none else none) fun y2 => if y2 = true then some false else l86_2 a0 (IntKind.i64.wrap (t7 + 1)) else some true := by
 rw [l86_2]
 simp only [evRAt, locS, cd86, Go.Proofs.Tryz.f86]
 rw [evR_eq]
 simp (maxSteps := 60000000) (disch := first | (intros; rename_i h; cases h; done) | decide +kernel) only [evS, seS, List.map_replicate, Nat.reduceDiv, Nat.reduceMod, Nat.reduceEqDiff, reduceCtorEq, ↓reduceIte, Nat.reduceLT, Nat.reduceAdd, Nat.reduceMul, Nat.reduceSub, Nat.reduceLeDiff, Nat.reduceBEq, Int.reduceEq, Int.reduceNeg, Int.reduceToNat, Int.reduceLE, Int.reduceLT, cd86, Go.Proofs.Tryz.f86, h86.r, m86, lv_pl, pl86, c21, c44, lv86_2, l86_2]
 all_goals try simp only [rnS, seS, Nat.reduceEqDiff, reduceCtorEq, ↓reduceIte, Nat.reduceAdd, Nat.reduceLeDiff, Nat.reduceBEq, Nat.reduceMul, lv86_2]
 all_goals try simp only [bindN_eq]
noncomputable def l87_3 (a0 : (List TreeArg)) (t9 : Int) (r0 : List ByteArray) : Option ((List ByteArray)) := evRAt (envOf M .x) (lvT 87) cd87 [true, true, false, true, false] (endK (β := (List ByteArray)) M 87 .x Go.Proofs.Tryz.f87.results.toList) (stL 20 [(3, AV.r 500000), (7, AV.d (D.l 2 (List.map cel a0))), (8, AV.d (D.i IntKind.i64 (↑a0.length : Int))), (9, AV.d (D.i IntKind.i64 t9))] [(500000, some (Ob.row 1 (List.map cel r0) true false 0))])
theorem n87_eq (a0 : (List TreeArg)) : n87 a0 = l87_3 a0 0 [] := by
 rw [n87, fnO_code h87 rfl Go.Proofs.Tryz.func87 (c := cd87) rfl (a0, ()) rfl]
 simp (maxSteps := 60000000) (disch := first | (intros; rename_i h; cases h; done) | decide +kernel) only [evS, seS, List.map_replicate, Nat.reduceDiv, Nat.reduceMod, Nat.reduceEqDiff, reduceCtorEq, ↓reduceIte, Nat.reduceLT, Nat.reduceAdd, Nat.reduceMul, Nat.reduceSub, Nat.reduceLeDiff, Nat.reduceBEq, Int.reduceEq, Int.reduceNeg, Int.reduceToNat, Int.reduceLE, Int.reduceLT, cd87, Go.Proofs.Tryz.f87, h87.r, m87, lv_pl, pl87, lv87_3, l87_3]
 all_goals try simp only [rnS, seS, Nat.reduceEqDiff, reduceCtorEq, ↓reduceIte, Nat.reduceAdd, Nat.reduceLeDiff, Nat.reduceBEq, Nat.reduceMul, lv87_3]
theorem l87_3_eq (a0 : (List TreeArg)) (t9 : Int) (r0 : List ByteArray) : l87_3 a0 t9 r0 = if t9 < (↑a0.length : Int) then (getI a0 t9).bind fun y0 => if (r0.length + 1) * 16 ≤ 140737488355328 ∧ r0.length ≤ 140737488355327 then l87_3 a0 (IntKind.i64.wrap (t9 + 1)) (r0 ++ [y0.name]) else none else some r0 := by
 rw [l87_3]
 simp only [evRAt, locS, cd87, Go.Proofs.Tryz.f87]
 rw [evR_eq]
 simp (maxSteps := 60000000) (disch := first | (intros; rename_i h; cases h; done) | decide +kernel) only [evS, seS, List.map_replicate, Nat.reduceDiv, Nat.reduceMod, Nat.reduceEqDiff, reduceCtorEq, ↓reduceIte, Nat.reduceLT, Nat.reduceAdd, Nat.reduceMul, Nat.reduceSub, Nat.reduceLeDiff, Nat.reduceBEq, Int.reduceEq, Int.reduceNeg, Int.reduceToNat, Int.reduceLE, Int.reduceLT, cd87, Go.Proofs.Tryz.f87, h87.r, m87, lv_pl, pl87, lv87_3, l87_3]
 all_goals try simp only [rnS, seS, Nat.reduceEqDiff, reduceCtorEq, ↓reduceIte, Nat.reduceAdd, Nat.reduceLeDiff, Nat.reduceBEq, Nat.reduceMul, lv87_3]
 all_goals try simp only [bindN_eq]
noncomputable def l9_4 (a0 : (List ByteArray)) (a1 : (List ByteArray)) (t5 : Int) : Option (Bool) := evRAt (envOf M .x) (lvT 9) cd9 [true, true, false, true, false] (endK (β := Bool) M 9 .x Go.Proofs.Tryz.f9.results.toList) (stL 26 [(0, AV.d (D.l 1 (List.map cel a0))), (1, AV.d (D.l 1 (List.map cel a1))), (5, AV.d (D.i IntKind.i64 t5))] [])
theorem n9_eq (a0 : (List ByteArray)) (a1 : (List ByteArray)) : n9 a0 a1 = if decide ((↑a0.length : Int) = (↑a1.length : Int)) = false then some false else l9_4 a0 a1 0 := by
 rw [n9, fnO_code h9 rfl Go.Proofs.Tryz.func9 (c := cd9) rfl (a0, a1, ()) rfl]
 simp (maxSteps := 60000000) (disch := first | (intros; rename_i h; cases h; done) | decide +kernel) only [evS, seS, List.map_replicate, Nat.reduceDiv, Nat.reduceMod, Nat.reduceEqDiff, reduceCtorEq, ↓reduceIte, Nat.reduceLT, Nat.reduceAdd, Nat.reduceMul, Nat.reduceSub, Nat.reduceLeDiff, Nat.reduceBEq, Int.reduceEq, Int.reduceNeg, Int.reduceToNat, Int.reduceLE, Int.reduceLT, cd9, Go.Proofs.Tryz.f9, h9.r, m9, lv_pl, pl9, lv9_4, l9_4]
 all_goals try simp only [rnS, seS, Nat.reduceEqDiff, reduceCtorEq, ↓reduceIte, Nat.reduceAdd, Nat.reduceLeDiff, Nat.reduceBEq, Nat.reduceMul, lv9_4]
theorem l9_4_eq (a0 : (List ByteArray)) (a1 : (List ByteArray)) (t5 : Int) : l9_4 a0 a1 t5 = if t5 < (↑a0.length : Int) then (getI a0 t5).bind fun y0 => (getI a1 t5).bind fun y1 => if decide (y0 = y1) = false then some false else l9_4 a0 a1 (IntKind.i64.wrap (t5 + 1)) else some true := by
 rw [l9_4]
 simp only [evRAt, locS, cd9, Go.Proofs.Tryz.f9]
 rw [evR_eq]
 simp (maxSteps := 60000000) (disch := first | (intros; rename_i h; cases h; done) | decide +kernel) only [evS, seS, List.map_replicate, Nat.reduceDiv, Nat.reduceMod, Nat.reduceEqDiff, reduceCtorEq, ↓reduceIte, Nat.reduceLT, Nat.reduceAdd, Nat.reduceMul, Nat.reduceSub, Nat.reduceLeDiff, Nat.reduceBEq, Int.reduceEq, Int.reduceNeg, Int.reduceToNat, Int.reduceLE, Int.reduceLT, cd9, Go.Proofs.Tryz.f9, h9.r, m9, lv_pl, pl9, lv9_4, l9_4]
 all_goals try simp only [rnS, seS, Nat.reduceEqDiff, reduceCtorEq, ↓reduceIte, Nat.reduceAdd, Nat.reduceLeDiff, Nat.reduceBEq, Nat.reduceMul, lv9_4]
 all_goals try simp only [bindN_eq]
noncomputable def l34_2 (a0 : (List ByteArray)) (a1 : ByteArray) (t8 : Int) : Option (Int) := evRAt (envOf M .x) (lvT 34) cd34 [true, false, true, false] (endK (β := Int) M 34 .x Go.Proofs.Tryz.f34.results.toList) (stL 19 [(0, AV.d (D.l 1 (List.map cel a0))), (1, AV.d (D.s a1)), (7, AV.d (D.i IntKind.i64 (↑a0.length : Int))), (8, AV.d (D.i IntKind.i64 t8))] [])
theorem n34_eq (a0 : (List ByteArray)) (a1 : ByteArray) : n34 a0 a1 = l34_2 a0 a1 0 := by
 rw [n34, fnO_code h34 rfl Go.Proofs.Tryz.func34 (c := cd34) rfl (a0, a1, ()) rfl]
 simp (maxSteps := 60000000) (disch := first | (intros; rename_i h; cases h; done) | decide +kernel) only [evS, seS, List.map_replicate, Nat.reduceDiv, Nat.reduceMod, Nat.reduceEqDiff, reduceCtorEq, ↓reduceIte, Nat.reduceLT, Nat.reduceAdd, Nat.reduceMul, Nat.reduceSub, Nat.reduceLeDiff, Nat.reduceBEq, Int.reduceEq, Int.reduceNeg, Int.reduceToNat, Int.reduceLE, Int.reduceLT, cd34, Go.Proofs.Tryz.f34, h34.r, m34, lv_pl, pl34, lv34_2, l34_2]
 all_goals try simp only [rnS, seS, Nat.reduceEqDiff, reduceCtorEq, ↓reduceIte, Nat.reduceAdd, Nat.reduceLeDiff, Nat.reduceBEq, Nat.reduceMul, lv34_2]
theorem l34_2_eq (a0 : (List ByteArray)) (a1 : ByteArray) (t8 : Int) : l34_2 a0 a1 t8 = if t8 < (↑a0.length : Int) then (getI a0 t8).bind fun y0 => if a1 = y0 then some t8 else l34_2 a0 a1 (IntKind.i64.wrap (t8 + 1)) else some (-1) := by
 rw [l34_2]
 simp only [evRAt, locS, cd34, Go.Proofs.Tryz.f34]
 rw [evR_eq]
 simp (maxSteps := 60000000) (disch := first | (intros; rename_i h; cases h; done) | decide +kernel) only [evS, seS, List.map_replicate, Nat.reduceDiv, Nat.reduceMod, Nat.reduceEqDiff, reduceCtorEq, ↓reduceIte, Nat.reduceLT, Nat.reduceAdd, Nat.reduceMul, Nat.reduceSub, Nat.reduceLeDiff, Nat.reduceBEq, Int.reduceEq, Int.reduceNeg, Int.reduceToNat, Int.reduceLE, Int.reduceLT, cd34, Go.Proofs.Tryz.f34, h34.r, m34, lv_pl, pl34, lv34_2, l34_2]
 all_goals try simp only [rnS, seS, Nat.reduceEqDiff, reduceCtorEq, ↓reduceIte, Nat.reduceAdd, Nat.reduceLeDiff, Nat.reduceBEq, Nat.reduceMul, lv34_2]
 all_goals try simp only [bindN_eq]
noncomputable def l18_2 (a0 : (List ByteArray)) (a1 : ByteArray) (t5 : Int) : Option (Bool) := evRAt (envOf M .x) (lvT 18) cd18 [true, false, true, false] (endK (β := Bool) M 18 .x Go.Proofs.Tryz.f18.results.toList) (stL 18 [(0, AV.d (D.l 1 (List.map cel a0))), (1, AV.d (D.s a1)), (5, AV.d (D.i IntKind.i64 t5))] [])
theorem n18_eq (a0 : (List ByteArray)) (a1 : ByteArray) : n18 a0 a1 = l18_2 a0 a1 0 := by
 rw [n18, fnO_code h18 rfl Go.Proofs.Tryz.func18 (c := cd18) rfl (a0, a1, ()) rfl]
 simp (maxSteps := 60000000) (disch := first | (intros; rename_i h; cases h; done) | decide +kernel) only [evS, seS, List.map_replicate, Nat.reduceDiv, Nat.reduceMod, Nat.reduceEqDiff, reduceCtorEq, ↓reduceIte, Nat.reduceLT, Nat.reduceAdd, Nat.reduceMul, Nat.reduceSub, Nat.reduceLeDiff, Nat.reduceBEq, Int.reduceEq, Int.reduceNeg, Int.reduceToNat, Int.reduceLE, Int.reduceLT, cd18, Go.Proofs.Tryz.f18, h18.r, m18, lv_pl, pl18, lv18_2, l18_2]
 all_goals try simp only [rnS, seS, Nat.reduceEqDiff, reduceCtorEq, ↓reduceIte, Nat.reduceAdd, Nat.reduceLeDiff, Nat.reduceBEq, Nat.reduceMul, lv18_2]
theorem l18_2_eq (a0 : (List ByteArray)) (a1 : ByteArray) (t5 : Int) : l18_2 a0 a1 t5 = if t5 < (↑a0.length : Int) then (getI a0 t5).bind fun y0 => if y0 = a1 then some true else l18_2 a0 a1 (IntKind.i64.wrap (t5 + 1)) else some false := by
 rw [l18_2]
 simp only [evRAt, locS, cd18, Go.Proofs.Tryz.f18]
 rw [evR_eq]
 simp (maxSteps := 60000000) (disch := first | (intros; rename_i h; cases h; done) | decide +kernel) only [evS, seS, List.map_replicate, Nat.reduceDiv, Nat.reduceMod, Nat.reduceEqDiff, reduceCtorEq, ↓reduceIte, Nat.reduceLT, Nat.reduceAdd, Nat.reduceMul, Nat.reduceSub, Nat.reduceLeDiff, Nat.reduceBEq, Int.reduceEq, Int.reduceNeg, Int.reduceToNat, Int.reduceLE, Int.reduceLT, cd18, Go.Proofs.Tryz.f18, h18.r, m18, lv_pl, pl18, lv18_2, l18_2]
 all_goals try simp only [rnS, seS, Nat.reduceEqDiff, reduceCtorEq, ↓reduceIte, Nat.reduceAdd, Nat.reduceLeDiff, Nat.reduceBEq, Nat.reduceMul, lv18_2]
 all_goals try simp only [bindN_eq]
theorem n109_eq (a0 : (Pt Reader)) : n109 a0 = (n125 (Pt.mk a0.v)).bind fun y0 => poE y0.fst (fun y1 => (n127 y1).bind fun y2 => if y1 = ByteArray.mk #[40] then (n128 (Pt.mk y0.snd.v)).bind fun y3 => poE y3.fst (fun y4 => some (Po.ok y4, Pt.mk y3.snd.v)) fun y5 y6 => some (Po.pan y5 y6, Pt.mk a0.v) else if y2.snd = true then some (Po.ok (TreeExpr.mk 1 y2.fst ByteArray.empty ByteArray.empty []), Pt.mk y0.snd.v) else if y1 = ByteArray.mk #[116, 114, 117, 101] then some (Po.ok (TreeExpr.mk 2 1 ByteArray.empty ByteArray.empty []), Pt.mk y0.snd.v) else if y1 = ByteArray.mk #[102, 97, 108, 115, 101] then some (Po.ok (TreeExpr.mk 2 0 ByteArray.empty ByteArray.empty []), Pt.mk y0.snd.v) else (n44 y1).bind fun y7 => if y7 = false then some (Po.pan 120 [], Pt.mk a0.v) else some (Po.ok (TreeExpr.mk 3 0 y1 ByteArray.empty []), Pt.mk y0.snd.v)) fun y8 y9 => some (Po.pan y8 y9, Pt.mk a0.v) := by
 rw [n109, fnP_code h109 rfl Go.Proofs.Tryz.func109 (c := cd109) rfl (a0, ()) rfl]
 simp (maxSteps := 60000000) (disch := first | (intros; rename_i h; cases h; done) | decide +kernel) only [evS, seS, List.map_replicate, Nat.reduceDiv, Nat.reduceMod, Nat.reduceEqDiff, reduceCtorEq, ↓reduceIte, Nat.reduceLT, Nat.reduceAdd, Nat.reduceMul, Nat.reduceSub, Nat.reduceLeDiff, Nat.reduceBEq, Int.reduceEq, Int.reduceNeg, Int.reduceToNat, Int.reduceLE, Int.reduceLT, cd109, Go.Proofs.Tryz.f109, h109.r, m109, lv_pl, pl109, endPI_p h109, c44, c125, c127, c128]
 all_goals try simp only [bindN_eq]
theorem n78_eq (a0 : (Pt L2In)) : n78 a0 = (n54 (Pt.mk a0.v)).bind fun y0 => (n101 y0).bind fun y1 => if y1.snd = true then some (TreeExpr.mk 1 y1.fst ByteArray.empty ByteArray.empty [], Pt.mk (L2In.mk a0.v.w (IntKind.i64.wrap (a0.v.at_ + 1)) a0.v.bad)) else if y0 = ByteArray.mk #[116, 114, 117, 101] ∨ y0 = ByteArray.mk #[102, 97, 108, 115, 101] then if y0 = ByteArray.mk #[116, 114, 117, 101] then some (TreeExpr.mk 2 1 ByteArray.empty ByteArray.empty [], Pt.mk (L2In.mk a0.v.w (IntKind.i64.wrap (a0.v.at_ + 1)) a0.v.bad)) else some (TreeExpr.mk 2 y1.fst ByteArray.empty ByteArray.empty [], Pt.mk (L2In.mk a0.v.w (IntKind.i64.wrap (a0.v.at_ + 1)) a0.v.bad)) else (n76 (Pt.mk a0.v)).bind fun y2 => some (TreeExpr.mk 3 0 y2.fst ByteArray.empty [], Pt.mk y2.snd.v) := by
 rw [n78, fnI_code h78 (by rw [m78]; decide) Go.Proofs.Tryz.func78 (c := cd78) rfl (a0, ()) rfl]
 simp (maxSteps := 60000000) (disch := first | (intros; rename_i h; cases h; done) | decide +kernel) only [evS, seS, List.map_replicate, Nat.reduceDiv, Nat.reduceMod, Nat.reduceEqDiff, reduceCtorEq, ↓reduceIte, Nat.reduceLT, Nat.reduceAdd, Nat.reduceMul, Nat.reduceSub, Nat.reduceLeDiff, Nat.reduceBEq, Int.reduceEq, Int.reduceNeg, Int.reduceToNat, Int.reduceLE, Int.reduceLT, cd78, Go.Proofs.Tryz.f78, h78.r, m78, lv_pl, pl78, c54, c76, c101]
 all_goals try simp only [bindN_eq]
theorem n125_eq (a0 : (Pt Reader)) : n125 a0 = if (↑a0.v.words.length : Int) = 0 then some (Po.pan 120 [], Pt.mk a0.v) else (getI a0.v.words 0).bind fun y0 => a0.v.words[0]?.bind fun y3 => if 1 ≤ a0.v.words.length then some (Po.ok y3, Pt.mk (Reader.mk (List.take (a0.v.words.length - 1) (List.drop 1 a0.v.words)))) else none := by
 rw [n125, fnP_code h125 rfl Go.Proofs.Tryz.func125 (c := cd125) rfl (a0, ()) rfl]
 simp (maxSteps := 60000000) (disch := first | (intros; rename_i h; cases h; done) | decide +kernel) only [evS, seS, List.map_replicate, Nat.reduceDiv, Nat.reduceMod, Nat.reduceEqDiff, reduceCtorEq, ↓reduceIte, Nat.reduceLT, Nat.reduceAdd, Nat.reduceMul, Nat.reduceSub, Nat.reduceLeDiff, Nat.reduceBEq, Int.reduceEq, Int.reduceNeg, Int.reduceToNat, Int.reduceLE, Int.reduceLT, cd125, Go.Proofs.Tryz.f125, h125.r, m125, lv_pl, pl125, endPI_p h125]
 all_goals try simp only [bindN_eq]
theorem n53_eq (a0 : (Pt L2In)) (a1 : ByteArray) : n53 a0 a1 = (n54 (Pt.mk a0.v)).bind fun y0 => if decide (y0 = a1) = false then some ((), Pt.mk (L2In.mk a0.v.w (IntKind.i64.wrap (a0.v.at_ + 1)) true)) else some ((), Pt.mk (L2In.mk a0.v.w (IntKind.i64.wrap (a0.v.at_ + 1)) a0.v.bad)) := by
 rw [n53, fnI_code h53 (by rw [m53]; decide) Go.Proofs.Tryz.func53 (c := cd53) rfl (a0, a1, ()) rfl]
 simp (maxSteps := 60000000) (disch := first | (intros; rename_i h; cases h; done) | decide +kernel) only [evS, seS, List.map_replicate, Nat.reduceDiv, Nat.reduceMod, Nat.reduceEqDiff, reduceCtorEq, ↓reduceIte, Nat.reduceLT, Nat.reduceAdd, Nat.reduceMul, Nat.reduceSub, Nat.reduceLeDiff, Nat.reduceBEq, Int.reduceEq, Int.reduceNeg, Int.reduceToNat, Int.reduceLE, Int.reduceLT, cd53, Go.Proofs.Tryz.f53, h53.r, m53, lv_pl, pl53, c54]
 all_goals try simp only [bindN_eq]
theorem n124_eq (a0 : (Pt Reader)) (a1 : (List ByteArray)) : n124 a0 a1 = if (↑a1.length : Int) ≤ (↑a0.v.words.length : Int) then if 0 ≤ (↑a1.length : Int) then if 0 ≤ a1.length ∧ a1.length ≤ a0.v.words.length then n145 (List.take (a1.length - 0) a0.v.words) a1 else none else none else some false := by
 rw [n124, fnO_code h124 rfl Go.Proofs.Tryz.func124 (c := cd124) rfl (a0, a1, ()) rfl]
 simp (maxSteps := 60000000) (disch := first | (intros; rename_i h; cases h; done) | decide +kernel) only [evS, seS, List.map_replicate, Nat.reduceDiv, Nat.reduceMod, Nat.reduceEqDiff, reduceCtorEq, ↓reduceIte, Nat.reduceLT, Nat.reduceAdd, Nat.reduceMul, Nat.reduceSub, Nat.reduceLeDiff, Nat.reduceBEq, Int.reduceEq, Int.reduceNeg, Int.reduceToNat, Int.reduceLE, Int.reduceLT, cd124, Go.Proofs.Tryz.f124, h124.r, m124, lv_pl, pl124, c145]
theorem n104_eq (a0 : TreeExpr) (a1 : Bool) (a2 : Bool) (a3 : Bool) : n104 a0 a1 a2 a3 = some (decide ((a1 = true ∨ a0.num = 0) ∧ (a2 = true ∨ a0.name = ByteArray.mk #[])) && (decide (a3 = true) || decide (a0.mod = ByteArray.mk #[]))) := by
 rw [n104, fnO_code h104 rfl Go.Proofs.Tryz.func104 (c := cd104) rfl (a0, a1, a2, a3, ()) rfl]
 simp (maxSteps := 60000000) (disch := first | (intros; rename_i h; cases h; done) | decide +kernel) only [evS, seS, List.map_replicate, Nat.reduceDiv, Nat.reduceMod, Nat.reduceEqDiff, reduceCtorEq, ↓reduceIte, Nat.reduceLT, Nat.reduceAdd, Nat.reduceMul, Nat.reduceSub, Nat.reduceLeDiff, Nat.reduceBEq, Int.reduceEq, Int.reduceNeg, Int.reduceToNat, Int.reduceLE, Int.reduceLT, cd104, Go.Proofs.Tryz.f104, h104.r, m104, lv_pl, pl104]
theorem n89_90_eq (a0 : (List TreeArg)) : n89 a0 (Fv.mk (D.f 90 [])) = (n111 a0 (Fv.mk (D.f 90 []))).bind fun y0 => some (decide (0 ≤ y0)) := by
 rw [n89, fnO_code h89 rfl Go.Proofs.Tryz.func89 (c := cd89) rfl (a0, (Fv.mk (D.f 90 [])), ()) rfl]
 simp (maxSteps := 60000000) (disch := first | (intros; rename_i h; cases h; done) | decide +kernel) only [evS, seS, List.map_replicate, Nat.reduceDiv, Nat.reduceMod, Nat.reduceEqDiff, reduceCtorEq, ↓reduceIte, Nat.reduceLT, Nat.reduceAdd, Nat.reduceMul, Nat.reduceSub, Nat.reduceLeDiff, Nat.reduceBEq, Int.reduceEq, Int.reduceNeg, Int.reduceToNat, Int.reduceLE, Int.reduceLT, cd89, Go.Proofs.Tryz.f89, h89.r, m89, lv_pl, pl89, c111, c90]
 all_goals try simp only [bindN_eq]
theorem n51_eq (a0 : U8) : n51 a0 = (n52 (U8.mk a0.n)).bind fun y0 => some (decide (y0 = true) || decide (32 < a0.n) && decide (a0.n < 127)) := by
 rw [n51, fnO_code h51 rfl Go.Proofs.Tryz.func51 (c := cd51) rfl (a0, ()) rfl]
 simp (maxSteps := 60000000) (disch := first | (intros; rename_i h; cases h; done) | decide +kernel) only [evS, seS, List.map_replicate, Nat.reduceDiv, Nat.reduceMod, Nat.reduceEqDiff, reduceCtorEq, ↓reduceIte, Nat.reduceLT, Nat.reduceAdd, Nat.reduceMul, Nat.reduceSub, Nat.reduceLeDiff, Nat.reduceBEq, Int.reduceEq, Int.reduceNeg, Int.reduceToNat, Int.reduceLE, Int.reduceLT, cd51, Go.Proofs.Tryz.f51, h51.r, m51, lv_pl, pl51, c52]
 all_goals try simp only [bindN_eq]
theorem n54_eq (a0 : (Pt L2In)) : n54 a0 = if a0.v.at_ < (↑a0.v.w.length : Int) then getI a0.v.w a0.v.at_ else some (ByteArray.mk #[]) := by
 rw [n54, fnO_code h54 rfl Go.Proofs.Tryz.func54 (c := cd54) rfl (a0, ()) rfl]
 simp (maxSteps := 60000000) (disch := first | (intros; rename_i h; cases h; done) | decide +kernel) only [evS, seS, List.map_replicate, Nat.reduceDiv, Nat.reduceMod, Nat.reduceEqDiff, reduceCtorEq, ↓reduceIte, Nat.reduceLT, Nat.reduceAdd, Nat.reduceMul, Nat.reduceSub, Nat.reduceLeDiff, Nat.reduceBEq, Int.reduceEq, Int.reduceNeg, Int.reduceToNat, Int.reduceLE, Int.reduceLT, cd54, Go.Proofs.Tryz.f54, h54.r, m54, lv_pl, pl54]
theorem n148_eq (a0 : Int) : n148 a0 = n68 a0 (-99999999999999999) 99999999999999999 := by
 rw [n148, fnO_code h148 rfl Go.Proofs.Tryz.func148 (c := cd148) rfl (a0, ()) rfl]
 simp (maxSteps := 60000000) (disch := first | (intros; rename_i h; cases h; done) | decide +kernel) only [evS, seS, List.map_replicate, Nat.reduceDiv, Nat.reduceMod, Nat.reduceEqDiff, reduceCtorEq, ↓reduceIte, Nat.reduceLT, Nat.reduceAdd, Nat.reduceMul, Nat.reduceSub, Nat.reduceLeDiff, Nat.reduceBEq, Int.reduceEq, Int.reduceNeg, Int.reduceToNat, Int.reduceLE, Int.reduceLT, cd148, Go.Proofs.Tryz.f148, h148.r, m148, lv_pl, pl148, c68]
theorem n88_eq (a0 : Int) : n88 a0 = n68 a0 1 3 := by
 rw [n88, fnO_code h88 rfl Go.Proofs.Tryz.func88 (c := cd88) rfl (a0, ()) rfl]
 simp (maxSteps := 60000000) (disch := first | (intros; rename_i h; cases h; done) | decide +kernel) only [evS, seS, List.map_replicate, Nat.reduceDiv, Nat.reduceMod, Nat.reduceEqDiff, reduceCtorEq, ↓reduceIte, Nat.reduceLT, Nat.reduceAdd, Nat.reduceMul, Nat.reduceSub, Nat.reduceLeDiff, Nat.reduceBEq, Int.reduceEq, Int.reduceNeg, Int.reduceToNat, Int.reduceLE, Int.reduceLT, cd88, Go.Proofs.Tryz.f88, h88.r, m88, lv_pl, pl88, c68]
end Go.Fs.Se
