/- A part of the proof: an evaluator of the program's code over plain data, proved sound; the equations of its functions; what they compute. No conditions beyond those in the theorems. -/
import Derived.Test.YtkgkoolfobmfnaaGreatDoorP10
set_option linter.unusedVariables false
set_option linter.unusedSimpArgs false
set_option linter.constructorNameAsVariable false
set_option linter.unusedSectionVars false
set_option linter.defProp false
set_option maxRecDepth 40000
set_option maxHeartbeats 4000000
open Go.RowKit
namespace Go.Fs.Se
open Cel (cel unc)
open Dat (enc dec)
open Arg (ea da)
noncomputable def l103_5 (a0 : CodeObj) (t3 : ByteArray) (t4 : Int) : Option (ByteArray) := evRAt (envOf M .x) (lvT 103) cd103 [true, true, true, false, true, false] (endK (β := ByteArray) M 103 .x Go.Proofs.Tryz.f103.results.toList) (stL 83 [(1, AV.a 500000 0), (3, AV.d (D.s t3)), (4, AV.d (D.i IntKind.i64 t4))] [(500000, some (Ob.box [AV.d (D.l 2 (List.map cel a0.refs)), AV.d (D.l 6 (List.map cel a0.funs))]))])
noncomputable def l103_9 (a0 : CodeObj) (t3 : ByteArray) (t5 : Int) : Option (ByteArray) := evRAt (envOf M .x) (lvT 103) cd103 [true, true, true, true, false, true, false] (endK (β := ByteArray) M 103 .x Go.Proofs.Tryz.f103.results.toList) (stL 83 [(1, AV.a 500000 0), (3, AV.d (D.s t3)), (5, AV.d (D.i IntKind.i64 t5))] [(500000, some (Ob.box [AV.d (D.l 2 (List.map cel a0.refs)), AV.d (D.l 6 (List.map cel a0.funs))]))])
noncomputable def l103_13 (a0 : CodeObj) (t3 : ByteArray) (t5 : Int) (t6 : Int) : Option (ByteArray) := evRAt (envOf M .x) (lvT 103) cd103 [true, true, true, true, false, true, false, false, true, false, false, true, true, false] (endK (β := ByteArray) M 103 .x Go.Proofs.Tryz.f103.results.toList) (stL 83 [(1, AV.a 500000 0), (3, AV.d (D.s t3)), (5, AV.d (D.i IntKind.i64 t5)), (6, AV.d (D.i IntKind.i64 t6))] [(500000, some (Ob.box [AV.d (D.l 2 (List.map cel a0.refs)), AV.d (D.l 6 (List.map cel a0.funs))]))])
theorem n103_eq (a0 : CodeObj) : n103 a0 = (n102 a0).bind fun y0 => if y0 = false then some (ByteArray.mk #[]) else l103_5 a0 (ByteArray.mk #[111, 98, 106, 101, 99, 116, 10]) 0 := by
  rw [n103, fnO_code h103 rfl Go.Proofs.Tryz.func103 (c := cd103) rfl (a0, ()) rfl]
  simp (maxSteps := 60000000) (disch := first | (intros; rename_i h; cases h; done) | decide +kernel) only [evS, seS, List.map_replicate, Nat.reduceDiv, Nat.reduceMod, Nat.reduceEqDiff, reduceCtorEq, ↓reduceIte, Nat.reduceLT, Nat.reduceAdd, Nat.reduceMul, Nat.reduceSub, Nat.reduceLeDiff, Nat.reduceBEq, Int.reduceEq, Int.reduceNeg, Int.reduceToNat, Int.reduceLE, Int.reduceLT, cd103, Go.Proofs.Tryz.f103, h103.r, m103, lv_pl, pl103, c30, c73, c102, c139, lv103_13, lv103_9, lv103_5, l103_13, l103_5, l103_9]
  all_goals try simp only [rnS, seS, Nat.reduceEqDiff, reduceCtorEq, ↓reduceIte, Nat.reduceAdd, Nat.reduceLeDiff, Nat.reduceBEq, Nat.reduceMul, lv103_13, lv103_9, lv103_5]
  all_goals try simp only [bindN_eq]
theorem l103_5_eq (a0 : CodeObj) (t3 : ByteArray) (t4 : Int) : l103_5 a0 t3 t4 = if t4 < (↑a0.refs.length : Int) then (cat t3 (ByteArray.mk #[114, 101, 102, 32])).bind fun y0 => (getI a0.refs t4).bind fun y1 => (cat y0 y1.mod).bind fun y2 => (cat y2 (ByteArray.mk #[46])).bind fun y3 => (getI a0.refs t4).bind fun y4 => (cat y3 y4.name).bind fun y5 => (cat y5 (ByteArray.mk #[10])).bind fun y6 => l103_5 a0 y6 (IntKind.i64.wrap (t4 + 1)) else l103_9 a0 t3 0 := by
  rw [l103_5]
  simp only [evRAt, locS, cd103, Go.Proofs.Tryz.f103]
  rw [evR_eq]
  simp (maxSteps := 60000000) (disch := first | (intros; rename_i h; cases h; done) | decide +kernel) only [evS, seS, List.map_replicate, Nat.reduceDiv, Nat.reduceMod, Nat.reduceEqDiff, reduceCtorEq, ↓reduceIte, Nat.reduceLT, Nat.reduceAdd, Nat.reduceMul, Nat.reduceSub, Nat.reduceLeDiff, Nat.reduceBEq, Int.reduceEq, Int.reduceNeg, Int.reduceToNat, Int.reduceLE, Int.reduceLT, cd103, Go.Proofs.Tryz.f103, h103.r, m103, lv_pl, pl103, c30, c73, c102, c139, lv103_13, lv103_9, lv103_5, l103_13, l103_5, l103_9]
  all_goals try simp only [rnS, seS, Nat.reduceEqDiff, reduceCtorEq, ↓reduceIte, Nat.reduceAdd, Nat.reduceLeDiff, Nat.reduceBEq, Nat.reduceMul, lv103_13, lv103_9, lv103_5]
  all_goals try simp only [bindN_eq]
theorem l103_9_eq (a0 : CodeObj) (t3 : ByteArray) (t5 : Int) : l103_9 a0 t3 t5 = if t5 < (↑a0.funs.length : Int) then (getI a0.funs t5).bind fun y0 => (n139 y0).bind fun y1 => (cat t3 y1).bind fun y2 => l103_13 a0 y2 t5 0 else some t3 := by
  rw [l103_9]
  simp only [evRAt, locS, cd103, Go.Proofs.Tryz.f103]
  rw [evR_eq]
  simp (maxSteps := 60000000) (disch := first | (intros; rename_i h; cases h; done) | decide +kernel) only [evS, seS, List.map_replicate, Nat.reduceDiv, Nat.reduceMod, Nat.reduceEqDiff, reduceCtorEq, ↓reduceIte, Nat.reduceLT, Nat.reduceAdd, Nat.reduceMul, Nat.reduceSub, Nat.reduceLeDiff, Nat.reduceBEq, Int.reduceEq, Int.reduceNeg, Int.reduceToNat, Int.reduceLE, Int.reduceLT, cd103, Go.Proofs.Tryz.f103, h103.r, m103, lv_pl, pl103, c30, c73, c102, c139, lv103_13, lv103_9, lv103_5, l103_13, l103_5, l103_9]
  all_goals try simp only [rnS, seS, Nat.reduceEqDiff, reduceCtorEq, ↓reduceIte, Nat.reduceAdd, Nat.reduceLeDiff, Nat.reduceBEq, Nat.reduceMul, lv103_13, lv103_9, lv103_5]
  all_goals try simp only [bindN_eq]
theorem l103_13_eq (a0 : CodeObj) (t3 : ByteArray) (t5 : Int) (t6 : Int) : l103_13 a0 t3 t5 t6 = (getI a0.funs t5).bind fun y0 => if t6 < (↑y0.code.length : Int) then (getI a0.funs t5).bind fun y1 => (getI y1.code t6).bind fun y2 => (n73 y2.op).bind fun y3 => (cat t3 y3).bind fun y4 => (cat y4 (ByteArray.mk #[32])).bind fun y5 => (n30 y2.a).bind fun y6 => (cat y5 y6).bind fun y7 => (cat y7 (ByteArray.mk #[10])).bind fun y8 => l103_13 a0 y8 t5 (IntKind.i64.wrap (t6 + 1)) else l103_9 a0 t3 (IntKind.i64.wrap (t5 + 1)) := by
  rw [l103_13]
  simp only [evRAt, locS, cd103, Go.Proofs.Tryz.f103]
  rw [evR_eq]
  simp (maxSteps := 60000000) (disch := first | (intros; rename_i h; cases h; done) | decide +kernel) only [evS, seS, List.map_replicate, Nat.reduceDiv, Nat.reduceMod, Nat.reduceEqDiff, reduceCtorEq, ↓reduceIte, Nat.reduceLT, Nat.reduceAdd, Nat.reduceMul, Nat.reduceSub, Nat.reduceLeDiff, Nat.reduceBEq, Int.reduceEq, Int.reduceNeg, Int.reduceToNat, Int.reduceLE, Int.reduceLT, cd103, Go.Proofs.Tryz.f103, h103.r, m103, lv_pl, pl103, c30, c73, c102, c139, lv103_13, lv103_9, lv103_5, l103_13, l103_5, l103_9]
  all_goals try simp only [rnS, seS, Nat.reduceEqDiff, reduceCtorEq, ↓reduceIte, Nat.reduceAdd, Nat.reduceLeDiff, Nat.reduceBEq, Nat.reduceMul, lv103_13, lv103_9, lv103_5]
  all_goals try simp only [bindN_eq]
noncomputable def l14_5 (a0 : KeepRec) (t3 : ByteArray) (t4 : Int) : Option (ByteArray) := evRAt (envOf M .x) (lvT 14) cd14 [true, true, true, false, true, false] (endK (β := ByteArray) M 14 .x Go.Proofs.Tryz.f14.results.toList) (stL 57 [(1, AV.a 500000 0), (3, AV.d (D.s t3)), (4, AV.d (D.i IntKind.i64 t4))] [(500000, some (Ob.box [AV.d (D.s a0.name), AV.d (D.s a0.src), AV.d (D.l 1 (List.map cel a0.faces)), AV.d (D.s a0.face), AV.d (D.s a0.obj)]))])
theorem n14_eq (a0 : KeepRec) : n14 a0 = (n28 a0).bind fun y0 => if y0 = false then some (ByteArray.mk #[]) else (n29 a0.name).bind fun y1 => (n29 a0.src).bind fun y2 => (cat y1 y2).bind fun y3 => (n30 (↑a0.faces.length : Int)).bind fun y4 => (n29 y4).bind fun y5 => (cat y3 y5).bind fun y6 => l14_5 a0 y6 0 := by
  rw [n14, fnO_code h14 rfl Go.Proofs.Tryz.func14 (c := cd14) rfl (a0, ()) rfl]
  simp (maxSteps := 60000000) (disch := first | (intros; rename_i h; cases h; done) | decide +kernel) only [evS, seS, List.map_replicate, Nat.reduceDiv, Nat.reduceMod, Nat.reduceEqDiff, reduceCtorEq, ↓reduceIte, Nat.reduceLT, Nat.reduceAdd, Nat.reduceMul, Nat.reduceSub, Nat.reduceLeDiff, Nat.reduceBEq, Int.reduceEq, Int.reduceNeg, Int.reduceToNat, Int.reduceLE, Int.reduceLT, cd14, Go.Proofs.Tryz.f14, h14.r, m14, lv_pl, pl14, c28, c29, c30, c31, lv14_5, l14_5]
  all_goals try simp only [rnS, seS, Nat.reduceEqDiff, reduceCtorEq, ↓reduceIte, Nat.reduceAdd, Nat.reduceLeDiff, Nat.reduceBEq, Nat.reduceMul, lv14_5]
  all_goals try simp only [bindN_eq]
theorem l14_5_eq (a0 : KeepRec) (t3 : ByteArray) (t4 : Int) : l14_5 a0 t3 t4 = if t4 < (↑a0.faces.length : Int) then (getI a0.faces t4).bind fun y0 => (n29 y0).bind fun y1 => (cat t3 y1).bind fun y2 => l14_5 a0 y2 (IntKind.i64.wrap (t4 + 1)) else (n29 a0.face).bind fun y3 => (cat t3 y3).bind fun y4 => (n29 a0.obj).bind fun y5 => (cat y4 y5).bind fun y6 => (n30 (↑y6.size : Int)).bind fun y7 => (cat y7 (ByteArray.mk #[32])).bind fun y8 => (n31 y6).bind fun y9 => (n30 y9).bind fun y10 => (cat y8 y10).bind fun y11 => (cat y11 (ByteArray.mk #[10])).bind fun y12 => (cat y12 y6).bind fun y13 => cat y13 (ByteArray.mk #[10]) := by
  rw [l14_5]
  simp only [evRAt, locS, cd14, Go.Proofs.Tryz.f14]
  rw [evR_eq]
  simp (maxSteps := 60000000) (disch := first | (intros; rename_i h; cases h; done) | decide +kernel) only [evS, seS, List.map_replicate, Nat.reduceDiv, Nat.reduceMod, Nat.reduceEqDiff, reduceCtorEq, ↓reduceIte, Nat.reduceLT, Nat.reduceAdd, Nat.reduceMul, Nat.reduceSub, Nat.reduceLeDiff, Nat.reduceBEq, Int.reduceEq, Int.reduceNeg, Int.reduceToNat, Int.reduceLE, Int.reduceLT, cd14, Go.Proofs.Tryz.f14, h14.r, m14, lv_pl, pl14, c28, c29, c30, c31, lv14_5, l14_5]
  all_goals try simp only [rnS, seS, Nat.reduceEqDiff, reduceCtorEq, ↓reduceIte, Nat.reduceAdd, Nat.reduceLeDiff, Nat.reduceBEq, Nat.reduceMul, lv14_5]
  all_goals try simp only [bindN_eq]
noncomputable def l45_3 (a0 : ByteArray) (t9 : List ByteArray) (t10 : Int) (t11 : Int) (r0 : List (List ByteArray)) (r0d : Bool) : Option ((List (List ByteArray))) := evRAt (envOf M .x) (lvT 45) cd45 [true, true, false, true, false] (endK (β := (List (List ByteArray))) M 45 .x Go.Proofs.Tryz.f45.results.toList) (stL 22 [(3, AV.r 500000), (9, AV.d (D.l 1 (List.map cel t9))), (10, AV.d (D.i IntKind.i64 t10)), (11, AV.d (D.i IntKind.i64 t11))] [(500000, some (Ob.row 1 (List.map cel r0) r0d false 0))])
theorem n45_eq (a0 : ByteArray) : n45 a0 = (n80 a0 (ByteArray.mk #[10])).bind fun y0 => (lSplit y0 (ByteArray.mk #[10])).bind fun y1 => l45_3 a0 y1 (↑y1.length : Int) 0 [] true := by
  rw [n45, fnO_code h45 rfl Go.Proofs.Tryz.func45 (c := cd45) rfl (a0, ()) rfl]
  simp (maxSteps := 60000000) (disch := first | (intros; rename_i h; cases h; done) | decide +kernel) only [evS, seS, List.map_replicate, Nat.reduceDiv, Nat.reduceMod, Nat.reduceEqDiff, reduceCtorEq, ↓reduceIte, Nat.reduceLT, Nat.reduceAdd, Nat.reduceMul, Nat.reduceSub, Nat.reduceLeDiff, Nat.reduceBEq, Int.reduceEq, Int.reduceNeg, Int.reduceToNat, Int.reduceLE, Int.reduceLT, cd45, Go.Proofs.Tryz.f45, h45.r, m45, lv_pl, pl45, c79, c80, lv45_3, l45_3]
  all_goals try simp only [rnS, seS, Nat.reduceEqDiff, reduceCtorEq, ↓reduceIte, Nat.reduceAdd, Nat.reduceLeDiff, Nat.reduceBEq, Nat.reduceMul, lv45_3]
  all_goals try simp only [bindN_eq]
theorem l45_3_eq (a0 : ByteArray) (t9 : List ByteArray) (t10 : Int) (t11 : Int) (r0 : List (List ByteArray)) (r0d : Bool) : l45_3 a0 t9 t10 t11 r0 r0d = if t11 < t10 then (getI t9 t11).bind fun y0 => (lSplit y0 (ByteArray.mk #[32])).bind fun y1 => if (r0.length + 1) * 24 ≤ 140737488355328 ∧ r0.length ≤ 140737488355327 then l45_3 a0 t9 t10 (IntKind.i64.wrap (t11 + 1)) (r0 ++ [y1]) false else none else some r0 := by
  rw [l45_3]
  simp only [evRAt, locS, cd45, Go.Proofs.Tryz.f45]
  rw [evR_eq]
  simp (maxSteps := 60000000) (disch := first | (intros; rename_i h; cases h; done) | decide +kernel) only [evS, seS, List.map_replicate, Nat.reduceDiv, Nat.reduceMod, Nat.reduceEqDiff, reduceCtorEq, ↓reduceIte, Nat.reduceLT, Nat.reduceAdd, Nat.reduceMul, Nat.reduceSub, Nat.reduceLeDiff, Nat.reduceBEq, Int.reduceEq, Int.reduceNeg, Int.reduceToNat, Int.reduceLE, Int.reduceLT, cd45, Go.Proofs.Tryz.f45, h45.r, m45, lv_pl, pl45, c79, c80, lv45_3, l45_3]
  all_goals try simp only [rnS, seS, Nat.reduceEqDiff, reduceCtorEq, ↓reduceIte, Nat.reduceAdd, Nat.reduceLeDiff, Nat.reduceBEq, Nat.reduceMul, lv45_3]
  all_goals try simp only [bindN_eq]
noncomputable def l72_6 (a0 : ByteArray) (t4 : List ByteArray) (t5 : Int) (r0 : List Int) : Option ((List Int)) := evRAt (envOf M .x) (lvT 72) cd72 [true, true, true, true, false, true, false] (endK (β := (List Int)) M 72 .x Go.Proofs.Tryz.f72.results.toList) (stL 27 [(3, AV.r 500000), (4, AV.d (D.l 1 (List.map cel t4))), (5, AV.d (D.i IntKind.i64 t5))] [(500000, some (Ob.row 1 (List.map cel r0) true false 0))])
theorem n72_eq (a0 : ByteArray) : n72 a0 = if a0 = ByteArray.mk #[] then some [] else (n37 a0 (U8.mk 44)).bind fun y0 => l72_6 a0 y0 0 [] := by
  rw [n72, fnO_code h72 rfl Go.Proofs.Tryz.func72 (c := cd72) rfl (a0, ()) rfl]
  simp (maxSteps := 60000000) (disch := first | (intros; rename_i h; cases h; done) | decide +kernel) only [evS, seS, List.map_replicate, Nat.reduceDiv, Nat.reduceMod, Nat.reduceEqDiff, reduceCtorEq, ↓reduceIte, Nat.reduceLT, Nat.reduceAdd, Nat.reduceMul, Nat.reduceSub, Nat.reduceLeDiff, Nat.reduceBEq, Int.reduceEq, Int.reduceNeg, Int.reduceToNat, Int.reduceLE, Int.reduceLT, cd72, Go.Proofs.Tryz.f72, h72.r, m72, lv_pl, pl72, c37, c71, lv72_6, l72_6]
  all_goals try simp only [rnS, seS, Nat.reduceEqDiff, reduceCtorEq, ↓reduceIte, Nat.reduceAdd, Nat.reduceLeDiff, Nat.reduceBEq, Nat.reduceMul, lv72_6]
  all_goals try simp only [bindN_eq]
theorem l72_6_eq (a0 : ByteArray) (t4 : List ByteArray) (t5 : Int) (r0 : List Int) : l72_6 a0 t4 t5 r0 = if t5 < (↑t4.length : Int) then (getI t4 t5).bind fun y0 => (n71 y0).bind fun y1 => if (r0.length + 1) * 8 ≤ 140737488355328 ∧ r0.length ≤ 140737488355327 then l72_6 a0 t4 (IntKind.i64.wrap (t5 + 1)) (r0 ++ [y1]) else none else some r0 := by
  rw [l72_6]
  simp only [evRAt, locS, cd72, Go.Proofs.Tryz.f72]
  rw [evR_eq]
  simp (maxSteps := 60000000) (disch := first | (intros; rename_i h; cases h; done) | decide +kernel) only [evS, seS, List.map_replicate, Nat.reduceDiv, Nat.reduceMod, Nat.reduceEqDiff, reduceCtorEq, ↓reduceIte, Nat.reduceLT, Nat.reduceAdd, Nat.reduceMul, Nat.reduceSub, Nat.reduceLeDiff, Nat.reduceBEq, Int.reduceEq, Int.reduceNeg, Int.reduceToNat, Int.reduceLE, Int.reduceLT, cd72, Go.Proofs.Tryz.f72, h72.r, m72, lv_pl, pl72, c37, c71, lv72_6, l72_6]
  all_goals try simp only [rnS, seS, Nat.reduceEqDiff, reduceCtorEq, ↓reduceIte, Nat.reduceAdd, Nat.reduceLeDiff, Nat.reduceBEq, Nat.reduceMul, lv72_6]
  all_goals try simp only [bindN_eq]
noncomputable def l130_174_2 (a0 : (List CodeIns)) (t8 : Int) : Option (Int) := evRAt (envOf M .x) (lvT 130) cd130 [true, false, true, false] (endK (β := Int) M 130 .x Go.Proofs.Tryz.f130.results.toList) (stL 19 [(0, AV.d (D.l 2 (List.map cel a0))), (1, AV.d (D.f 174 [])), (7, AV.d (D.i IntKind.i64 (↑a0.length : Int))), (8, AV.d (D.i IntKind.i64 t8))] [])
theorem n130_174_eq (a0 : (List CodeIns)) : n130 a0 (Fv.mk (D.f 174 [])) = l130_174_2 a0 0 := by
  rw [n130, fnO_code h130 rfl Go.Proofs.Tryz.func130 (c := cd130) rfl (a0, (Fv.mk (D.f 174 [])), ()) rfl]
  simp (maxSteps := 60000000) (disch := first | (intros; rename_i h; cases h; done) | decide +kernel) only [evS, seS, List.map_replicate, Nat.reduceDiv, Nat.reduceMod, Nat.reduceEqDiff, reduceCtorEq, ↓reduceIte, Nat.reduceLT, Nat.reduceAdd, Nat.reduceMul, Nat.reduceSub, Nat.reduceLeDiff, Nat.reduceBEq, Int.reduceEq, Int.reduceNeg, Int.reduceToNat, Int.reduceLE, Int.reduceLT, cd130, Go.Proofs.Tryz.f130, h130.r, m130, lv_pl, pl130, c174, lv130_2, l130_174_2]
  all_goals try simp only [rnS, seS, Nat.reduceEqDiff, reduceCtorEq, ↓reduceIte, Nat.reduceAdd, Nat.reduceLeDiff, Nat.reduceBEq, Nat.reduceMul, lv130_2]
theorem l130_174_2_eq (a0 : (List CodeIns)) (t8 : Int) : l130_174_2 a0 t8 = if t8 < (↑a0.length : Int) then (getI a0 t8).bind fun y0 => (n174 y0).bind fun y1 => if y1 = true then some t8 else l130_174_2 a0 (IntKind.i64.wrap (t8 + 1)) else some (-1) := by
  rw [l130_174_2]
  simp only [evRAt, locS, cd130, Go.Proofs.Tryz.f130]
  rw [evR_eq]
  simp (maxSteps := 60000000) (disch := first | (intros; rename_i h; cases h; done) | decide +kernel) only [evS, seS, List.map_replicate, Nat.reduceDiv, Nat.reduceMod, Nat.reduceEqDiff, reduceCtorEq, ↓reduceIte, Nat.reduceLT, Nat.reduceAdd, Nat.reduceMul, Nat.reduceSub, Nat.reduceLeDiff, Nat.reduceBEq, Int.reduceEq, Int.reduceNeg, Int.reduceToNat, Int.reduceLE, Int.reduceLT, cd130, Go.Proofs.Tryz.f130, h130.r, m130, lv_pl, pl130, c174, lv130_2, l130_174_2]
  all_goals try simp only [rnS, seS, Nat.reduceEqDiff, reduceCtorEq, ↓reduceIte, Nat.reduceAdd, Nat.reduceLeDiff, Nat.reduceBEq, Nat.reduceMul, lv130_2]
  all_goals try simp only [bindN_eq]
noncomputable def l31_3 (a0 : ByteArray) (t3 : Int) (t4 : Int) : Option (Int) := evRAt (envOf M .x) (lvT 31) cd31 [true, true, false, true, false] (endK (β := Int) M 31 .x Go.Proofs.Tryz.f31.results.toList) (stL 20 [(0, AV.d (D.s a0)), (3, AV.d (D.i IntKind.i64 t3)), (4, AV.d (D.i IntKind.i64 t4))] [])
theorem n31_eq (a0 : ByteArray) : n31 a0 = l31_3 a0 1 0 := by
  rw [n31, fnO_code h31 rfl Go.Proofs.Tryz.func31 (c := cd31) rfl (a0, ()) rfl]
  simp (maxSteps := 60000000) (disch := first | (intros; rename_i h; cases h; done) | decide +kernel) only [evS, seS, List.map_replicate, Nat.reduceDiv, Nat.reduceMod, Nat.reduceEqDiff, reduceCtorEq, ↓reduceIte, Nat.reduceLT, Nat.reduceAdd, Nat.reduceMul, Nat.reduceSub, Nat.reduceLeDiff, Nat.reduceBEq, Int.reduceEq, Int.reduceNeg, Int.reduceToNat, Int.reduceLE, Int.reduceLT, cd31, Go.Proofs.Tryz.f31, h31.r, m31, lv_pl, pl31, lv31_3, l31_3]
  all_goals try simp only [rnS, seS, Nat.reduceEqDiff, reduceCtorEq, ↓reduceIte, Nat.reduceAdd, Nat.reduceLeDiff, Nat.reduceBEq, Nat.reduceMul, lv31_3]
theorem l31_3_eq (a0 : ByteArray) (t3 : Int) (t4 : Int) : l31_3 a0 t3 t4 = if t4 < (↑a0.size : Int) then if 0 ≤ t4 ∧ t4 < (↑a0.size : Int) then l31_3 a0 ((IntKind.i64.wrap (IntKind.i64.wrap (t3 * 263) + IntKind.i64.wrap (byteAt a0 t4))).tmod 65521) (IntKind.i64.wrap (t4 + 1)) else none else some t3 := by
  rw [l31_3]
  simp only [evRAt, locS, cd31, Go.Proofs.Tryz.f31]
  rw [evR_eq]
  simp (maxSteps := 60000000) (disch := first | (intros; rename_i h; cases h; done) | decide +kernel) only [evS, seS, List.map_replicate, Nat.reduceDiv, Nat.reduceMod, Nat.reduceEqDiff, reduceCtorEq, ↓reduceIte, Nat.reduceLT, Nat.reduceAdd, Nat.reduceMul, Nat.reduceSub, Nat.reduceLeDiff, Nat.reduceBEq, Int.reduceEq, Int.reduceNeg, Int.reduceToNat, Int.reduceLE, Int.reduceLT, cd31, Go.Proofs.Tryz.f31, h31.r, m31, lv_pl, pl31, lv31_3, l31_3]
  all_goals try simp only [rnS, seS, Nat.reduceEqDiff, reduceCtorEq, ↓reduceIte, Nat.reduceAdd, Nat.reduceLeDiff, Nat.reduceBEq, Nat.reduceMul, lv31_3]
theorem n138_eq (a0 : (List ByteArray)) : n138 a0 = (getI a0 1).bind fun y0 => (getI a0 2).bind fun y1 => (getI a0 4).bind fun y2 => (n71 y2).bind fun y3 => (getI a0 3).bind fun y4 => if decide (y4 = ByteArray.mk #[45]) = false then (getI a0 3).bind fun y5 => (n72 y5).bind fun y6 => (getI a0 5).bind fun y7 => (n40 y7).bind fun y8 => some (CodeFun.mk y0 (decide (y1 = ByteArray.mk #[112, 117, 98])) y6 y3 y8.fst []) else (getI a0 5).bind fun y9 => (n40 y9).bind fun y10 => some (CodeFun.mk y0 (decide (y1 = ByteArray.mk #[112, 117, 98])) [] y3 y10.fst []) := by
  rw [n138, fnO_code h138 rfl Go.Proofs.Tryz.func138 (c := cd138) rfl (a0, ()) rfl]
  simp (maxSteps := 60000000) (disch := first | (intros; rename_i h; cases h; done) | decide +kernel) only [evS, seS, List.map_replicate, Nat.reduceDiv, Nat.reduceMod, Nat.reduceEqDiff, reduceCtorEq, ↓reduceIte, Nat.reduceLT, Nat.reduceAdd, Nat.reduceMul, Nat.reduceSub, Nat.reduceLeDiff, Nat.reduceBEq, Int.reduceEq, Int.reduceNeg, Int.reduceToNat, Int.reduceLE, Int.reduceLT, cd138, Go.Proofs.Tryz.f138, h138.r, m138, lv_pl, pl138, c40, c71, c72]
  all_goals try simp only [bindN_eq]
theorem n88_eq (a0 : ByteArray) (a1 : (List Int)) (a2 : Int) (a3 : Int) : n88 a0 a1 a2 a3 = (n62 a0).bind fun y0 => bindB (if y0 = true ∨ a0 = ByteArray.mk #[109, 97, 105, 110] then n128 a1 else some false) fun y1 => bindB (if y1 = true then n129 a2 else some false) fun y2 => if y2 = true then n57 a3 0 1000 else some false := by
  rw [n88, fnO_code h88 rfl Go.Proofs.Tryz.func88 (c := cd88) rfl (a0, a1, a2, a3, ()) rfl]
  simp (maxSteps := 60000000) (disch := first | (intros; rename_i h; cases h; done) | decide +kernel) only [evS, seS, List.map_replicate, Nat.reduceDiv, Nat.reduceMod, Nat.reduceEqDiff, reduceCtorEq, ↓reduceIte, Nat.reduceLT, Nat.reduceAdd, Nat.reduceMul, Nat.reduceSub, Nat.reduceLeDiff, Nat.reduceBEq, Int.reduceEq, Int.reduceNeg, Int.reduceToNat, Int.reduceLE, Int.reduceLT, cd88, Go.Proofs.Tryz.f88, h88.r, m88, lv_pl, pl88, c57, c62, c128, c129]
  all_goals try simp only [bindN_eq]
theorem n46_eq (a0 : ByteArray) : n46 a0 = (lAtoi a0).bind fun y0 => bindB (if y0.snd.b = false then (lItoa y0.fst).bind fun y1 => some (decide (y1 = a0)) else some false) fun y2 => some (y0.fst, y2) := by
  rw [n46, fnO_code h46 rfl Go.Proofs.Tryz.func46 (c := cd46) rfl (a0, ()) rfl]
  simp (maxSteps := 60000000) (disch := first | (intros; rename_i h; cases h; done) | decide +kernel) only [evS, seS, List.map_replicate, Nat.reduceDiv, Nat.reduceMod, Nat.reduceEqDiff, reduceCtorEq, ↓reduceIte, Nat.reduceLT, Nat.reduceAdd, Nat.reduceMul, Nat.reduceSub, Nat.reduceLeDiff, Nat.reduceBEq, Int.reduceEq, Int.reduceNeg, Int.reduceToNat, Int.reduceLE, Int.reduceLT, cd46, Go.Proofs.Tryz.f46, h46.r, m46, lv_pl, pl46, c68, c81]
  all_goals try simp only [bindN_eq]
theorem n111_eq (a0 : ByteArray) : n111 a0 = (n54 a0).bind fun y0 => some (decide (y0 = true) || decide (a0 = ByteArray.mk #[109, 97, 105, 110])) := by
  rw [n111, fnO_code h111 rfl Go.Proofs.Tryz.func111 (c := cd111) rfl (a0, ()) rfl]
  simp (maxSteps := 60000000) (disch := first | (intros; rename_i h; cases h; done) | decide +kernel) only [evS, seS, List.map_replicate, Nat.reduceDiv, Nat.reduceMod, Nat.reduceEqDiff, reduceCtorEq, ↓reduceIte, Nat.reduceLT, Nat.reduceAdd, Nat.reduceMul, Nat.reduceSub, Nat.reduceLeDiff, Nat.reduceBEq, Int.reduceEq, Int.reduceNeg, Int.reduceToNat, Int.reduceLE, Int.reduceLT, cd111, Go.Proofs.Tryz.f111, h111.r, m111, lv_pl, pl111, c54]
  all_goals try simp only [bindN_eq]
theorem n9_eq (a0 : ByteArray) : n9 a0 = (n7 a0).bind fun y0 => some (IntKind.i64.wrap ((↑a0.size : Int) - (↑y0.size : Int))) := by
  rw [n9, fnO_code h9 rfl Go.Proofs.Tryz.func9 (c := cd9) rfl (a0, ()) rfl]
  simp (maxSteps := 60000000) (disch := first | (intros; rename_i h; cases h; done) | decide +kernel) only [evS, seS, List.map_replicate, Nat.reduceDiv, Nat.reduceMod, Nat.reduceEqDiff, reduceCtorEq, ↓reduceIte, Nat.reduceLT, Nat.reduceAdd, Nat.reduceMul, Nat.reduceSub, Nat.reduceLeDiff, Nat.reduceBEq, Int.reduceEq, Int.reduceNeg, Int.reduceToNat, Int.reduceLE, Int.reduceLT, cd9, Go.Proofs.Tryz.f9, h9.r, m9, lv_pl, pl9, c7]
  all_goals try simp only [bindN_eq]
theorem n131_eq (a0 : Int) : n131 a0 = n57 a0 (-99999999999999999) 99999999999999999 := by
  rw [n131, fnO_code h131 rfl Go.Proofs.Tryz.func131 (c := cd131) rfl (a0, ()) rfl]
  simp (maxSteps := 60000000) (disch := first | (intros; rename_i h; cases h; done) | decide +kernel) only [evS, seS, List.map_replicate, Nat.reduceDiv, Nat.reduceMod, Nat.reduceEqDiff, reduceCtorEq, ↓reduceIte, Nat.reduceLT, Nat.reduceAdd, Nat.reduceMul, Nat.reduceSub, Nat.reduceLeDiff, Nat.reduceBEq, Int.reduceEq, Int.reduceNeg, Int.reduceToNat, Int.reduceLE, Int.reduceLT, cd131, Go.Proofs.Tryz.f131, h131.r, m131, lv_pl, pl131, c57]
end Go.Fs.Se
