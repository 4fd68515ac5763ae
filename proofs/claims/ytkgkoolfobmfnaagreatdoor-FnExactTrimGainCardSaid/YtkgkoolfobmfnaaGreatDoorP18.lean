/- A part of the proof: an evaluator of the program's code over plain data, proved sound; the equations of its functions; what they compute. No conditions beyond those in the theorems. -/
import Derived.Test.YtkgkoolfobmfnaaGreatDoorP10
set_option linter.unusedVariables false
set_option linter.unusedSimpArgs false
set_option linter.constructorNameAsVariable false
set_option linter.unusedSectionVars false
set_option linter.defProp false
set_option maxRecDepth 40000
set_option maxHeartbeats 4000000
open Go.RowKit
namespace Go.Fs.Se
open Cel (cel unc)
open Dat (enc dec)
open Arg (ea da)
noncomputable def l74_4 (a0 : CodeFun) (t3 : Int) : Option (Bool) := evRAt (envOf M .x) (lvT 74) cd74 [true, true, false, true, false] (endK (β := Bool) M 74 .x Go.Proofs.Tryz.f74.results.toList) (stL 65 [(1, AV.a 500000 0), (3, AV.d (D.i IntKind.i64 t3))] [(500000, some (Ob.box [AV.d (D.s a0.name), AV.d (D.b a0.pub), AV.d (D.l 1 (List.map cel a0.args)), AV.d (D.i IntKind.i64 a0.type), AV.d (D.i IntKind.i64 a0.slots), AV.d (D.l 2 (List.map cel a0.code))]))])
noncomputable def l74_9 (a0 : CodeFun) (t4 : Int) : Option (Bool) := evRAt (envOf M .x) (lvT 74) cd74 [true, true, true, false, true, false] (endK (β := Bool) M 74 .x Go.Proofs.Tryz.f74.results.toList) (stL 65 [(1, AV.a 500000 0), (4, AV.d (D.i IntKind.i64 t4))] [(500000, some (Ob.box [AV.d (D.s a0.name), AV.d (D.b a0.pub), AV.d (D.l 1 (List.map cel a0.args)), AV.d (D.i IntKind.i64 a0.type), AV.d (D.i IntKind.i64 a0.slots), AV.d (D.l 2 (List.map cel a0.code))]))])
theorem n74_eq (a0 : CodeFun) : n74 a0 = (n111 a0.name).bind fun y0 => bindB (if y0 = false ∨ 4 < (↑a0.args.length : Int) then some true else (n76 a0.type).bind fun y1 => some (decide (y1 = ByteArray.mk #[]))) fun y2 => if ((y2 = true ∨ a0.slots < 0) ∨ 1000 < a0.slots) ∨ 460 < (↑a0.code.length : Int) then some false else l74_4 a0 0 := by
  rw [n74, fnO_code h74 rfl Go.Proofs.Tryz.func74 (c := cd74) rfl (a0, ()) rfl]
  simp (maxSteps := 60000000) (disch := first | (intros; rename_i h; cases h; done) | decide +kernel) only [evS, seS, List.map_replicate, Nat.reduceDiv, Nat.reduceMod, Nat.reduceEqDiff, reduceCtorEq, ↓reduceIte, Nat.reduceLT, Nat.reduceAdd, Nat.reduceMul, Nat.reduceSub, Nat.reduceLeDiff, Nat.reduceBEq, Int.reduceEq, Int.reduceNeg, Int.reduceToNat, Int.reduceLE, Int.reduceLT, cd74, Go.Proofs.Tryz.f74, h74.r, m74, lv_pl, pl74, c76, c111, c112, lv74_9, lv74_4, l74_4, l74_9]
  all_goals try simp only [rnS, seS, Nat.reduceEqDiff, reduceCtorEq, ↓reduceIte, Nat.reduceAdd, Nat.reduceLeDiff, Nat.reduceBEq, Nat.reduceMul, lv74_9, lv74_4]
  all_goals try simp only [bindN_eq]
theorem l74_4_eq (a0 : CodeFun) (t3 : Int) : l74_4 a0 t3 = if t3 < (↑a0.args.length : Int) then (getI a0.args t3).bind fun y0 => (n76 y0).bind fun y1 => if y1 = ByteArray.mk #[] then some false else l74_4 a0 (IntKind.i64.wrap (t3 + 1)) else l74_9 a0 0 := by
  rw [l74_4]
  simp only [evRAt, locS, cd74, Go.Proofs.Tryz.f74]
  rw [evR_eq]
  simp (maxSteps := 60000000) (disch := first | (intros; rename_i h; cases h; done) | decide +kernel) only [evS, seS, List.map_replicate, Nat.reduceDiv, Nat.reduceMod, Nat.reduceEqDiff, reduceCtorEq, ↓reduceIte, Nat.reduceLT, Nat.reduceAdd, Nat.reduceMul, Nat.reduceSub, Nat.reduceLeDiff, Nat.reduceBEq, Int.reduceEq, Int.reduceNeg, Int.reduceToNat, Int.reduceLE, Int.reduceLT, cd74, Go.Proofs.Tryz.f74, h74.r, m74, lv_pl, pl74, c76, c111, c112, lv74_9, lv74_4, l74_4, l74_9]
  all_goals try simp only [rnS, seS, Nat.reduceEqDiff, reduceCtorEq, ↓reduceIte, Nat.reduceAdd, Nat.reduceLeDiff, Nat.reduceBEq, Nat.reduceMul, lv74_9, lv74_4]
  all_goals try simp only [bindN_eq]
theorem l74_9_eq (a0 : CodeFun) (t4 : Int) : l74_9 a0 t4 = if t4 < (↑a0.code.length : Int) then (getI a0.code t4).bind fun y0 => (n112 y0).bind fun y1 => if y1 = false then some false else l74_9 a0 (IntKind.i64.wrap (t4 + 1)) else some true := by
  rw [l74_9]
  simp only [evRAt, locS, cd74, Go.Proofs.Tryz.f74]
  rw [evR_eq]
  simp (maxSteps := 60000000) (disch := first | (intros; rename_i h; cases h; done) | decide +kernel) only [evS, seS, List.map_replicate, Nat.reduceDiv, Nat.reduceMod, Nat.reduceEqDiff, reduceCtorEq, ↓reduceIte, Nat.reduceLT, Nat.reduceAdd, Nat.reduceMul, Nat.reduceSub, Nat.reduceLeDiff, Nat.reduceBEq, Int.reduceEq, Int.reduceNeg, Int.reduceToNat, Int.reduceLE, Int.reduceLT, cd74, Go.Proofs.Tryz.f74, h74.r, m74, lv_pl, pl74, c76, c111, c112, lv74_9, lv74_4, l74_4, l74_9]
  all_goals try simp only [rnS, seS, Nat.reduceEqDiff, reduceCtorEq, ↓reduceIte, Nat.reduceAdd, Nat.reduceLeDiff, Nat.reduceBEq, Nat.reduceMul, lv74_9, lv74_4]
  all_goals try simp only [bindN_eq]
noncomputable def l13_5 (a0 : (List KeepRec)) (t4 : Int) (r0 : List KeepRec) : Option ((List KeepRec)) := evRAt (envOf M .x) (lvT 13) cd13 [true, true, true, false, true, false] (endK (β := (List KeepRec)) M 13 .x Go.Proofs.Tryz.f13.results.toList) (stL 50 [(0, AV.d (D.l 5 (List.map cel a0))), (3, AV.r 500000), (4, AV.d (D.i IntKind.i64 t4))] [(500000, some (Ob.row 5 (List.map cel r0) true false 0))])
noncomputable def l13_9 (a0 : (List KeepRec)) (t4 : Int) (t5 : Bool) (t6 : Int) (r0 : List KeepRec) : Option ((List KeepRec)) := evRAt (envOf M .x) (lvT 13) cd13 [true, true, true, false, true, false, false, true, false, false, true, false, true, false] (endK (β := (List KeepRec)) M 13 .x Go.Proofs.Tryz.f13.results.toList) (stL 50 [(0, AV.d (D.l 5 (List.map cel a0))), (3, AV.r 500000), (4, AV.d (D.i IntKind.i64 t4)), (5, AV.d (D.b t5)), (6, AV.d (D.i IntKind.i64 t6))] [(500000, some (Ob.row 5 (List.map cel r0) true false 0))])
theorem n13_eq (a0 : (List KeepRec)) : n13 a0 = if 10000 < (↑a0.length : Int) then some [] else l13_5 a0 0 [] := by
  rw [n13, fnO_code h13 rfl Go.Proofs.Tryz.func13 (c := cd13) rfl (a0, ()) rfl]
  simp (maxSteps := 60000000) (disch := first | (intros; rename_i h; cases h; done) | decide +kernel) only [evS, seS, List.map_replicate, Nat.reduceDiv, Nat.reduceMod, Nat.reduceEqDiff, reduceCtorEq, ↓reduceIte, Nat.reduceLT, Nat.reduceAdd, Nat.reduceMul, Nat.reduceSub, Nat.reduceLeDiff, Nat.reduceBEq, Int.reduceEq, Int.reduceNeg, Int.reduceToNat, Int.reduceLE, Int.reduceLT, cd13, Go.Proofs.Tryz.f13, h13.r, m13, lv_pl, pl13, c27, lv13_9, lv13_5, l13_5, l13_9]
  all_goals try simp only [rnS, seS, Nat.reduceEqDiff, reduceCtorEq, ↓reduceIte, Nat.reduceAdd, Nat.reduceLeDiff, Nat.reduceBEq, Nat.reduceMul, lv13_9, lv13_5]
theorem l13_5_eq (a0 : (List KeepRec)) (t4 : Int) (r0 : List KeepRec) : l13_5 a0 t4 r0 = if t4 < (↑a0.length : Int) then l13_9 a0 t4 true (IntKind.i64.wrap (t4 + 1)) r0 else some r0 := by
  rw [l13_5]
  simp only [evRAt, locS, cd13, Go.Proofs.Tryz.f13]
  rw [evR_eq]
  simp (maxSteps := 60000000) (disch := first | (intros; rename_i h; cases h; done) | decide +kernel) only [evS, seS, List.map_replicate, Nat.reduceDiv, Nat.reduceMod, Nat.reduceEqDiff, reduceCtorEq, ↓reduceIte, Nat.reduceLT, Nat.reduceAdd, Nat.reduceMul, Nat.reduceSub, Nat.reduceLeDiff, Nat.reduceBEq, Int.reduceEq, Int.reduceNeg, Int.reduceToNat, Int.reduceLE, Int.reduceLT, cd13, Go.Proofs.Tryz.f13, h13.r, m13, lv_pl, pl13, c27, lv13_9, lv13_5, l13_5, l13_9]
  all_goals try simp only [rnS, seS, Nat.reduceEqDiff, reduceCtorEq, ↓reduceIte, Nat.reduceAdd, Nat.reduceLeDiff, Nat.reduceBEq, Nat.reduceMul, lv13_9, lv13_5]
theorem l13_9_eq (a0 : (List KeepRec)) (t4 : Int) (t5 : Bool) (t6 : Int) (r0 : List KeepRec) : l13_9 a0 t4 t5 t6 r0 = if t6 < (↑a0.length : Int) then bindB (if t5 = true then (getI a0 t6).bind fun y0 => (getI a0 t4).bind fun y1 => some !decide (y0.name = y1.name) else some false) fun y2 => l13_9 a0 t4 y2 (IntKind.i64.wrap (t6 + 1)) r0 else if t5 = true then (getI a0 t4).bind fun y3 => (n27 y3).bind fun y4 => if (r0.length + 1) * 88 ≤ 140737488355328 ∧ r0.length ≤ 140737488355327 then l13_5 a0 (IntKind.i64.wrap (t4 + 1)) (r0 ++ [y4]) else none else l13_5 a0 (IntKind.i64.wrap (t4 + 1)) r0 := by
  rw [l13_9]
  simp only [evRAt, locS, cd13, Go.Proofs.Tryz.f13]
  rw [evR_eq]
  simp (maxSteps := 60000000) (disch := first | (intros; rename_i h; cases h; done) | decide +kernel) only [evS, seS, List.map_replicate, Nat.reduceDiv, Nat.reduceMod, Nat.reduceEqDiff, reduceCtorEq, ↓reduceIte, Nat.reduceLT, Nat.reduceAdd, Nat.reduceMul, Nat.reduceSub, Nat.reduceLeDiff, Nat.reduceBEq, Int.reduceEq, Int.reduceNeg, Int.reduceToNat, Int.reduceLE, Int.reduceLT, cd13, Go.Proofs.Tryz.f13, h13.r, m13, lv_pl, pl13, c27, lv13_9, lv13_5, l13_5, l13_9]
  all_goals try simp only [rnS, seS, Nat.reduceEqDiff, reduceCtorEq, ↓reduceIte, Nat.reduceAdd, Nat.reduceLeDiff, Nat.reduceBEq, Nat.reduceMul, lv13_9, lv13_5]
  all_goals try simp only [bindN_eq]
noncomputable def l143_3 (a0 : CodeObj) (t3 : Int) (t9 : Int) : Option (Bool) := evRAt (envOf M .x) (lvT 143) cd143 [true, true, false, true, false] (endK (β := Bool) M 143 .x Go.Proofs.Tryz.f143.results.toList) (stL 54 [(1, AV.a 500000 0), (3, AV.d (D.i IntKind.i64 t3)), (7, AV.d (D.l 6 (List.map cel a0.funs))), (8, AV.d (D.i IntKind.i64 (↑a0.funs.length : Int))), (9, AV.d (D.i IntKind.i64 t9))] [(500000, some (Ob.box [AV.d (D.l 2 (List.map cel a0.refs)), AV.d (D.l 6 (List.map cel a0.funs))]))])
theorem n143_eq (a0 : CodeObj) : n143 a0 = l143_3 a0 0 0 := by
  rw [n143, fnO_code h143 rfl Go.Proofs.Tryz.func143 (c := cd143) rfl (a0, ()) rfl]
  simp (maxSteps := 60000000) (disch := first | (intros; rename_i h; cases h; done) | decide +kernel) only [evS, seS, List.map_replicate, Nat.reduceDiv, Nat.reduceMod, Nat.reduceEqDiff, reduceCtorEq, ↓reduceIte, Nat.reduceLT, Nat.reduceAdd, Nat.reduceMul, Nat.reduceSub, Nat.reduceLeDiff, Nat.reduceBEq, Int.reduceEq, Int.reduceNeg, Int.reduceToNat, Int.reduceLE, Int.reduceLT, cd143, Go.Proofs.Tryz.f143, h143.r, m143, lv_pl, pl143, c88, c89, c174, c175, c176, lv143_3, l143_3]
  all_goals try simp only [rnS, seS, Nat.reduceEqDiff, reduceCtorEq, ↓reduceIte, Nat.reduceAdd, Nat.reduceLeDiff, Nat.reduceBEq, Nat.reduceMul, lv143_3]
theorem l143_3_eq (a0 : CodeObj) (t3 : Int) (t9 : Int) : l143_3 a0 t3 t9 = if t9 < (↑a0.funs.length : Int) then (getI a0.funs t9).bind fun y0 => (n88 y0.name y0.args y0.type y0.slots).bind fun y1 => bindB (if y1 = false then some true else n89 y0.code (Fv.mk (D.f 174 []))) fun y2 => if y2 = true then some false else l143_3 a0 (IntKind.i64.wrap (t3 + (↑y0.code.length : Int))) (IntKind.i64.wrap (t9 + 1)) else if ((↑a0.refs.length : Int) ≤ 40 ∧ (↑a0.funs.length : Int) ≤ 9) ∧ t3 ≤ 460 then (n175 a0.refs (Fv.mk (D.f 176 []))).bind fun y3 => some !y3 else some false := by
  rw [l143_3]
  simp only [evRAt, locS, cd143, Go.Proofs.Tryz.f143]
  rw [evR_eq]
  simp (maxSteps := 60000000) (disch := first | (intros; rename_i h; cases h; done) | decide +kernel) only [evS, seS, List.map_replicate, Nat.reduceDiv, Nat.reduceMod, Nat.reduceEqDiff, reduceCtorEq, ↓reduceIte, Nat.reduceLT, Nat.reduceAdd, Nat.reduceMul, Nat.reduceSub, Nat.reduceLeDiff, Nat.reduceBEq, Int.reduceEq, Int.reduceNeg, Int.reduceToNat, Int.reduceLE, Int.reduceLT, cd143, Go.Proofs.Tryz.f143, h143.r, m143, lv_pl, pl143, c88, c89, c174, c175, c176, lv143_3, l143_3]
  all_goals try simp only [rnS, seS, Nat.reduceEqDiff, reduceCtorEq, ↓reduceIte, Nat.reduceAdd, Nat.reduceLeDiff, Nat.reduceBEq, Nat.reduceMul, lv143_3]
  all_goals try simp only [bindN_eq]
noncomputable def l87_3 (a0 : (List CodeIns)) (t8 : Int) (sr0 : ByteArray) : Option (ByteArray) := evRAt (envOf M .x) (lvT 87) cd87 [true, true, false, true, false] (endK (β := ByteArray) M 87 .x Go.Proofs.Tryz.f87.results.toList) (stL 26 [(3, AV.bp 500000), (6, AV.d (D.l 2 (List.map cel a0))), (7, AV.d (D.i IntKind.i64 (↑a0.length : Int))), (8, AV.d (D.i IntKind.i64 t8))] [(500000, some (Ob.bld sr0))])
theorem n87_eq (a0 : (List CodeIns)) : n87 a0 = l87_3 a0 0 ByteArray.empty := by
  rw [n87, fnO_code h87 rfl Go.Proofs.Tryz.func87 (c := cd87) rfl (a0, ()) rfl]
  simp (maxSteps := 60000000) (disch := first | (intros; rename_i h; cases h; done) | decide +kernel) only [evS, seS, List.map_replicate, Nat.reduceDiv, Nat.reduceMod, Nat.reduceEqDiff, reduceCtorEq, ↓reduceIte, Nat.reduceLT, Nat.reduceAdd, Nat.reduceMul, Nat.reduceSub, Nat.reduceLeDiff, Nat.reduceBEq, Int.reduceEq, Int.reduceNeg, Int.reduceToNat, Int.reduceLE, Int.reduceLT, cd87, Go.Proofs.Tryz.f87, h87.r, m87, lv_pl, pl87, c17, c19, c68, lv87_3, l87_3]
  all_goals try simp only [rnS, seS, Nat.reduceEqDiff, reduceCtorEq, ↓reduceIte, Nat.reduceAdd, Nat.reduceLeDiff, Nat.reduceBEq, Nat.reduceMul, lv87_3]
theorem l87_3_eq (a0 : (List CodeIns)) (t8 : Int) (sr0 : ByteArray) : l87_3 a0 t8 sr0 = if t8 < (↑a0.length : Int) then (getI a0 t8).bind fun y0 => (getI opW (IntKind.i64.wrap (y0.op - 1))).bind fun y1 => (cat y1 (ByteArray.mk #[32])).bind fun y2 => (lItoa y0.a).bind fun y3 => (cat y2 y3).bind fun y4 => (cat y4 (ByteArray.mk #[10])).bind fun y5 => if sr0.size + y5.size ≤ 140737488355328 then l87_3 a0 (IntKind.i64.wrap (t8 + 1)) (sr0 ++ y5) else none else some sr0 := by
  rw [l87_3]
  simp only [evRAt, locS, cd87, Go.Proofs.Tryz.f87]
  rw [evR_eq]
  simp (maxSteps := 60000000) (disch := first | (intros; rename_i h; cases h; done) | decide +kernel) only [evS, seS, List.map_replicate, Nat.reduceDiv, Nat.reduceMod, Nat.reduceEqDiff, reduceCtorEq, ↓reduceIte, Nat.reduceLT, Nat.reduceAdd, Nat.reduceMul, Nat.reduceSub, Nat.reduceLeDiff, Nat.reduceBEq, Int.reduceEq, Int.reduceNeg, Int.reduceToNat, Int.reduceLE, Int.reduceLT, cd87, Go.Proofs.Tryz.f87, h87.r, m87, lv_pl, pl87, c17, c19, c68, lv87_3, l87_3]
  all_goals try simp only [rnS, seS, Nat.reduceEqDiff, reduceCtorEq, ↓reduceIte, Nat.reduceAdd, Nat.reduceLeDiff, Nat.reduceBEq, Nat.reduceMul, lv87_3]
  all_goals try simp only [bindN_eq]
noncomputable def l62_2 (a0 : ByteArray) (t6 : Int) : Option (Bool) := evRAt (envOf M .x) (lvT 62) cd62 [true, false, true, false] (endK (β := Bool) M 62 .x Go.Proofs.Tryz.f62.results.toList) (stL 28 [(0, AV.d (D.s a0)), (5, AV.d (D.i IntKind.i64 (↑a0.size : Int))), (6, AV.d (D.i IntKind.i64 t6))] [])
theorem n62_eq (a0 : ByteArray) : n62 a0 = l62_2 a0 0 := by
  rw [n62, fnO_code h62 rfl Go.Proofs.Tryz.func62 (c := cd62) rfl (a0, ()) rfl]
  simp (maxSteps := 60000000) (disch := first | (intros; rename_i h; cases h; done) | decide +kernel) only [evS, seS, List.map_replicate, Nat.reduceDiv, Nat.reduceMod, Nat.reduceEqDiff, reduceCtorEq, ↓reduceIte, Nat.reduceLT, Nat.reduceAdd, Nat.reduceMul, Nat.reduceSub, Nat.reduceLeDiff, Nat.reduceBEq, Int.reduceEq, Int.reduceNeg, Int.reduceToNat, Int.reduceLE, Int.reduceLT, cd62, Go.Proofs.Tryz.f62, h62.r, m62, lv_pl, pl62, c57, c106, lv62_2, l62_2]
  all_goals try simp only [rnS, seS, Nat.reduceEqDiff, reduceCtorEq, ↓reduceIte, Nat.reduceAdd, Nat.reduceLeDiff, Nat.reduceBEq, Nat.reduceMul, lv62_2]
theorem l62_2_eq (a0 : ByteArray) (t6 : Int) : l62_2 a0 t6 = if t6 < (↑a0.size : Int) then if 0 ≤ t6 ∧ t6 < (↑a0.size : Int) then bindB (if byteAt a0 t6 < 97 then some true else if 0 ≤ t6 ∧ t6 < (↑a0.size : Int) then some (decide (122 < byteAt a0 t6)) else none) fun y0 => if y0 = true then some false else l62_2 a0 (IntKind.i64.wrap (t6 + 1)) else none else (n57 (↑a0.size : Int) 1 8).bind fun y1 => if y1 = true then (n106 a0).bind fun y2 => some !y2 else some false := by
  rw [l62_2]
  simp only [evRAt, locS, cd62, Go.Proofs.Tryz.f62]
  rw [evR_eq]
  simp (maxSteps := 60000000) (disch := first | (intros; rename_i h; cases h; done) | decide +kernel) only [evS, seS, List.map_replicate, Nat.reduceDiv, Nat.reduceMod, Nat.reduceEqDiff, reduceCtorEq, ↓reduceIte, Nat.reduceLT, Nat.reduceAdd, Nat.reduceMul, Nat.reduceSub, Nat.reduceLeDiff, Nat.reduceBEq, Int.reduceEq, Int.reduceNeg, Int.reduceToNat, Int.reduceLE, Int.reduceLT, cd62, Go.Proofs.Tryz.f62, h62.r, m62, lv_pl, pl62, c57, c106, lv62_2, l62_2]
  all_goals try simp only [rnS, seS, Nat.reduceEqDiff, reduceCtorEq, ↓reduceIte, Nat.reduceAdd, Nat.reduceLeDiff, Nat.reduceBEq, Nat.reduceMul, lv62_2]
  all_goals try simp only [bindN_eq]
noncomputable def l85_2 (a0 : (List ByteArray)) (a1 : ByteArray) (t8 : Int) : Option (Int) := evRAt (envOf M .x) (lvT 85) cd85 [true, false, true, false] (endK (β := Int) M 85 .x Go.Proofs.Tryz.f85.results.toList) (stL 19 [(0, AV.d (D.l 1 (List.map cel a0))), (1, AV.d (D.s a1)), (7, AV.d (D.i IntKind.i64 (↑a0.length : Int))), (8, AV.d (D.i IntKind.i64 t8))] [])
theorem n85_eq (a0 : (List ByteArray)) (a1 : ByteArray) : n85 a0 a1 = l85_2 a0 a1 0 := by
  rw [n85, fnO_code h85 rfl Go.Proofs.Tryz.func85 (c := cd85) rfl (a0, a1, ()) rfl]
  simp (maxSteps := 60000000) (disch := first | (intros; rename_i h; cases h; done) | decide +kernel) only [evS, seS, List.map_replicate, Nat.reduceDiv, Nat.reduceMod, Nat.reduceEqDiff, reduceCtorEq, ↓reduceIte, Nat.reduceLT, Nat.reduceAdd, Nat.reduceMul, Nat.reduceSub, Nat.reduceLeDiff, Nat.reduceBEq, Int.reduceEq, Int.reduceNeg, Int.reduceToNat, Int.reduceLE, Int.reduceLT, cd85, Go.Proofs.Tryz.f85, h85.r, m85, lv_pl, pl85, lv85_2, l85_2]
  all_goals try simp only [rnS, seS, Nat.reduceEqDiff, reduceCtorEq, ↓reduceIte, Nat.reduceAdd, Nat.reduceLeDiff, Nat.reduceBEq, Nat.reduceMul, lv85_2]
theorem l85_2_eq (a0 : (List ByteArray)) (a1 : ByteArray) (t8 : Int) : l85_2 a0 a1 t8 = if t8 < (↑a0.length : Int) then (getI a0 t8).bind fun y0 => if a1 = y0 then some t8 else l85_2 a0 a1 (IntKind.i64.wrap (t8 + 1)) else some (-1) := by
  rw [l85_2]
  simp only [evRAt, locS, cd85, Go.Proofs.Tryz.f85]
  rw [evR_eq]
  simp (maxSteps := 60000000) (disch := first | (intros; rename_i h; cases h; done) | decide +kernel) only [evS, seS, List.map_replicate, Nat.reduceDiv, Nat.reduceMod, Nat.reduceEqDiff, reduceCtorEq, ↓reduceIte, Nat.reduceLT, Nat.reduceAdd, Nat.reduceMul, Nat.reduceSub, Nat.reduceLeDiff, Nat.reduceBEq, Int.reduceEq, Int.reduceNeg, Int.reduceToNat, Int.reduceLE, Int.reduceLT, cd85, Go.Proofs.Tryz.f85, h85.r, m85, lv_pl, pl85, lv85_2, l85_2]
  all_goals try simp only [rnS, seS, Nat.reduceEqDiff, reduceCtorEq, ↓reduceIte, Nat.reduceAdd, Nat.reduceLeDiff, Nat.reduceBEq, Nat.reduceMul, lv85_2]
  all_goals try simp only [bindN_eq]
theorem n58_eq (a0 : (Pt Unpacker)) : n58 a0 = (lCut a0.v.rest (ByteArray.mk #[58])).bind fun y0 => (n46 y0.a).bind fun y1 => bindB (if (a0.v.fail = true ∨ y0.c = false) ∨ y1.snd = false then some true else (n57 y1.fst 0 (↑y0.b.size : Int)).bind fun y2 => some !y2) fun y3 => if y3 = true then some (ByteArray.mk #[], Pt.mk (Unpacker.mk a0.v.rest y3)) else if 0 ≤ y1.fst then if y1.fst.toNat ≤ y0.b.size then if 0 ≤ y1.fst then if 0 ≤ y1.fst.toNat ∧ y1.fst.toNat ≤ y0.b.size then some (y0.b.extract 0 y1.fst.toNat, Pt.mk (Unpacker.mk (y0.b.extract y1.fst.toNat y0.b.size) y3)) else none else none else none else none := by
  rw [n58, fnI_code h58 Go.Proofs.Tryz.func58 (c := cd58) rfl (a0, ()) rfl]
  simp (maxSteps := 60000000) (disch := first | (intros; rename_i h; cases h; done) | decide +kernel) only [evS, seS, List.map_replicate, Nat.reduceDiv, Nat.reduceMod, Nat.reduceEqDiff, reduceCtorEq, ↓reduceIte, Nat.reduceLT, Nat.reduceAdd, Nat.reduceMul, Nat.reduceSub, Nat.reduceLeDiff, Nat.reduceBEq, Int.reduceEq, Int.reduceNeg, Int.reduceToNat, Int.reduceLE, Int.reduceLT, cd58, Go.Proofs.Tryz.f58, h58.r, m58, lv_pl, pl58, c46, c47, c57]
  all_goals try simp only [bindN_eq]
theorem n35_eq (a0 : KeepRec) : n35 a0 = (n62 a0.name).bind fun y0 => bindB (if (y0 = false ∨ 4000 < (↑a0.src.size : Int)) ∨ 4 < (↑a0.faces.length : Int) then some true else (n63 a0.face).bind fun y1 => some !y1) fun y2 => bindB (if y2 = true then some true else n64 a0.faces (Fv.mk (D.f 65 []))) fun y3 => if y3 = true then some false else (n66 a0.obj).bind fun y4 => some y4.snd := by
  rw [n35, fnO_code h35 rfl Go.Proofs.Tryz.func35 (c := cd35) rfl (a0, ()) rfl]
  simp (maxSteps := 60000000) (disch := first | (intros; rename_i h; cases h; done) | decide +kernel) only [evS, seS, List.map_replicate, Nat.reduceDiv, Nat.reduceMod, Nat.reduceEqDiff, reduceCtorEq, ↓reduceIte, Nat.reduceLT, Nat.reduceAdd, Nat.reduceMul, Nat.reduceSub, Nat.reduceLeDiff, Nat.reduceBEq, Int.reduceEq, Int.reduceNeg, Int.reduceToNat, Int.reduceLE, Int.reduceLT, cd35, Go.Proofs.Tryz.f35, h35.r, m35, lv_pl, pl35, c62, c63, c64, c65, c66]
  all_goals try simp only [bindN_eq]
theorem n175_176_eq (a0 : (List CodeRef)) : n175 a0 (Fv.mk (D.f 176 [])) = (n194 a0 (Fv.mk (D.f 176 []))).bind fun y0 => some (decide (0 ≤ y0)) := by
  rw [n175, fnO_code h175 rfl Go.Proofs.Tryz.func175 (c := cd175) rfl (a0, (Fv.mk (D.f 176 [])), ()) rfl]
  simp (maxSteps := 60000000) (disch := first | (intros; rename_i h; cases h; done) | decide +kernel) only [evS, seS, List.map_replicate, Nat.reduceDiv, Nat.reduceMod, Nat.reduceEqDiff, reduceCtorEq, ↓reduceIte, Nat.reduceLT, Nat.reduceAdd, Nat.reduceMul, Nat.reduceSub, Nat.reduceLeDiff, Nat.reduceBEq, Int.reduceEq, Int.reduceNeg, Int.reduceToNat, Int.reduceLE, Int.reduceLT, cd175, Go.Proofs.Tryz.f175, h175.r, m175, lv_pl, pl175, c194, c176]
  all_goals try simp only [bindN_eq]
theorem n53_eq (a0 : (Pt L14In)) : n53 a0 = (n24 (Pt.mk a0.v) (U8.mk 58)).bind fun y0 => (n26 (Pt.mk y0.snd.v) y0.fst).bind fun y1 => some (y1.fst, Pt.mk y1.snd.v) := by
  rw [n53, fnI_code h53 Go.Proofs.Tryz.func53 (c := cd53) rfl (a0, ()) rfl]
  simp (maxSteps := 60000000) (disch := first | (intros; rename_i h; cases h; done) | decide +kernel) only [evS, seS, List.map_replicate, Nat.reduceDiv, Nat.reduceMod, Nat.reduceEqDiff, reduceCtorEq, ↓reduceIte, Nat.reduceLT, Nat.reduceAdd, Nat.reduceMul, Nat.reduceSub, Nat.reduceLeDiff, Nat.reduceBEq, Int.reduceEq, Int.reduceNeg, Int.reduceToNat, Int.reduceLE, Int.reduceLT, cd53, Go.Proofs.Tryz.f53, h53.r, m53, lv_pl, pl53, c24, c26]
  all_goals try simp only [bindN_eq]
theorem n84_eq (a0 : ByteArray) : n84 a0 = (n85 tyW a0).bind fun y0 => if y0 < 0 then some 0 else some (IntKind.i64.wrap (y0 + 1)) := by
  rw [n84, fnO_code h84 rfl Go.Proofs.Tryz.func84 (c := cd84) rfl (a0, ()) rfl]
  simp (maxSteps := 60000000) (disch := first | (intros; rename_i h; cases h; done) | decide +kernel) only [evS, seS, List.map_replicate, Nat.reduceDiv, Nat.reduceMod, Nat.reduceEqDiff, reduceCtorEq, ↓reduceIte, Nat.reduceLT, Nat.reduceAdd, Nat.reduceMul, Nat.reduceSub, Nat.reduceLeDiff, Nat.reduceBEq, Int.reduceEq, Int.reduceNeg, Int.reduceToNat, Int.reduceLE, Int.reduceLT, cd84, Go.Proofs.Tryz.f84, h84.r, m84, lv_pl, pl84, c85]
  all_goals try simp only [bindN_eq]
theorem n63_eq (a0 : ByteArray) : n63 a0 = (n107 a0).bind fun y0 => some y0.snd := by
  rw [n63, fnO_code h63 rfl Go.Proofs.Tryz.func63 (c := cd63) rfl (a0, ()) rfl]
  simp (maxSteps := 60000000) (disch := first | (intros; rename_i h; cases h; done) | decide +kernel) only [evS, seS, List.map_replicate, Nat.reduceDiv, Nat.reduceMod, Nat.reduceEqDiff, reduceCtorEq, ↓reduceIte, Nat.reduceLT, Nat.reduceAdd, Nat.reduceMul, Nat.reduceSub, Nat.reduceLeDiff, Nat.reduceBEq, Int.reduceEq, Int.reduceNeg, Int.reduceToNat, Int.reduceLE, Int.reduceLT, cd63, Go.Proofs.Tryz.f63, h63.r, m63, lv_pl, pl63, c107]
  all_goals try simp only [bindN_eq]
end Go.Fs.Se
