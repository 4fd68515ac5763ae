/- A part of the proof: an evaluator of the program's code over plain data, proved sound; the equations of its functions; what they compute. No conditions beyond those in the theorems. -/
import Derived.Test.YtkgkoolfobmfnaaGreatDoorP10
set_option linter.unusedVariables false
set_option linter.unusedSimpArgs false
set_option linter.constructorNameAsVariable false
set_option linter.unusedSectionVars false
set_option linter.defProp false
set_option maxRecDepth 40000
set_option maxHeartbeats 4000000
open Go.RowKit
namespace Go.Fs.Se
open Cel (cel unc)
open Dat (enc dec)
open Arg (ea da)
noncomputable def l32_10 (a0 : ByteArray) (t62 : Int) (t63 : Int) (b1c0 : ByteArray) (b1c1 : Bool) (b2c0 : ByteArray) (b2c1 : ByteArray) (r4 : List ByteArray) : Option (KeepRec × Int) := evRAt (envOf M .x) (lvT 32) cd32 [true, true, true, true, true, true, true, true, false, true, false] (endK (β := KeepRec × Int) M 32 .x Go.Proofs.Tryz.f32.results.toList) (stL 98 [(0, AV.d (D.s a0)), (2, AV.a 500000 0), (12, AV.a 500001 0), (13, AV.a 500002 0), (62, AV.d (D.i IntKind.i64 t62)), (63, AV.d (D.i IntKind.i64 t63))] [(500000, some (Ob.box [AV.d (D.s ByteArray.empty), AV.d (D.s ByteArray.empty), AV.r 500003, AV.d (D.s ByteArray.empty), AV.d (D.s ByteArray.empty)])), (500001, some (Ob.box [AV.d (D.s b1c0), AV.d (D.b b1c1)])), (500002, some (Ob.box [AV.d (D.s b2c0), AV.d (D.s b2c1), AV.r 500004, AV.d (D.s ByteArray.empty), AV.d (D.s ByteArray.empty)])), (500003, some (Ob.row 1 [] true false 0)), (500004, some (Ob.row 1 (List.map cel r4) true false 0))])
theorem n32_eq (a0 : ByteArray) : n32 a0 = (lCut a0 (ByteArray.mk #[10])).bind fun y0 => (lCut y0.a (ByteArray.mk #[32])).bind fun y1 => (n46 y1.a).bind fun y2 => bindB (if y2.snd = false then some true else (n57 y2.fst 0 (IntKind.i64.wrap ((↑y0.b.size : Int) - 1))).bind fun y3 => some !y3) fun y4 => if y4 = true then some (KeepRec.mk ByteArray.empty ByteArray.empty [] ByteArray.empty ByteArray.empty, 0) else if 0 ≤ y2.fst then if 0 ≤ y2.fst.toNat ∧ y2.fst.toNat ≤ y0.b.size then (n58 (Pt.mk (Unpacker.mk (y0.b.extract 0 y2.fst.toNat) false))).bind fun y5 => (n58 (Pt.mk y5.snd.v)).bind fun y6 => (n58 (Pt.mk y6.snd.v)).bind fun y7 => (n46 y7.fst).bind fun y8 => l32_10 a0 (min y8.fst 5) 0 y7.snd.v.rest y7.snd.v.fail y5.fst y6.fst [] else none else none := by
  rw [n32, fnO_code h32 rfl Go.Proofs.Tryz.func32 (c := cd32) rfl (a0, ()) rfl]
  simp (maxSteps := 60000000) (disch := first | (intros; rename_i h; cases h; done) | decide +kernel) only [evS, seS, List.map_replicate, Nat.reduceDiv, Nat.reduceMod, Nat.reduceEqDiff, reduceCtorEq, ↓reduceIte, Nat.reduceLT, Nat.reduceAdd, Nat.reduceMul, Nat.reduceSub, Nat.reduceLeDiff, Nat.reduceBEq, Int.reduceEq, Int.reduceNeg, Int.reduceToNat, Int.reduceLE, Int.reduceLT, cd32, Go.Proofs.Tryz.f32, h32.r, m32, lv_pl, pl32, c18, c46, c47, c57, c58, c59, lv32_10, l32_10]
  all_goals try simp only [rnS, seS, Nat.reduceEqDiff, reduceCtorEq, ↓reduceIte, Nat.reduceAdd, Nat.reduceLeDiff, Nat.reduceBEq, Nat.reduceMul, lv32_10]
  all_goals try simp only [bindN_eq]
theorem l32_10_eq (a0 : ByteArray) (t62 : Int) (t63 : Int) (b1c0 : ByteArray) (b1c1 : Bool) (b2c0 : ByteArray) (b2c1 : ByteArray) (r4 : List ByteArray) : l32_10 a0 t62 t63 b1c0 b1c1 b2c0 b2c1 r4 = if t63 < t62 then (n58 (Pt.mk (Unpacker.mk b1c0 b1c1))).bind fun y0 => if (r4.length + 1) * 16 ≤ 140737488355328 ∧ r4.length ≤ 140737488355327 then l32_10 a0 t62 (IntKind.i64.wrap (t63 + 1)) y0.snd.v.rest y0.snd.v.fail b2c0 b2c1 (r4 ++ [y0.fst]) else none else (n58 (Pt.mk (Unpacker.mk b1c0 b1c1))).bind fun y1 => (n58 (Pt.mk y1.snd.v)).bind fun y2 => if y2.snd.v.fail = true then some (KeepRec.mk ByteArray.empty ByteArray.empty [] ByteArray.empty ByteArray.empty, 0) else (n18 (KeepRec.mk b2c0 b2c1 r4 y1.fst y2.fst)).bind fun y3 => bindB (if y3 = ByteArray.mk #[] then some true else (n59 a0 y3).bind fun y4 => some !y4) fun y5 => if y5 = true then some (KeepRec.mk ByteArray.empty ByteArray.empty [] ByteArray.empty ByteArray.empty, 0) else some (KeepRec.mk b2c0 b2c1 r4 y1.fst y2.fst, (↑y3.size : Int)) := by
  rw [l32_10]
  simp only [evRAt, locS, cd32, Go.Proofs.Tryz.f32]
  rw [evR_eq]
  simp (maxSteps := 60000000) (disch := first | (intros; rename_i h; cases h; done) | decide +kernel) only [evS, seS, List.map_replicate, Nat.reduceDiv, Nat.reduceMod, Nat.reduceEqDiff, reduceCtorEq, ↓reduceIte, Nat.reduceLT, Nat.reduceAdd, Nat.reduceMul, Nat.reduceSub, Nat.reduceLeDiff, Nat.reduceBEq, Int.reduceEq, Int.reduceNeg, Int.reduceToNat, Int.reduceLE, Int.reduceLT, cd32, Go.Proofs.Tryz.f32, h32.r, m32, lv_pl, pl32, c18, c46, c47, c57, c58, c59, lv32_10, l32_10]
  all_goals try simp only [rnS, seS, Nat.reduceEqDiff, reduceCtorEq, ↓reduceIte, Nat.reduceAdd, Nat.reduceLeDiff, Nat.reduceBEq, Nat.reduceMul, lv32_10]
  all_goals try simp only [bindN_eq]
noncomputable def l12_6 (a0 : ByteArray) (t6 : Int) (r0 : List KeepRec) (b1c0 : ByteArray) (b1c1 : Int) (b1c2 : Bool) : Option ((List KeepRec) × Int) := evRAt (envOf M .x) (lvT 12) cd12 [true, true, true, true, true, false, false] (endK (β := (List KeepRec) × Int) M 12 .x Go.Proofs.Tryz.f12.results.toList) (stL 76 [(0, AV.d (D.s a0)), (4, AV.r 500000), (5, AV.a 500001 0), (6, AV.d (D.i IntKind.i64 t6))] [(500000, some (Ob.row 5 (List.map cel r0) true false 0)), (500001, some (Ob.box [AV.d (D.s b1c0), AV.d (D.i IntKind.i64 b1c1), AV.d (D.b b1c2)]))])
theorem n12_eq (a0 : ByteArray) : n12 a0 = if 400000 < (↑a0.size : Int) then some ([], 0) else l12_6 a0 0 [] a0 0 false := by
  rw [n12, fnO_code h12 rfl Go.Proofs.Tryz.func12 (c := cd12) rfl (a0, ()) rfl]
  simp (maxSteps := 60000000) (disch := first | (intros; rename_i h; cases h; done) | decide +kernel) only [evS, seS, List.map_replicate, Nat.reduceDiv, Nat.reduceMod, Nat.reduceEqDiff, reduceCtorEq, ↓reduceIte, Nat.reduceLT, Nat.reduceAdd, Nat.reduceMul, Nat.reduceSub, Nat.reduceLeDiff, Nat.reduceBEq, Int.reduceEq, Int.reduceNeg, Int.reduceToNat, Int.reduceLE, Int.reduceLT, cd12, Go.Proofs.Tryz.f12, h12.r, m12, lv_pl, pl12, c14, c24, c25, c26, lv12_6, l12_6]
  all_goals try simp only [rnS, seS, Nat.reduceEqDiff, reduceCtorEq, ↓reduceIte, Nat.reduceAdd, Nat.reduceLeDiff, Nat.reduceBEq, Nat.reduceMul, lv12_6]
theorem l12_6_eq (a0 : ByteArray) (t6 : Int) (r0 : List KeepRec) (b1c0 : ByteArray) (b1c1 : Int) (b1c2 : Bool) : l12_6 a0 t6 r0 b1c0 b1c1 b1c2 = if t6 < (↑a0.size : Int) then (n24 (Pt.mk (L14In.mk b1c0 b1c1 b1c2)) (U8.mk 32)).bind fun y0 => (n24 (Pt.mk y0.snd.v) (U8.mk 10)).bind fun y1 => (n26 (Pt.mk y1.snd.v) y0.fst).bind fun y2 => (n25 y2.fst).bind fun y3 => if y2.snd.v.bad = true then some (r0, t6) else (n14 y3).bind fun y4 => bindB (if y4 = ByteArray.mk #[] ∨ IntKind.i64.wrap ((↑a0.size : Int) - t6) < (↑y4.size : Int) then some true else if 0 ≤ IntKind.i64.wrap (t6 + (↑y4.size : Int)) then if 0 ≤ t6 then if t6.toNat ≤ (IntKind.i64.wrap (t6 + (↑y4.size : Int))).toNat ∧ (IntKind.i64.wrap (t6 + (↑y4.size : Int))).toNat ≤ a0.size then some !decide (a0.extract t6.toNat (IntKind.i64.wrap (t6 + (↑y4.size : Int))).toNat = y4) else none else none else none) fun y5 => if y5 = true then some (r0, t6) else if (r0.length + 1) * 88 ≤ 140737488355328 ∧ r0.length ≤ 140737488355327 then l12_6 a0 (IntKind.i64.wrap (t6 + (↑y4.size : Int))) (r0 ++ [y3]) y2.snd.v.s (IntKind.i64.wrap (t6 + (↑y4.size : Int))) y2.snd.v.bad else none else some (r0, t6) := by
  rw [l12_6]
  simp only [evRAt, locS, cd12, Go.Proofs.Tryz.f12]
  rw [evR_eq]
  simp (maxSteps := 60000000) (disch := first | (intros; rename_i h; cases h; done) | decide +kernel) only [evS, seS, List.map_replicate, Nat.reduceDiv, Nat.reduceMod, Nat.reduceEqDiff, reduceCtorEq, ↓reduceIte, Nat.reduceLT, Nat.reduceAdd, Nat.reduceMul, Nat.reduceSub, Nat.reduceLeDiff, Nat.reduceBEq, Int.reduceEq, Int.reduceNeg, Int.reduceToNat, Int.reduceLE, Int.reduceLT, cd12, Go.Proofs.Tryz.f12, h12.r, m12, lv_pl, pl12, c14, c24, c25, c26, lv12_6, l12_6]
  all_goals try simp only [rnS, seS, Nat.reduceEqDiff, reduceCtorEq, ↓reduceIte, Nat.reduceAdd, Nat.reduceLeDiff, Nat.reduceBEq, Nat.reduceMul, lv12_6]
  all_goals try simp only [bindN_eq]
noncomputable def l142_5 (a0 : (List FaceSig)) (t11 : Int) (sr0 : ByteArray) : Option (ByteArray) := evRAt (envOf M .x) (lvT 142) cd142 [true, true, true, false, true, false] (endK (β := ByteArray) M 142 .x Go.Proofs.Tryz.f142.results.toList) (stL 31 [(3, AV.bp 500000), (9, AV.d (D.l 3 (List.map cel a0))), (10, AV.d (D.i IntKind.i64 (↑a0.length : Int))), (11, AV.d (D.i IntKind.i64 t11))] [(500000, some (Ob.bld sr0))])
theorem n142_eq (a0 : (List FaceSig)) : n142 a0 = (n141 a0).bind fun y0 => if y0 = false then some (ByteArray.mk #[]) else l142_5 a0 0 ByteArray.empty := by
  rw [n142, fnO_code h142 rfl Go.Proofs.Tryz.func142 (c := cd142) rfl (a0, ()) rfl]
  simp (maxSteps := 60000000) (disch := first | (intros; rename_i h; cases h; done) | decide +kernel) only [evS, seS, List.map_replicate, Nat.reduceDiv, Nat.reduceMod, Nat.reduceEqDiff, reduceCtorEq, ↓reduceIte, Nat.reduceLT, Nat.reduceAdd, Nat.reduceMul, Nat.reduceSub, Nat.reduceLeDiff, Nat.reduceBEq, Int.reduceEq, Int.reduceNeg, Int.reduceToNat, Int.reduceLE, Int.reduceLT, cd142, Go.Proofs.Tryz.f142, h142.r, m142, lv_pl, pl142, c17, c19, c126, c127, c141, lv142_5, l142_5]
  all_goals try simp only [rnS, seS, Nat.reduceEqDiff, reduceCtorEq, ↓reduceIte, Nat.reduceAdd, Nat.reduceLeDiff, Nat.reduceBEq, Nat.reduceMul, lv142_5]
  all_goals try simp only [bindN_eq]
theorem l142_5_eq (a0 : (List FaceSig)) (t11 : Int) (sr0 : ByteArray) : l142_5 a0 t11 sr0 = if t11 < (↑a0.length : Int) then (getI a0 t11).bind fun y0 => (cat y0.name (ByteArray.mk #[40])).bind fun y1 => (n126 y0.args).bind fun y2 => (cat y1 y2).bind fun y3 => (cat y3 (ByteArray.mk #[41])).bind fun y4 => (n127 y0.type).bind fun y5 => (cat y4 y5).bind fun y6 => (cat y6 (ByteArray.mk #[10])).bind fun y7 => if sr0.size + y7.size ≤ 140737488355328 then l142_5 a0 (IntKind.i64.wrap (t11 + 1)) (sr0 ++ y7) else none else some sr0 := by
  rw [l142_5]
  simp only [evRAt, locS, cd142, Go.Proofs.Tryz.f142]
  rw [evR_eq]
  simp (maxSteps := 60000000) (disch := first | (intros; rename_i h; cases h; done) | decide +kernel) only [evS, seS, List.map_replicate, Nat.reduceDiv, Nat.reduceMod, Nat.reduceEqDiff, reduceCtorEq, ↓reduceIte, Nat.reduceLT, Nat.reduceAdd, Nat.reduceMul, Nat.reduceSub, Nat.reduceLeDiff, Nat.reduceBEq, Int.reduceEq, Int.reduceNeg, Int.reduceToNat, Int.reduceLE, Int.reduceLT, cd142, Go.Proofs.Tryz.f142, h142.r, m142, lv_pl, pl142, c17, c19, c126, c127, c141, lv142_5, l142_5]
  all_goals try simp only [rnS, seS, Nat.reduceEqDiff, reduceCtorEq, ↓reduceIte, Nat.reduceAdd, Nat.reduceLeDiff, Nat.reduceBEq, Nat.reduceMul, lv142_5]
  all_goals try simp only [bindN_eq]
noncomputable def l28_4 (a0 : KeepRec) (t3 : Int) : Option (Bool) := evRAt (envOf M .x) (lvT 28) cd28 [true, true, false, true, false] (endK (β := Bool) M 28 .x Go.Proofs.Tryz.f28.results.toList) (stL 60 [(1, AV.a 500000 0), (3, AV.d (D.i IntKind.i64 t3))] [(500000, some (Ob.box [AV.d (D.s a0.name), AV.d (D.s a0.src), AV.d (D.l 1 (List.map cel a0.faces)), AV.d (D.s a0.face), AV.d (D.s a0.obj)]))])
theorem n28_eq (a0 : KeepRec) : n28 a0 = (n54 a0.name).bind fun y0 => if (y0 = false ∨ 4000 < (↑a0.src.size : Int)) ∨ 4 < (↑a0.faces.length : Int) then some false else l28_4 a0 0 := by
  rw [n28, fnO_code h28 rfl Go.Proofs.Tryz.func28 (c := cd28) rfl (a0, ()) rfl]
  simp (maxSteps := 60000000) (disch := first | (intros; rename_i h; cases h; done) | decide +kernel) only [evS, seS, List.map_replicate, Nat.reduceDiv, Nat.reduceMod, Nat.reduceEqDiff, reduceCtorEq, ↓reduceIte, Nat.reduceLT, Nat.reduceAdd, Nat.reduceMul, Nat.reduceSub, Nat.reduceLeDiff, Nat.reduceBEq, Int.reduceEq, Int.reduceNeg, Int.reduceToNat, Int.reduceLE, Int.reduceLT, cd28, Go.Proofs.Tryz.f28, h28.r, m28, lv_pl, pl28, c54, c55, c56, lv28_4, l28_4]
  all_goals try simp only [rnS, seS, Nat.reduceEqDiff, reduceCtorEq, ↓reduceIte, Nat.reduceAdd, Nat.reduceLeDiff, Nat.reduceBEq, Nat.reduceMul, lv28_4]
  all_goals try simp only [bindN_eq]
theorem l28_4_eq (a0 : KeepRec) (t3 : Int) : l28_4 a0 t3 = if t3 < (↑a0.faces.length : Int) then (getI a0.faces t3).bind fun y0 => (n55 y0).bind fun y1 => if y1.snd = false then some false else l28_4 a0 (IntKind.i64.wrap (t3 + 1)) else (n55 a0.face).bind fun y2 => (n56 a0.obj).bind fun y3 => some (decide (y2.snd = true) && y3.snd) := by
  rw [l28_4]
  simp only [evRAt, locS, cd28, Go.Proofs.Tryz.f28]
  rw [evR_eq]
  simp (maxSteps := 60000000) (disch := first | (intros; rename_i h; cases h; done) | decide +kernel) only [evS, seS, List.map_replicate, Nat.reduceDiv, Nat.reduceMod, Nat.reduceEqDiff, reduceCtorEq, ↓reduceIte, Nat.reduceLT, Nat.reduceAdd, Nat.reduceMul, Nat.reduceSub, Nat.reduceLeDiff, Nat.reduceBEq, Int.reduceEq, Int.reduceNeg, Int.reduceToNat, Int.reduceLE, Int.reduceLT, cd28, Go.Proofs.Tryz.f28, h28.r, m28, lv_pl, pl28, c54, c55, c56, lv28_4, l28_4]
  all_goals try simp only [rnS, seS, Nat.reduceEqDiff, reduceCtorEq, ↓reduceIte, Nat.reduceAdd, Nat.reduceLeDiff, Nat.reduceBEq, Nat.reduceMul, lv28_4]
  all_goals try simp only [bindN_eq]
noncomputable def l6_5 (a0 : ByteArray) (t5 : ByteArray) (t6 : Int) (r0 : List KeepRec) : Option (ByteArray) := evRAt (envOf M .x) (lvT 6) cd6 [true, true, true, true, false, true, false] (endK (β := ByteArray) M 6 .x Go.Proofs.Tryz.f6.results.toList) (stL 28 [(3, AV.r 500000), (5, AV.d (D.s t5)), (6, AV.d (D.i IntKind.i64 t6))] [(500000, some (Ob.row 5 (List.map cel r0) true false 0))])
theorem n6_eq (a0 : ByteArray) : n6 a0 = (n12 a0).bind fun y0 => (n13 y0.fst).bind fun y1 => l6_5 a0 (ByteArray.mk #[]) 0 y1 := by
  rw [n6, fnO_code h6 rfl Go.Proofs.Tryz.func6 (c := cd6) rfl (a0, ()) rfl]
  simp (maxSteps := 60000000) (disch := first | (intros; rename_i h; cases h; done) | decide +kernel) only [evS, seS, List.map_replicate, Nat.reduceDiv, Nat.reduceMod, Nat.reduceEqDiff, reduceCtorEq, ↓reduceIte, Nat.reduceLT, Nat.reduceAdd, Nat.reduceMul, Nat.reduceSub, Nat.reduceLeDiff, Nat.reduceBEq, Int.reduceEq, Int.reduceNeg, Int.reduceToNat, Int.reduceLE, Int.reduceLT, cd6, Go.Proofs.Tryz.f6, h6.r, m6, lv_pl, pl6, c12, c13, c14, lv6_5, l6_5]
  all_goals try simp only [rnS, seS, Nat.reduceEqDiff, reduceCtorEq, ↓reduceIte, Nat.reduceAdd, Nat.reduceLeDiff, Nat.reduceBEq, Nat.reduceMul, lv6_5]
  all_goals try simp only [bindN_eq]
theorem l6_5_eq (a0 : ByteArray) (t5 : ByteArray) (t6 : Int) (r0 : List KeepRec) : l6_5 a0 t5 t6 r0 = if t6 < (↑r0.length : Int) then (getI r0 t6).bind fun y0 => r0[t6.toNat]?.bind fun y3 => r0[t6.toNat]?.bind fun y6 => (n14 (KeepRec.mk y3.name y3.src y6.faces y3.face y3.obj)).bind fun y7 => (cat t5 y7).bind fun y8 => l6_5 a0 y8 (IntKind.i64.wrap (t6 + 1)) r0 else some t5 := by
  rw [l6_5]
  simp only [evRAt, locS, cd6, Go.Proofs.Tryz.f6]
  rw [evR_eq]
  simp (maxSteps := 60000000) (disch := first | (intros; rename_i h; cases h; done) | decide +kernel) only [evS, seS, List.map_replicate, Nat.reduceDiv, Nat.reduceMod, Nat.reduceEqDiff, reduceCtorEq, ↓reduceIte, Nat.reduceLT, Nat.reduceAdd, Nat.reduceMul, Nat.reduceSub, Nat.reduceLeDiff, Nat.reduceBEq, Int.reduceEq, Int.reduceNeg, Int.reduceToNat, Int.reduceLE, Int.reduceLT, cd6, Go.Proofs.Tryz.f6, h6.r, m6, lv_pl, pl6, c12, c13, c14, lv6_5, l6_5]
  all_goals try simp only [rnS, seS, Nat.reduceEqDiff, reduceCtorEq, ↓reduceIte, Nat.reduceAdd, Nat.reduceLeDiff, Nat.reduceBEq, Nat.reduceMul, lv6_5]
  all_goals try simp only [bindN_eq]
noncomputable def l132_164_2 (a0 : (List Int)) (t8 : Int) : Option (Int) := evRAt (envOf M .x) (lvT 132) cd132 [true, false, true, false] (endK (β := Int) M 132 .x Go.Proofs.Tryz.f132.results.toList) (stL 19 [(0, AV.d (D.l 1 (List.map cel a0))), (1, AV.d (D.f 164 [])), (7, AV.d (D.i IntKind.i64 (↑a0.length : Int))), (8, AV.d (D.i IntKind.i64 t8))] [])
theorem n132_164_eq (a0 : (List Int)) : n132 a0 (Fv.mk (D.f 164 [])) = l132_164_2 a0 0 := by
  rw [n132, fnO_code h132 rfl Go.Proofs.Tryz.func132 (c := cd132) rfl (a0, (Fv.mk (D.f 164 [])), ()) rfl]
  simp (maxSteps := 60000000) (disch := first | (intros; rename_i h; cases h; done) | decide +kernel) only [evS, seS, List.map_replicate, Nat.reduceDiv, Nat.reduceMod, Nat.reduceEqDiff, reduceCtorEq, ↓reduceIte, Nat.reduceLT, Nat.reduceAdd, Nat.reduceMul, Nat.reduceSub, Nat.reduceLeDiff, Nat.reduceBEq, Int.reduceEq, Int.reduceNeg, Int.reduceToNat, Int.reduceLE, Int.reduceLT, cd132, Go.Proofs.Tryz.f132, h132.r, m132, lv_pl, pl132, c164, lv132_2, l132_164_2]
  all_goals try simp only [rnS, seS, Nat.reduceEqDiff, reduceCtorEq, ↓reduceIte, Nat.reduceAdd, Nat.reduceLeDiff, Nat.reduceBEq, Nat.reduceMul, lv132_2]
theorem l132_164_2_eq (a0 : (List Int)) (t8 : Int) : l132_164_2 a0 t8 = if t8 < (↑a0.length : Int) then (getI a0 t8).bind fun y0 => (n164 y0).bind fun y1 => if y1 = true then some t8 else l132_164_2 a0 (IntKind.i64.wrap (t8 + 1)) else some (-1) := by
  rw [l132_164_2]
  simp only [evRAt, locS, cd132, Go.Proofs.Tryz.f132]
  rw [evR_eq]
  simp (maxSteps := 60000000) (disch := first | (intros; rename_i h; cases h; done) | decide +kernel) only [evS, seS, List.map_replicate, Nat.reduceDiv, Nat.reduceMod, Nat.reduceEqDiff, reduceCtorEq, ↓reduceIte, Nat.reduceLT, Nat.reduceAdd, Nat.reduceMul, Nat.reduceSub, Nat.reduceLeDiff, Nat.reduceBEq, Int.reduceEq, Int.reduceNeg, Int.reduceToNat, Int.reduceLE, Int.reduceLT, cd132, Go.Proofs.Tryz.f132, h132.r, m132, lv_pl, pl132, c164, lv132_2, l132_164_2]
  all_goals try simp only [rnS, seS, Nat.reduceEqDiff, reduceCtorEq, ↓reduceIte, Nat.reduceAdd, Nat.reduceLeDiff, Nat.reduceBEq, Nat.reduceMul, lv132_2]
  all_goals try simp only [bindN_eq]
noncomputable def l71_2 (a0 : ByteArray) (t3 : Int) : Option (Int) := evRAt (envOf M .x) (lvT 71) cd71 [true, false, true, false] (endK (β := Int) M 71 .x Go.Proofs.Tryz.f71.results.toList) (stL 13 [(0, AV.d (D.s a0)), (3, AV.d (D.i IntKind.i64 t3))] [])
theorem n71_eq (a0 : ByteArray) : n71 a0 = l71_2 a0 1 := by
  rw [n71, fnO_code h71 rfl Go.Proofs.Tryz.func71 (c := cd71) rfl (a0, ()) rfl]
  simp (maxSteps := 60000000) (disch := first | (intros; rename_i h; cases h; done) | decide +kernel) only [evS, seS, List.map_replicate, Nat.reduceDiv, Nat.reduceMod, Nat.reduceEqDiff, reduceCtorEq, ↓reduceIte, Nat.reduceLT, Nat.reduceAdd, Nat.reduceMul, Nat.reduceSub, Nat.reduceLeDiff, Nat.reduceBEq, Int.reduceEq, Int.reduceNeg, Int.reduceToNat, Int.reduceLE, Int.reduceLT, cd71, Go.Proofs.Tryz.f71, h71.r, m71, lv_pl, pl71, c76, lv71_2, l71_2]
  all_goals try simp only [rnS, seS, Nat.reduceEqDiff, reduceCtorEq, ↓reduceIte, Nat.reduceAdd, Nat.reduceLeDiff, Nat.reduceBEq, Nat.reduceMul, lv71_2]
theorem l71_2_eq (a0 : ByteArray) (t3 : Int) : l71_2 a0 t3 = if t3 ≤ 3 then (n76 t3).bind fun y0 => if y0 = a0 then some t3 else l71_2 a0 (IntKind.i64.wrap (t3 + 1)) else some 0 := by
  rw [l71_2]
  simp only [evRAt, locS, cd71, Go.Proofs.Tryz.f71]
  rw [evR_eq]
  simp (maxSteps := 60000000) (disch := first | (intros; rename_i h; cases h; done) | decide +kernel) only [evS, seS, List.map_replicate, Nat.reduceDiv, Nat.reduceMod, Nat.reduceEqDiff, reduceCtorEq, ↓reduceIte, Nat.reduceLT, Nat.reduceAdd, Nat.reduceMul, Nat.reduceSub, Nat.reduceLeDiff, Nat.reduceBEq, Int.reduceEq, Int.reduceNeg, Int.reduceToNat, Int.reduceLE, Int.reduceLT, cd71, Go.Proofs.Tryz.f71, h71.r, m71, lv_pl, pl71, c76, lv71_2, l71_2]
  all_goals try simp only [rnS, seS, Nat.reduceEqDiff, reduceCtorEq, ↓reduceIte, Nat.reduceAdd, Nat.reduceLeDiff, Nat.reduceBEq, Nat.reduceMul, lv71_2]
  all_goals try simp only [bindN_eq]
theorem n56_eq (a0 : ByteArray) : n56 a0 = if 30000 < (↑a0.size : Int) then some (CodeObj.mk [] [], false) else (n37 a0 (U8.mk 10)).bind fun y0 => (n101 y0).bind fun y1 => (n102 y1).bind fun y2 => bindB (if y2 = false then some true else (n103 y1).bind fun y3 => some !decide (y3 = a0)) fun y4 => if y4 = true then some (CodeObj.mk [] [], false) else some (y1, true) := by
  rw [n56, fnO_code h56 rfl Go.Proofs.Tryz.func56 (c := cd56) rfl (a0, ()) rfl]
  simp (maxSteps := 60000000) (disch := first | (intros; rename_i h; cases h; done) | decide +kernel) only [evS, seS, List.map_replicate, Nat.reduceDiv, Nat.reduceMod, Nat.reduceEqDiff, reduceCtorEq, ↓reduceIte, Nat.reduceLT, Nat.reduceAdd, Nat.reduceMul, Nat.reduceSub, Nat.reduceLeDiff, Nat.reduceBEq, Int.reduceEq, Int.reduceNeg, Int.reduceToNat, Int.reduceLE, Int.reduceLT, cd56, Go.Proofs.Tryz.f56, h56.r, m56, lv_pl, pl56, c37, c101, c102, c103]
  all_goals try simp only [bindN_eq]
theorem n176_eq (a0 : CodeRef) : n176 a0 = (n62 a0.name).bind fun y0 => if y0 = false then some true else if decide (a0.mod = ByteArray.mk #[]) = false then (n62 a0.mod).bind fun y1 => some !y1 else some false := by
  rw [n176, fnO_code h176 rfl Go.Proofs.Tryz.func176 (c := cd176) rfl (a0, ()) rfl]
  simp (maxSteps := 60000000) (disch := first | (intros; rename_i h; cases h; done) | decide +kernel) only [evS, seS, List.map_replicate, Nat.reduceDiv, Nat.reduceMod, Nat.reduceEqDiff, reduceCtorEq, ↓reduceIte, Nat.reduceLT, Nat.reduceAdd, Nat.reduceMul, Nat.reduceSub, Nat.reduceLeDiff, Nat.reduceBEq, Int.reduceEq, Int.reduceNeg, Int.reduceToNat, Int.reduceLE, Int.reduceLT, cd176, Go.Proofs.Tryz.f176, h176.r, m176, lv_pl, pl176, c62]
  all_goals try simp only [bindN_eq]
theorem n92_164_eq (a0 : (List Int)) : n92 a0 (Fv.mk (D.f 164 [])) = (n132 a0 (Fv.mk (D.f 164 []))).bind fun y0 => some (decide (0 ≤ y0)) := by
  rw [n92, fnO_code h92 rfl Go.Proofs.Tryz.func92 (c := cd92) rfl (a0, (Fv.mk (D.f 164 [])), ()) rfl]
  simp (maxSteps := 60000000) (disch := first | (intros; rename_i h; cases h; done) | decide +kernel) only [evS, seS, List.map_replicate, Nat.reduceDiv, Nat.reduceMod, Nat.reduceEqDiff, reduceCtorEq, ↓reduceIte, Nat.reduceLT, Nat.reduceAdd, Nat.reduceMul, Nat.reduceSub, Nat.reduceLeDiff, Nat.reduceBEq, Int.reduceEq, Int.reduceNeg, Int.reduceToNat, Int.reduceLE, Int.reduceLT, cd92, Go.Proofs.Tryz.f92, h92.r, m92, lv_pl, pl92, c132, c164]
  all_goals try simp only [bindN_eq]
theorem n18_eq (a0 : KeepRec) : n18 a0 = (n35 a0).bind fun y0 => if y0 = false then some (ByteArray.mk #[]) else n36 a0 := by
  rw [n18, fnO_code h18 rfl Go.Proofs.Tryz.func18 (c := cd18) rfl (a0, ()) rfl]
  simp (maxSteps := 60000000) (disch := first | (intros; rename_i h; cases h; done) | decide +kernel) only [evS, seS, List.map_replicate, Nat.reduceDiv, Nat.reduceMod, Nat.reduceEqDiff, reduceCtorEq, ↓reduceIte, Nat.reduceLT, Nat.reduceAdd, Nat.reduceMul, Nat.reduceSub, Nat.reduceLeDiff, Nat.reduceBEq, Int.reduceEq, Int.reduceNeg, Int.reduceToNat, Int.reduceLE, Int.reduceLT, cd18, Go.Proofs.Tryz.f18, h18.r, m18, lv_pl, pl18, c35, c36]
  all_goals try simp only [bindN_eq]
theorem n65_eq (a0 : ByteArray) : n65 a0 = (n63 a0).bind fun y0 => some !y0 := by
  rw [n65, fnO_code h65 rfl Go.Proofs.Tryz.func65 (c := cd65) rfl (a0, ()) rfl]
  simp (maxSteps := 60000000) (disch := first | (intros; rename_i h; cases h; done) | decide +kernel) only [evS, seS, List.map_replicate, Nat.reduceDiv, Nat.reduceMod, Nat.reduceEqDiff, reduceCtorEq, ↓reduceIte, Nat.reduceLT, Nat.reduceAdd, Nat.reduceMul, Nat.reduceSub, Nat.reduceLeDiff, Nat.reduceBEq, Int.reduceEq, Int.reduceNeg, Int.reduceToNat, Int.reduceLE, Int.reduceLT, cd65, Go.Proofs.Tryz.f65, h65.r, m65, lv_pl, pl65, c63]
  all_goals try simp only [bindN_eq]
end Go.Fs.Se
