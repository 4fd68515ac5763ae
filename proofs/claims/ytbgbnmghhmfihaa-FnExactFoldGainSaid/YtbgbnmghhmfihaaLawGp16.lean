/- A part of the proof: an evaluator of the program's code over plain data, proved sound, and walks of the program's functions by it. No conditions beyond those in the theorems. -/
import Derived.Test.YtbgbnmghhmfihaaLawGp15
set_option linter.unusedVariables false
set_option linter.unusedSimpArgs false
set_option linter.constructorNameAsVariable false
set_option linter.unusedSectionVars false
set_option linter.defProp false
set_option linter.unusedVariables false
namespace Go.Fs.Se
open Cel (cel unc)
open Dat (enc dec)
open Arg (ea da)
/-! loop.example/smithy/laws.FnExactTrimDb -/
theorem h3 : Has M 3 ((List KeepRec) × Unit) (Bool) := ⟨fun _ => rfl, fun _ => rfl⟩
noncomputable def n3 (a0 : (List KeepRec)) : Option (Bool) := fnO M 3 (Bool) (a0, ())
theorem c3 : (∀ {ρ : Type} (ds : List D) (F : D → Option ρ), ((lastR M).o 3 ds).bind F = (da (α := (List KeepRec) × Unit) ds).bind (callN (fun x => n3 x.1) F)) ∧ ∀ aa, (envOf M aa).S 3 = some (.own ((lastR M).o 3)) := ⟨fun ds F => call_oK h3 ds F, fun _ => rfl⟩
theorem m3 : M.mode 3 = 0 := rfl
noncomputable def cd3 : Code := match Go.Proofs.Try.f3.body with | some c => c | none => .skip
theorem pl3 : plT 3 = [] := rfl
/-! loop.example/smithy/laws.FnExactShakeReach -/
theorem h4 : Has M 4 (LinkImage × Unit) (Bool) := ⟨fun _ => rfl, fun _ => rfl⟩
noncomputable def n4 (a0 : LinkImage) : Option (Bool) := fnO M 4 (Bool) (a0, ())
theorem c4 : (∀ {ρ : Type} (ds : List D) (F : D → Option ρ), ((lastR M).o 4 ds).bind F = (da (α := LinkImage × Unit) ds).bind (callN (fun x => n4 x.1) F)) ∧ ∀ aa, (envOf M aa).S 4 = some (.own ((lastR M).o 4)) := ⟨fun ds F => call_oK h4 ds F, fun _ => rfl⟩
theorem m4 : M.mode 4 = 0 := rfl
noncomputable def cd4 : Code := match Go.Proofs.Try.f4.body with | some c => c | none => .skip
theorem pl4 : plT 4 = [(10, [0, 3])] := rfl
/-! loop.example/smithy/laws.FnExactShakeImage -/
theorem h5 : Has M 5 (LinkImage × Unit) (Bool) := ⟨fun _ => rfl, fun _ => rfl⟩
noncomputable def n5 (a0 : LinkImage) : Option (Bool) := fnO M 5 (Bool) (a0, ())
theorem c5 : (∀ {ρ : Type} (ds : List D) (F : D → Option ρ), ((lastR M).o 5 ds).bind F = (da (α := LinkImage × Unit) ds).bind (callN (fun x => n5 x.1) F)) ∧ ∀ aa, (envOf M aa).S 5 = some (.own ((lastR M).o 5)) := ⟨fun ds F => call_oK h5 ds F, fun _ => rfl⟩
theorem m5 : M.mode 5 = 0 := rfl
noncomputable def cd5 : Code := match Go.Proofs.Try.f5.body with | some c => c | none => .skip
theorem pl5 : plT 5 = [(10, [0, 3])] := rfl
/-! loop.example/smithy/laws.FnExactFoldExpr -/
theorem h6 : Has M 6 (TreeExpr × Unit) (Bool) := ⟨fun _ => rfl, fun _ => rfl⟩
noncomputable def n6 (a0 : TreeExpr) : Option (Bool) := fnO M 6 (Bool) (a0, ())
theorem c6 : (∀ {ρ : Type} (ds : List D) (F : D → Option ρ), ((lastR M).o 6 ds).bind F = (da (α := TreeExpr × Unit) ds).bind (callN (fun x => n6 x.1) F)) ∧ ∀ aa, (envOf M aa).S 6 = some (.own ((lastR M).o 6)) := ⟨fun ds F => call_oK h6 ds F, fun _ => rfl⟩
theorem m6 : M.mode 6 = 0 := rfl
noncomputable def cd6 : Code := match Go.Proofs.Try.f6.body with | some c => c | none => .skip
theorem pl6 : plT 6 = [(10, [0, 3])] := rfl
/-! loop.example/smithy/laws.FnExactFoldGain -/
theorem h7 : Has M 7 (TreeMod × Unit) (Bool) := ⟨fun _ => rfl, fun _ => rfl⟩
noncomputable def n7 (a0 : TreeMod) : Option (Bool) := fnO M 7 (Bool) (a0, ())
theorem c7 : (∀ {ρ : Type} (ds : List D) (F : D → Option ρ), ((lastR M).o 7 ds).bind F = (da (α := TreeMod × Unit) ds).bind (callN (fun x => n7 x.1) F)) ∧ ∀ aa, (envOf M aa).S 7 = some (.own ((lastR M).o 7)) := ⟨fun ds F => call_oK h7 ds F, fun _ => rfl⟩
theorem m7 : M.mode 7 = 0 := rfl
noncomputable def cd7 : Code := match Go.Proofs.Try.f7.body with | some c => c | none => .skip
theorem pl7 : plT 7 = [(10, [0, 3])] := rfl
/-! loop.example/smithy/laws.szKeepRecS -/
theorem h8 : Has M 8 ((List KeepRec) × Int × Unit) (Int) := ⟨fun _ => rfl, fun _ => rfl⟩
noncomputable def n8 (a0 : (List KeepRec)) (a1 : Int) : Option (Int) := fnO M 8 (Int) (a0, a1, ())
theorem c8 : (∀ {ρ : Type} (ds : List D) (F : D → Option ρ), ((lastR M).o 8 ds).bind F = (da (α := (List KeepRec) × Int × Unit) ds).bind (callN (fun x => n8 x.1 x.2.1) F)) ∧ ∀ aa, (envOf M aa).S 8 = some (.own ((lastR M).o 8)) := ⟨fun ds F => call_oK h8 ds F, fun _ => rfl⟩
theorem m8 : M.mode 8 = 0 := rfl
noncomputable def cd8 : Code := match Go.Proofs.Try.f8.body with | some c => c | none => .skip
theorem pl8 : plT 8 = [] := rfl
theorem lv8_5 : lvT 8 5 = [0, 1, 5] := rfl
/-! loop.example/smithy/spec.TrimDb -/
theorem h9 : Has M 9 ((List KeepRec) × Unit) ((List KeepRec)) := ⟨fun _ => rfl, fun _ => rfl⟩
noncomputable def n9 (a0 : (List KeepRec)) : Option ((List KeepRec)) := fnO M 9 ((List KeepRec)) (a0, ())
theorem c9 : (∀ {ρ : Type} (ds : List D) (F : D → Option ρ), ((lastR M).o 9 ds).bind F = (da (α := (List KeepRec) × Unit) ds).bind (callN (fun x => n9 x.1) F)) ∧ ∀ aa, (envOf M aa).S 9 = some (.own ((lastR M).o 9)) := ⟨fun ds F => call_oK h9 ds F, fun _ => rfl⟩
theorem m9 : M.mode 9 = 0 := rfl
noncomputable def cd9 : Code := match Go.Proofs.Try.f9.body with | some c => c | none => .skip
theorem pl9 : plT 9 = [] := rfl
theorem lv9_5 : lvT 9 5 = [0, 3, 4] := rfl
theorem lv9_9 : lvT 9 9 = [0, 3, 4, 5, 6] := rfl
/-! loop.example/smithy/laws.toKeepRecS -/
theorem h10 : Has M 10 ((List KeepRec) × Unit) ((List KeepRec)) := ⟨fun _ => rfl, fun _ => rfl⟩
noncomputable def n10 (a0 : (List KeepRec)) : Option ((List KeepRec)) := fnO M 10 ((List KeepRec)) (a0, ())
theorem c10 : (∀ {ρ : Type} (ds : List D) (F : D → Option ρ), ((lastR M).o 10 ds).bind F = (da (α := (List KeepRec) × Unit) ds).bind (callN (fun x => n10 x.1) F)) ∧ ∀ aa, (envOf M aa).S 10 = some (.own ((lastR M).o 10)) := ⟨fun ds F => call_oK h10 ds F, fun _ => rfl⟩
theorem m10 : M.mode 10 = 0 := rfl
noncomputable def cd10 : Code := match Go.Proofs.Try.f10.body with | some c => c | none => .skip
theorem pl10 : plT 10 = [] := rfl
theorem lv10_3 : lvT 10 3 = [0, 3, 4] := rfl
/-! loop.example/smithy/impl.TrimDb -/
theorem h11 : Has M 11 ((List KeepRec) × Unit) ((List KeepRec)) := ⟨fun _ => rfl, fun _ => rfl⟩
noncomputable def n11 (a0 : (List KeepRec)) : Option ((List KeepRec)) := fnO M 11 ((List KeepRec)) (a0, ())
theorem c11 : (∀ {ρ : Type} (ds : List D) (F : D → Option ρ), ((lastR M).o 11 ds).bind F = (da (α := (List KeepRec) × Unit) ds).bind (callN (fun x => n11 x.1) F)) ∧ ∀ aa, (envOf M aa).S 11 = some (.own ((lastR M).o 11)) := ⟨fun ds F => call_oK h11 ds F, fun _ => rfl⟩
theorem m11 : M.mode 11 = 0 := rfl
noncomputable def cd11 : Code := match Go.Proofs.Try.f11.body with | some c => c | none => .skip
theorem pl11 : plT 11 = [] := rfl
/-! loop.example/smithy/laws.eqKeepRecS -/
theorem h12 : Has M 12 ((List KeepRec) × (List KeepRec) × Unit) (Bool) := ⟨fun _ => rfl, fun _ => rfl⟩
noncomputable def n12 (a0 : (List KeepRec)) (a1 : (List KeepRec)) : Option (Bool) := fnO M 12 (Bool) (a0, a1, ())
theorem c12 : (∀ {ρ : Type} (ds : List D) (F : D → Option ρ), ((lastR M).o 12 ds).bind F = (da (α := (List KeepRec) × (List KeepRec) × Unit) ds).bind (callN (fun x => n12 x.1 x.2.1) F)) ∧ ∀ aa, (envOf M aa).S 12 = some (.own ((lastR M).o 12)) := ⟨fun ds F => call_oK h12 ds F, fun _ => rfl⟩
theorem m12 : M.mode 12 = 0 := rfl
noncomputable def cd12 : Code := match Go.Proofs.Try.f12.body with | some c => c | none => .skip
theorem pl12 : plT 12 = [] := rfl
theorem lv12_4 : lvT 12 4 = [0, 1, 5] := rfl
/-! loop.example/smithy/laws.markKeepRecS -/
theorem h13 : Has M 13 ((List KeepRec) × Int × Unit) (Int × (List KeepRec)) := ⟨fun _ => rfl, fun _ => rfl⟩
noncomputable def n13 (a0 : (List KeepRec)) (a1 : Int) : Option (Int × (List KeepRec)) := fnI M 13 (Int) (a0, a1, ())
theorem c13 : (∀ {ρ : Type} (x : D) (ds : List D) (F : D × D → Option ρ), ((lastR M).i 13 x ds).bind F = (da (α := (List KeepRec) × Int × Unit) (x :: ds)).bind (callI (fun x => n13 x.1 x.2.1) F)) ∧ ∀ aa, (envOf M aa).S 13 = some (.io ((lastR M).i 13)) := ⟨fun x ds F => call_iK h13 x ds F, fun _ => rfl⟩
theorem m13 : M.mode 13 = 2 := rfl
noncomputable def cd13 : Code := match Go.Proofs.Try.f13.body with | some c => c | none => .skip
theorem pl13 : plT 13 = [] := rfl
theorem lv13_2 : lvT 13 2 = [0, 1, 5] := rfl
/-! loop.example/smithy/laws.heldKeepRecS -/
theorem h14 : Has M 14 ((List KeepRec) × Int × Unit) (Int) := ⟨fun _ => rfl, fun _ => rfl⟩
noncomputable def n14 (a0 : (List KeepRec)) (a1 : Int) : Option (Int) := fnO M 14 (Int) (a0, a1, ())
theorem c14 : (∀ {ρ : Type} (ds : List D) (F : D → Option ρ), ((lastR M).o 14 ds).bind F = (da (α := (List KeepRec) × Int × Unit) ds).bind (callN (fun x => n14 x.1 x.2.1) F)) ∧ ∀ aa, (envOf M aa).S 14 = some (.own ((lastR M).o 14)) := ⟨fun ds F => call_oK h14 ds F, fun _ => rfl⟩
theorem m14 : M.mode 14 = 0 := rfl
noncomputable def cd14 : Code := match Go.Proofs.Try.f14.body with | some c => c | none => .skip
theorem pl14 : plT 14 = [] := rfl
theorem lv14_2 : lvT 14 2 = [0, 1, 5] := rfl
/-! loop.example/smithy/laws.szLinkImage -/
theorem h15 : Has M 15 (LinkImage × Int × Unit) (Int) := ⟨fun _ => rfl, fun _ => rfl⟩
noncomputable def n15 (a0 : LinkImage) (a1 : Int) : Option (Int) := fnO M 15 (Int) (a0, a1, ())
theorem c15 : (∀ {ρ : Type} (ds : List D) (F : D → Option ρ), ((lastR M).o 15 ds).bind F = (da (α := LinkImage × Int × Unit) ds).bind (callN (fun x => n15 x.1 x.2.1) F)) ∧ ∀ aa, (envOf M aa).S 15 = some (.own ((lastR M).o 15)) := ⟨fun ds F => call_oK h15 ds F, fun _ => rfl⟩
theorem m15 : M.mode 15 = 0 := rfl
noncomputable def cd15 : Code := match Go.Proofs.Try.f15.body with | some c => c | none => .skip
theorem pl15 : plT 15 = [] := rfl
/-! loop.example/smithy/spec.ShakeReach -/
theorem h16 : Has M 16 (LinkImage × Unit) ((List Int)) := ⟨fun _ => rfl, fun _ => rfl⟩
noncomputable def n16 (a0 : LinkImage) : Option ((List Int)) := fnO M 16 ((List Int)) (a0, ())
theorem c16 : (∀ {ρ : Type} (ds : List D) (F : D → Option ρ), ((lastR M).o 16 ds).bind F = (da (α := LinkImage × Unit) ds).bind (callN (fun x => n16 x.1) F)) ∧ ∀ aa, (envOf M aa).S 16 = some (.own ((lastR M).o 16)) := ⟨fun ds F => call_oK h16 ds F, fun _ => rfl⟩
theorem m16 : M.mode 16 = 0 := rfl
noncomputable def cd16 : Code := match Go.Proofs.Try.f16.body with | some c => c | none => .skip
theorem pl16 : plT 16 = [] := rfl
theorem lv16_6 : lvT 16 6 = [3, 4, 5] := rfl
/-! loop.example/smithy/laws.toLinkImage -/
theorem h17 : Has M 17 (LinkImage × Unit) (LinkImage) := ⟨fun _ => rfl, fun _ => rfl⟩
noncomputable def n17 (a0 : LinkImage) : Option (LinkImage) := fnO M 17 (LinkImage) (a0, ())
theorem c17 : (∀ {ρ : Type} (ds : List D) (F : D → Option ρ), ((lastR M).o 17 ds).bind F = (da (α := LinkImage × Unit) ds).bind (callN (fun x => n17 x.1) F)) ∧ ∀ aa, (envOf M aa).S 17 = some (.own ((lastR M).o 17)) := ⟨fun ds F => call_oK h17 ds F, fun _ => rfl⟩
theorem m17 : M.mode 17 = 0 := rfl
noncomputable def cd17 : Code := match Go.Proofs.Try.f17.body with | some c => c | none => .skip
theorem pl17 : plT 17 = [] := rfl
/-! loop.example/smithy/impl.ShakeReach -/
theorem h18 : Has M 18 (LinkImage × Unit) ((List Int)) := ⟨fun _ => rfl, fun _ => rfl⟩
noncomputable def n18 (a0 : LinkImage) : Option ((List Int)) := fnO M 18 ((List Int)) (a0, ())
theorem c18 : (∀ {ρ : Type} (ds : List D) (F : D → Option ρ), ((lastR M).o 18 ds).bind F = (da (α := LinkImage × Unit) ds).bind (callN (fun x => n18 x.1) F)) ∧ ∀ aa, (envOf M aa).S 18 = some (.own ((lastR M).o 18)) := ⟨fun ds F => call_oK h18 ds F, fun _ => rfl⟩
theorem m18 : M.mode 18 = 0 := rfl
noncomputable def cd18 : Code := match Go.Proofs.Try.f18.body with | some c => c | none => .skip
theorem pl18 : plT 18 = [] := rfl
/-! loop.example/smithy/laws.eqIntS -/
theorem h19 : Has M 19 ((List Int) × (List Int) × Unit) (Bool) := ⟨fun _ => rfl, fun _ => rfl⟩
noncomputable def n19 (a0 : (List Int)) (a1 : (List Int)) : Option (Bool) := fnO M 19 (Bool) (a0, a1, ())
theorem c19 : (∀ {ρ : Type} (ds : List D) (F : D → Option ρ), ((lastR M).o 19 ds).bind F = (da (α := (List Int) × (List Int) × Unit) ds).bind (callN (fun x => n19 x.1 x.2.1) F)) ∧ ∀ aa, (envOf M aa).S 19 = some (.own ((lastR M).o 19)) := ⟨fun ds F => call_oK h19 ds F, fun _ => rfl⟩
theorem m19 : M.mode 19 = 0 := rfl
noncomputable def cd19 : Code := match Go.Proofs.Try.f19.body with | some c => c | none => .skip
theorem pl19 : plT 19 = [] := rfl
theorem lv19_4 : lvT 19 4 = [0, 1, 5] := rfl
/-! loop.example/smithy/laws.eqLinkImage -/
theorem h20 : Has M 20 (LinkImage × LinkImage × Unit) (Bool) := ⟨fun _ => rfl, fun _ => rfl⟩
noncomputable def n20 (a0 : LinkImage) (a1 : LinkImage) : Option (Bool) := fnO M 20 (Bool) (a0, a1, ())
theorem c20 : (∀ {ρ : Type} (ds : List D) (F : D → Option ρ), ((lastR M).o 20 ds).bind F = (da (α := LinkImage × LinkImage × Unit) ds).bind (callN (fun x => n20 x.1 x.2.1) F)) ∧ ∀ aa, (envOf M aa).S 20 = some (.own ((lastR M).o 20)) := ⟨fun ds F => call_oK h20 ds F, fun _ => rfl⟩
theorem m20 : M.mode 20 = 0 := rfl
noncomputable def cd20 : Code := match Go.Proofs.Try.f20.body with | some c => c | none => .skip
theorem pl20 : plT 20 = [] := rfl
/-! loop.example/smithy/laws.markLinkImage -/
theorem h21 : Has M 21 (LinkImage × Int × Unit) (Int × LinkImage) := ⟨fun _ => rfl, fun _ => rfl⟩
noncomputable def n21 (a0 : LinkImage) (a1 : Int) : Option (Int × LinkImage) := fnI M 21 (Int) (a0, a1, ())
theorem c21 : (∀ {ρ : Type} (x : D) (ds : List D) (F : D × D → Option ρ), ((lastR M).i 21 x ds).bind F = (da (α := LinkImage × Int × Unit) (x :: ds)).bind (callI (fun x => n21 x.1 x.2.1) F)) ∧ ∀ aa, (envOf M aa).S 21 = some (.io ((lastR M).i 21)) := ⟨fun x ds F => call_iK h21 x ds F, fun _ => rfl⟩
theorem m21 : M.mode 21 = 2 := rfl
noncomputable def cd21 : Code := match Go.Proofs.Try.f21.body with | some c => c | none => .skip
theorem pl21 : plT 21 = [] := rfl
/-! loop.example/smithy/laws.markIntS -/
theorem h22 : Has M 22 ((List Int) × Int × Unit) (Int × (List Int)) := ⟨fun _ => rfl, fun _ => rfl⟩
noncomputable def n22 (a0 : (List Int)) (a1 : Int) : Option (Int × (List Int)) := fnI M 22 (Int) (a0, a1, ())
theorem c22 : (∀ {ρ : Type} (x : D) (ds : List D) (F : D × D → Option ρ), ((lastR M).i 22 x ds).bind F = (da (α := (List Int) × Int × Unit) (x :: ds)).bind (callI (fun x => n22 x.1 x.2.1) F)) ∧ ∀ aa, (envOf M aa).S 22 = some (.io ((lastR M).i 22)) := ⟨fun x ds F => call_iK h22 x ds F, fun _ => rfl⟩
theorem m22 : M.mode 22 = 2 := rfl
noncomputable def cd22 : Code := match Go.Proofs.Try.f22.body with | some c => c | none => .skip
theorem pl22 : plT 22 = [] := rfl
theorem lv22_2 : lvT 22 2 = [0, 1, 5] := rfl
/-! loop.example/smithy/laws.heldIntS -/
theorem h23 : Has M 23 ((List Int) × Int × Unit) (Int) := ⟨fun _ => rfl, fun _ => rfl⟩
noncomputable def n23 (a0 : (List Int)) (a1 : Int) : Option (Int) := fnO M 23 (Int) (a0, a1, ())
theorem c23 : (∀ {ρ : Type} (ds : List D) (F : D → Option ρ), ((lastR M).o 23 ds).bind F = (da (α := (List Int) × Int × Unit) ds).bind (callN (fun x => n23 x.1 x.2.1) F)) ∧ ∀ aa, (envOf M aa).S 23 = some (.own ((lastR M).o 23)) := ⟨fun ds F => call_oK h23 ds F, fun _ => rfl⟩
theorem m23 : M.mode 23 = 0 := rfl
noncomputable def cd23 : Code := match Go.Proofs.Try.f23.body with | some c => c | none => .skip
theorem pl23 : plT 23 = [] := rfl
theorem lv23_2 : lvT 23 2 = [0, 1, 5] := rfl
/-! loop.example/smithy/spec.ShakeImage -/
theorem h24 : Has M 24 (LinkImage × Unit) (LinkImage) := ⟨fun _ => rfl, fun _ => rfl⟩
noncomputable def n24 (a0 : LinkImage) : Option (LinkImage) := fnO M 24 (LinkImage) (a0, ())
theorem c24 : (∀ {ρ : Type} (ds : List D) (F : D → Option ρ), ((lastR M).o 24 ds).bind F = (da (α := LinkImage × Unit) ds).bind (callN (fun x => n24 x.1) F)) ∧ ∀ aa, (envOf M aa).S 24 = some (.own ((lastR M).o 24)) := ⟨fun ds F => call_oK h24 ds F, fun _ => rfl⟩
theorem m24 : M.mode 24 = 0 := rfl
noncomputable def cd24 : Code := match Go.Proofs.Try.f24.body with | some c => c | none => .skip
theorem pl24 : plT 24 = [(8, [0, 9, 1009, 2009, 3009, 4009, 5009, 6009, 7009]), (23, [0, 9, 10, 1009, 1010])] := rfl
theorem lv24_6 : lvT 24 6 = [1, 2, 3, 4, 5] := rfl
theorem lv24_12 : lvT 24 12 = [1, 2, 3, 4, 5, 6, 7, 8] := rfl
theorem lv24_21 : lvT 24 21 = [1, 2, 3, 4, 10] := rfl
/-! loop.example/smithy/impl.ShakeImage -/
theorem h25 : Has M 25 (LinkImage × Unit) (LinkImage) := ⟨fun _ => rfl, fun _ => rfl⟩
noncomputable def n25 (a0 : LinkImage) : Option (LinkImage) := fnO M 25 (LinkImage) (a0, ())
theorem c25 : (∀ {ρ : Type} (ds : List D) (F : D → Option ρ), ((lastR M).o 25 ds).bind F = (da (α := LinkImage × Unit) ds).bind (callN (fun x => n25 x.1) F)) ∧ ∀ aa, (envOf M aa).S 25 = some (.own ((lastR M).o 25)) := ⟨fun ds F => call_oK h25 ds F, fun _ => rfl⟩
theorem m25 : M.mode 25 = 0 := rfl
noncomputable def cd25 : Code := match Go.Proofs.Try.f25.body with | some c => c | none => .skip
theorem pl25 : plT 25 = [(3, [0, 2, 2000, 2004]), (13, [0, 7, 1007, 2007]), (20, [0, 6, 1006, 2006])] := rfl
theorem lv25_6 : lvT 25 6 = [1, 2, 3, 4, 5, 22, 23, 24] := rfl
theorem lv25_10 : lvT 25 10 = [1, 2, 3, 4, 5, 8, 22, 23, 24, 34, 35, 36] := rfl
theorem lv25_18 : lvT 25 18 = [2, 3, 4, 5, 68, 69, 70] := rfl
/-! loop.example/smithy/laws.heldLinkImage -/
theorem h26 : Has M 26 (LinkImage × Int × Unit) (Int) := ⟨fun _ => rfl, fun _ => rfl⟩
noncomputable def n26 (a0 : LinkImage) (a1 : Int) : Option (Int) := fnO M 26 (Int) (a0, a1, ())
theorem c26 : (∀ {ρ : Type} (ds : List D) (F : D → Option ρ), ((lastR M).o 26 ds).bind F = (da (α := LinkImage × Int × Unit) ds).bind (callN (fun x => n26 x.1 x.2.1) F)) ∧ ∀ aa, (envOf M aa).S 26 = some (.own ((lastR M).o 26)) := ⟨fun ds F => call_oK h26 ds F, fun _ => rfl⟩
theorem m26 : M.mode 26 = 0 := rfl
noncomputable def cd26 : Code := match Go.Proofs.Try.f26.body with | some c => c | none => .skip
theorem pl26 : plT 26 = [] := rfl
/-! loop.example/smithy/laws.szTreeExpr -/
theorem h27 : Has M 27 (TreeExpr × Int × Unit) (Int) := ⟨fun _ => rfl, fun _ => rfl⟩
noncomputable def n27 (a0 : TreeExpr) (a1 : Int) : Option (Int) := fnO M 27 (Int) (a0, a1, ())
theorem c27 : (∀ {ρ : Type} (ds : List D) (F : D → Option ρ), ((lastR M).o 27 ds).bind F = (da (α := TreeExpr × Int × Unit) ds).bind (callN (fun x => n27 x.1 x.2.1) F)) ∧ ∀ aa, (envOf M aa).S 27 = some (.own ((lastR M).o 27)) := ⟨fun ds F => call_oK h27 ds F, fun _ => rfl⟩
theorem m27 : M.mode 27 = 0 := rfl
noncomputable def cd27 : Code := match Go.Proofs.Try.f27.body with | some c => c | none => .skip
theorem pl27 : plT 27 = [] := rfl
/-! loop.example/smithy/spec.FoldExpr -/
theorem h28 : Has M 28 (TreeExpr × Unit) (TreeExpr) := ⟨fun _ => rfl, fun _ => rfl⟩
noncomputable def n28 (a0 : TreeExpr) : Option (TreeExpr) := fnO M 28 (TreeExpr) (a0, ())
theorem c28 : (∀ {ρ : Type} (ds : List D) (F : D → Option ρ), ((lastR M).o 28 ds).bind F = (da (α := TreeExpr × Unit) ds).bind (callN (fun x => n28 x.1) F)) ∧ ∀ aa, (envOf M aa).S 28 = some (.own ((lastR M).o 28)) := ⟨fun ds F => call_oK h28 ds F, fun _ => rfl⟩
theorem m28 : M.mode 28 = 0 := rfl
noncomputable def cd28 : Code := match Go.Proofs.Try.f28.body with | some c => c | none => .skip
theorem pl28 : plT 28 = [] := rfl
/-! loop.example/smithy/laws.toTreeExpr -/
theorem h29 : Has M 29 (TreeExpr × Unit) (TreeExpr) := ⟨fun _ => rfl, fun _ => rfl⟩
noncomputable def n29 (a0 : TreeExpr) : Option (TreeExpr) := fnO M 29 (TreeExpr) (a0, ())
theorem c29 : (∀ {ρ : Type} (ds : List D) (F : D → Option ρ), ((lastR M).o 29 ds).bind F = (da (α := TreeExpr × Unit) ds).bind (callN (fun x => n29 x.1) F)) ∧ ∀ aa, (envOf M aa).S 29 = some (.own ((lastR M).o 29)) := ⟨fun ds F => call_oK h29 ds F, fun _ => rfl⟩
theorem m29 : M.mode 29 = 0 := rfl
noncomputable def cd29 : Code := match Go.Proofs.Try.f29.body with | some c => c | none => .skip
theorem pl29 : plT 29 = [] := rfl
/-! loop.example/smithy/impl.FoldExpr -/
theorem h30 : Has M 30 (TreeExpr × Unit) (TreeExpr) := ⟨fun _ => rfl, fun _ => rfl⟩
noncomputable def n30 (a0 : TreeExpr) : Option (TreeExpr) := fnO M 30 (TreeExpr) (a0, ())
theorem c30 : (∀ {ρ : Type} (ds : List D) (F : D → Option ρ), ((lastR M).o 30 ds).bind F = (da (α := TreeExpr × Unit) ds).bind (callN (fun x => n30 x.1) F)) ∧ ∀ aa, (envOf M aa).S 30 = some (.own ((lastR M).o 30)) := ⟨fun ds F => call_oK h30 ds F, fun _ => rfl⟩
theorem m30 : M.mode 30 = 0 := rfl
noncomputable def cd30 : Code := match Go.Proofs.Try.f30.body with | some c => c | none => .skip
theorem pl30 : plT 30 = [] := rfl
/-! loop.example/smithy/laws.eqTreeExpr -/
theorem h31 : Has M 31 (TreeExpr × TreeExpr × Unit) (Bool) := ⟨fun _ => rfl, fun _ => rfl⟩
noncomputable def n31 (a0 : TreeExpr) (a1 : TreeExpr) : Option (Bool) := fnO M 31 (Bool) (a0, a1, ())
theorem c31 : (∀ {ρ : Type} (ds : List D) (F : D → Option ρ), ((lastR M).o 31 ds).bind F = (da (α := TreeExpr × TreeExpr × Unit) ds).bind (callN (fun x => n31 x.1 x.2.1) F)) ∧ ∀ aa, (envOf M aa).S 31 = some (.own ((lastR M).o 31)) := ⟨fun ds F => call_oK h31 ds F, fun _ => rfl⟩
theorem m31 : M.mode 31 = 0 := rfl
noncomputable def cd31 : Code := match Go.Proofs.Try.f31.body with | some c => c | none => .skip
theorem pl31 : plT 31 = [] := rfl
/-! loop.example/smithy/laws.markTreeExpr -/
theorem h32 : Has M 32 (TreeExpr × Int × Unit) (Int × TreeExpr) := ⟨fun _ => rfl, fun _ => rfl⟩
noncomputable def n32 (a0 : TreeExpr) (a1 : Int) : Option (Int × TreeExpr) := fnI M 32 (Int) (a0, a1, ())
theorem c32 : (∀ {ρ : Type} (x : D) (ds : List D) (F : D × D → Option ρ), ((lastR M).i 32 x ds).bind F = (da (α := TreeExpr × Int × Unit) (x :: ds)).bind (callI (fun x => n32 x.1 x.2.1) F)) ∧ ∀ aa, (envOf M aa).S 32 = some (.io ((lastR M).i 32)) := ⟨fun x ds F => call_iK h32 x ds F, fun _ => rfl⟩
theorem m32 : M.mode 32 = 2 := rfl
noncomputable def cd32 : Code := match Go.Proofs.Try.f32.body with | some c => c | none => .skip
theorem pl32 : plT 32 = [] := rfl
/-! loop.example/smithy/laws.heldTreeExpr -/
theorem h33 : Has M 33 (TreeExpr × Int × Unit) (Int) := ⟨fun _ => rfl, fun _ => rfl⟩
noncomputable def n33 (a0 : TreeExpr) (a1 : Int) : Option (Int) := fnO M 33 (Int) (a0, a1, ())
theorem c33 : (∀ {ρ : Type} (ds : List D) (F : D → Option ρ), ((lastR M).o 33 ds).bind F = (da (α := TreeExpr × Int × Unit) ds).bind (callN (fun x => n33 x.1 x.2.1) F)) ∧ ∀ aa, (envOf M aa).S 33 = some (.own ((lastR M).o 33)) := ⟨fun ds F => call_oK h33 ds F, fun _ => rfl⟩
theorem m33 : M.mode 33 = 0 := rfl
noncomputable def cd33 : Code := match Go.Proofs.Try.f33.body with | some c => c | none => .skip
theorem pl33 : plT 33 = [] := rfl
/-! loop.example/smithy/laws.szTreeMod -/
theorem h34 : Has M 34 (TreeMod × Int × Unit) (Int) := ⟨fun _ => rfl, fun _ => rfl⟩
noncomputable def n34 (a0 : TreeMod) (a1 : Int) : Option (Int) := fnO M 34 (Int) (a0, a1, ())
theorem c34 : (∀ {ρ : Type} (ds : List D) (F : D → Option ρ), ((lastR M).o 34 ds).bind F = (da (α := TreeMod × Int × Unit) ds).bind (callN (fun x => n34 x.1 x.2.1) F)) ∧ ∀ aa, (envOf M aa).S 34 = some (.own ((lastR M).o 34)) := ⟨fun ds F => call_oK h34 ds F, fun _ => rfl⟩
theorem m34 : M.mode 34 = 0 := rfl
noncomputable def cd34 : Code := match Go.Proofs.Try.f34.body with | some c => c | none => .skip
theorem pl34 : plT 34 = [] := rfl
/-! loop.example/smithy/spec.FoldGain -/
theorem h35 : Has M 35 (TreeMod × Unit) (Int) := ⟨fun _ => rfl, fun _ => rfl⟩
noncomputable def n35 (a0 : TreeMod) : Option (Int) := fnO M 35 (Int) (a0, ())
theorem c35 : (∀ {ρ : Type} (ds : List D) (F : D → Option ρ), ((lastR M).o 35 ds).bind F = (da (α := TreeMod × Unit) ds).bind (callN (fun x => n35 x.1) F)) ∧ ∀ aa, (envOf M aa).S 35 = some (.own ((lastR M).o 35)) := ⟨fun ds F => call_oK h35 ds F, fun _ => rfl⟩
theorem m35 : M.mode 35 = 0 := rfl
noncomputable def cd35 : Code := match Go.Proofs.Try.f35.body with | some c => c | none => .skip
theorem pl35 : plT 35 = [(3, [0, 2000])] := rfl
/-! loop.example/smithy/laws.toTreeMod -/
theorem h36 : Has M 36 (TreeMod × Unit) (TreeMod) := ⟨fun _ => rfl, fun _ => rfl⟩
noncomputable def n36 (a0 : TreeMod) : Option (TreeMod) := fnO M 36 (TreeMod) (a0, ())
theorem c36 : (∀ {ρ : Type} (ds : List D) (F : D → Option ρ), ((lastR M).o 36 ds).bind F = (da (α := TreeMod × Unit) ds).bind (callN (fun x => n36 x.1) F)) ∧ ∀ aa, (envOf M aa).S 36 = some (.own ((lastR M).o 36)) := ⟨fun ds F => call_oK h36 ds F, fun _ => rfl⟩
theorem m36 : M.mode 36 = 0 := rfl
noncomputable def cd36 : Code := match Go.Proofs.Try.f36.body with | some c => c | none => .skip
theorem pl36 : plT 36 = [] := rfl
/-! loop.example/smithy/impl.FoldGain -/
theorem h37 : Has M 37 (TreeMod × Unit) (Int) := ⟨fun _ => rfl, fun _ => rfl⟩
noncomputable def n37 (a0 : TreeMod) : Option (Int) := fnO M 37 (Int) (a0, ())
theorem c37 : (∀ {ρ : Type} (ds : List D) (F : D → Option ρ), ((lastR M).o 37 ds).bind F = (da (α := TreeMod × Unit) ds).bind (callN (fun x => n37 x.1) F)) ∧ ∀ aa, (envOf M aa).S 37 = some (.own ((lastR M).o 37)) := ⟨fun ds F => call_oK h37 ds F, fun _ => rfl⟩
theorem m37 : M.mode 37 = 0 := rfl
noncomputable def cd37 : Code := match Go.Proofs.Try.f37.body with | some c => c | none => .skip
theorem pl37 : plT 37 = [(3, [0, 2000])] := rfl
/-! loop.example/smithy/laws.eqTreeMod -/
theorem h38 : Has M 38 (TreeMod × TreeMod × Unit) (Bool) := ⟨fun _ => rfl, fun _ => rfl⟩
noncomputable def n38 (a0 : TreeMod) (a1 : TreeMod) : Option (Bool) := fnO M 38 (Bool) (a0, a1, ())
theorem c38 : (∀ {ρ : Type} (ds : List D) (F : D → Option ρ), ((lastR M).o 38 ds).bind F = (da (α := TreeMod × TreeMod × Unit) ds).bind (callN (fun x => n38 x.1 x.2.1) F)) ∧ ∀ aa, (envOf M aa).S 38 = some (.own ((lastR M).o 38)) := ⟨fun ds F => call_oK h38 ds F, fun _ => rfl⟩
theorem m38 : M.mode 38 = 0 := rfl
noncomputable def cd38 : Code := match Go.Proofs.Try.f38.body with | some c => c | none => .skip
theorem pl38 : plT 38 = [] := rfl
/-! loop.example/smithy/laws.szKeepRec -/
theorem h39 : Has M 39 (KeepRec × Int × Unit) (Int) := ⟨fun _ => rfl, fun _ => rfl⟩
noncomputable def n39 (a0 : KeepRec) (a1 : Int) : Option (Int) := fnO M 39 (Int) (a0, a1, ())
theorem c39 : (∀ {ρ : Type} (ds : List D) (F : D → Option ρ), ((lastR M).o 39 ds).bind F = (da (α := KeepRec × Int × Unit) ds).bind (callN (fun x => n39 x.1 x.2.1) F)) ∧ ∀ aa, (envOf M aa).S 39 = some (.own ((lastR M).o 39)) := ⟨fun ds F => call_oK h39 ds F, fun _ => rfl⟩
theorem m39 : M.mode 39 = 0 := rfl
noncomputable def cd39 : Code := match Go.Proofs.Try.f39.body with | some c => c | none => .skip
theorem pl39 : plT 39 = [] := rfl
/-! loop.example/smithy/spec.l13Copy -/
theorem h40 : Has M 40 (KeepRec × Unit) (KeepRec) := ⟨fun _ => rfl, fun _ => rfl⟩
noncomputable def n40 (a0 : KeepRec) : Option (KeepRec) := fnO M 40 (KeepRec) (a0, ())
theorem c40 : (∀ {ρ : Type} (ds : List D) (F : D → Option ρ), ((lastR M).o 40 ds).bind F = (da (α := KeepRec × Unit) ds).bind (callN (fun x => n40 x.1) F)) ∧ ∀ aa, (envOf M aa).S 40 = some (.own ((lastR M).o 40)) := ⟨fun ds F => call_oK h40 ds F, fun _ => rfl⟩
theorem m40 : M.mode 40 = 0 := rfl
noncomputable def cd40 : Code := match Go.Proofs.Try.f40.body with | some c => c | none => .skip
theorem pl40 : plT 40 = [] := rfl
/-! loop.example/smithy/laws.toKeepRec -/
theorem h41 : Has M 41 (KeepRec × Unit) (KeepRec) := ⟨fun _ => rfl, fun _ => rfl⟩
noncomputable def n41 (a0 : KeepRec) : Option (KeepRec) := fnO M 41 (KeepRec) (a0, ())
theorem c41 : (∀ {ρ : Type} (ds : List D) (F : D → Option ρ), ((lastR M).o 41 ds).bind F = (da (α := KeepRec × Unit) ds).bind (callN (fun x => n41 x.1) F)) ∧ ∀ aa, (envOf M aa).S 41 = some (.own ((lastR M).o 41)) := ⟨fun ds F => call_oK h41 ds F, fun _ => rfl⟩
theorem m41 : M.mode 41 = 0 := rfl
noncomputable def cd41 : Code := match Go.Proofs.Try.f41.body with | some c => c | none => .skip
theorem pl41 : plT 41 = [] := rfl
/-! loop.example/smithy/impl.trimmed -/
theorem h42 : Has M 42 ((List KeepRec) × Unit) ((List KeepRec)) := ⟨fun _ => rfl, fun _ => rfl⟩
noncomputable def n42 (a0 : (List KeepRec)) : Option ((List KeepRec)) := fnO M 42 ((List KeepRec)) (a0, ())
theorem c42 : (∀ {ρ : Type} (ds : List D) (F : D → Option ρ), ((lastR M).o 42 ds).bind F = (da (α := (List KeepRec) × Unit) ds).bind (callN (fun x => n42 x.1) F)) ∧ ∀ aa, (envOf M aa).S 42 = some (.own ((lastR M).o 42)) := ⟨fun ds F => call_oK h42 ds F, fun _ => rfl⟩
theorem m42 : M.mode 42 = 0 := rfl
noncomputable def cd42 : Code := match Go.Proofs.Try.f42.body with | some c => c | none => .skip
theorem pl42 : plT 42 = [] := rfl
theorem lv42_3 : lvT 42 3 = [0, 3, 4, 11, 12, 13] := rfl
theorem lv42_8 : lvT 42 8 = [3, 4, 23, 24, 25] := rfl
/-! loop.example/smithy/laws.eqKeepRec -/
theorem h43 : Has M 43 (KeepRec × KeepRec × Unit) (Bool) := ⟨fun _ => rfl, fun _ => rfl⟩
noncomputable def n43 (a0 : KeepRec) (a1 : KeepRec) : Option (Bool) := fnO M 43 (Bool) (a0, a1, ())
theorem c43 : (∀ {ρ : Type} (ds : List D) (F : D → Option ρ), ((lastR M).o 43 ds).bind F = (da (α := KeepRec × KeepRec × Unit) ds).bind (callN (fun x => n43 x.1 x.2.1) F)) ∧ ∀ aa, (envOf M aa).S 43 = some (.own ((lastR M).o 43)) := ⟨fun ds F => call_oK h43 ds F, fun _ => rfl⟩
theorem m43 : M.mode 43 = 0 := rfl
noncomputable def cd43 : Code := match Go.Proofs.Try.f43.body with | some c => c | none => .skip
theorem pl43 : plT 43 = [] := rfl
/-! loop.example/smithy/laws.markText -/
theorem h44 : Has M 44 (Int × Unit) (ByteArray) := ⟨fun _ => rfl, fun _ => rfl⟩
noncomputable def n44 (a0 : Int) : Option (ByteArray) := fnO M 44 (ByteArray) (a0, ())
theorem c44 : (∀ {ρ : Type} (ds : List D) (F : D → Option ρ), ((lastR M).o 44 ds).bind F = (da (α := Int × Unit) ds).bind (callN (fun x => n44 x.1) F)) ∧ ∀ aa, (envOf M aa).S 44 = some (.own ((lastR M).o 44)) := ⟨fun ds F => call_oK h44 ds F, fun _ => rfl⟩
theorem m44 : M.mode 44 = 0 := rfl
noncomputable def cd44 : Code := match Go.Proofs.Try.f44.body with | some c => c | none => .skip
theorem pl44 : plT 44 = [] := rfl
theorem lv44_4 : lvT 44 4 = [0, 3] := rfl
/-! loop.example/smithy/laws.markStringS -/
theorem h45 : Has M 45 ((List ByteArray) × Int × Unit) (Int × (List ByteArray)) := ⟨fun _ => rfl, fun _ => rfl⟩
noncomputable def n45 (a0 : (List ByteArray)) (a1 : Int) : Option (Int × (List ByteArray)) := fnI M 45 (Int) (a0, a1, ())
theorem c45 : (∀ {ρ : Type} (x : D) (ds : List D) (F : D × D → Option ρ), ((lastR M).i 45 x ds).bind F = (da (α := (List ByteArray) × Int × Unit) (x :: ds)).bind (callI (fun x => n45 x.1 x.2.1) F)) ∧ ∀ aa, (envOf M aa).S 45 = some (.io ((lastR M).i 45)) := ⟨fun x ds F => call_iK h45 x ds F, fun _ => rfl⟩
theorem m45 : M.mode 45 = 2 := rfl
noncomputable def cd45 : Code := match Go.Proofs.Try.f45.body with | some c => c | none => .skip
theorem pl45 : plT 45 = [] := rfl
theorem lv45_2 : lvT 45 2 = [0, 1, 5] := rfl
/-! loop.example/smithy/laws.heldStringS -/
theorem h46 : Has M 46 ((List ByteArray) × Int × Unit) (Int) := ⟨fun _ => rfl, fun _ => rfl⟩
noncomputable def n46 (a0 : (List ByteArray)) (a1 : Int) : Option (Int) := fnO M 46 (Int) (a0, a1, ())
theorem c46 : (∀ {ρ : Type} (ds : List D) (F : D → Option ρ), ((lastR M).o 46 ds).bind F = (da (α := (List ByteArray) × Int × Unit) ds).bind (callN (fun x => n46 x.1 x.2.1) F)) ∧ ∀ aa, (envOf M aa).S 46 = some (.own ((lastR M).o 46)) := ⟨fun ds F => call_oK h46 ds F, fun _ => rfl⟩
theorem m46 : M.mode 46 = 0 := rfl
noncomputable def cd46 : Code := match Go.Proofs.Try.f46.body with | some c => c | none => .skip
theorem pl46 : plT 46 = [] := rfl
theorem lv46_2 : lvT 46 2 = [0, 1, 5] := rfl
/-! loop.example/smithy/laws.szLinkFunS -/
theorem h47 : Has M 47 ((List LinkFun) × Int × Unit) (Int) := ⟨fun _ => rfl, fun _ => rfl⟩
noncomputable def n47 (a0 : (List LinkFun)) (a1 : Int) : Option (Int) := fnO M 47 (Int) (a0, a1, ())
theorem c47 : (∀ {ρ : Type} (ds : List D) (F : D → Option ρ), ((lastR M).o 47 ds).bind F = (da (α := (List LinkFun) × Int × Unit) ds).bind (callN (fun x => n47 x.1 x.2.1) F)) ∧ ∀ aa, (envOf M aa).S 47 = some (.own ((lastR M).o 47)) := ⟨fun ds F => call_oK h47 ds F, fun _ => rfl⟩
theorem m47 : M.mode 47 = 0 := rfl
noncomputable def cd47 : Code := match Go.Proofs.Try.f47.body with | some c => c | none => .skip
theorem pl47 : plT 47 = [] := rfl
theorem lv47_5 : lvT 47 5 = [0, 1, 5] := rfl
/-! loop.example/smithy/laws.szIntS -/
theorem h48 : Has M 48 ((List Int) × Int × Unit) (Int) := ⟨fun _ => rfl, fun _ => rfl⟩
noncomputable def n48 (a0 : (List Int)) (a1 : Int) : Option (Int) := fnO M 48 (Int) (a0, a1, ())
theorem c48 : (∀ {ρ : Type} (ds : List D) (F : D → Option ρ), ((lastR M).o 48 ds).bind F = (da (α := (List Int) × Int × Unit) ds).bind (callN (fun x => n48 x.1 x.2.1) F)) ∧ ∀ aa, (envOf M aa).S 48 = some (.own ((lastR M).o 48)) := ⟨fun ds F => call_oK h48 ds F, fun _ => rfl⟩
theorem m48 : M.mode 48 = 0 := rfl
noncomputable def cd48 : Code := match Go.Proofs.Try.f48.body with | some c => c | none => .skip
theorem pl48 : plT 48 = [] := rfl
/-! loop.example/smithy/spec.l9Ok -/
theorem h49 : Has M 49 (LinkImage × Unit) (Bool) := ⟨fun _ => rfl, fun _ => rfl⟩
noncomputable def n49 (a0 : LinkImage) : Option (Bool) := fnO M 49 (Bool) (a0, ())
theorem c49 : (∀ {ρ : Type} (ds : List D) (F : D → Option ρ), ((lastR M).o 49 ds).bind F = (da (α := LinkImage × Unit) ds).bind (callN (fun x => n49 x.1) F)) ∧ ∀ aa, (envOf M aa).S 49 = some (.own ((lastR M).o 49)) := ⟨fun ds F => call_oK h49 ds F, fun _ => rfl⟩
theorem m49 : M.mode 49 = 0 := rfl
noncomputable def cd49 : Code := match Go.Proofs.Try.f49.body with | some c => c | none => .skip
theorem pl49 : plT 49 = [] := rfl
theorem lv49_5 : lvT 49 5 = [1, 3, 4] := rfl
theorem lv49_12 : lvT 49 12 = [1, 6] := rfl
/-! loop.example/smithy/spec.l19Reach -/
theorem h50 : Has M 50 (LinkImage × Unit) ((List Bool)) := ⟨fun _ => rfl, fun _ => rfl⟩
noncomputable def n50 (a0 : LinkImage) : Option ((List Bool)) := fnO M 50 ((List Bool)) (a0, ())
theorem c50 : (∀ {ρ : Type} (ds : List D) (F : D → Option ρ), ((lastR M).o 50 ds).bind F = (da (α := LinkImage × Unit) ds).bind (callN (fun x => n50 x.1) F)) ∧ ∀ aa, (envOf M aa).S 50 = some (.own ((lastR M).o 50)) := ⟨fun ds F => call_oK h50 ds F, fun _ => rfl⟩
theorem m50 : M.mode 50 = 0 := rfl
noncomputable def cd50 : Code := match Go.Proofs.Try.f50.body with | some c => c | none => .skip
theorem pl50 : plT 50 = [] := rfl
theorem lv50_3 : lvT 50 3 = [1, 3, 4] := rfl
theorem lv50_7 : lvT 50 7 = [1, 3, 5] := rfl
theorem lv50_10 : lvT 50 10 = [1, 3, 5, 6] := rfl
theorem lv50_13 : lvT 50 13 = [1, 3, 5, 6, 7] := rfl
/-! loop.example/smithy/laws.toLinkFunS -/
theorem h51 : Has M 51 ((List LinkFun) × Unit) ((List LinkFun)) := ⟨fun _ => rfl, fun _ => rfl⟩
noncomputable def n51 (a0 : (List LinkFun)) : Option ((List LinkFun)) := fnO M 51 ((List LinkFun)) (a0, ())
theorem c51 : (∀ {ρ : Type} (ds : List D) (F : D → Option ρ), ((lastR M).o 51 ds).bind F = (da (α := (List LinkFun) × Unit) ds).bind (callN (fun x => n51 x.1) F)) ∧ ∀ aa, (envOf M aa).S 51 = some (.own ((lastR M).o 51)) := ⟨fun ds F => call_oK h51 ds F, fun _ => rfl⟩
theorem m51 : M.mode 51 = 0 := rfl
noncomputable def cd51 : Code := match Go.Proofs.Try.f51.body with | some c => c | none => .skip
theorem pl51 : plT 51 = [] := rfl
theorem lv51_3 : lvT 51 3 = [0, 3, 4] := rfl
/-! loop.example/smithy/laws.toIntS -/
theorem h52 : Has M 52 ((List Int) × Unit) ((List Int)) := ⟨fun _ => rfl, fun _ => rfl⟩
noncomputable def n52 (a0 : (List Int)) : Option ((List Int)) := fnO M 52 ((List Int)) (a0, ())
theorem c52 : (∀ {ρ : Type} (ds : List D) (F : D → Option ρ), ((lastR M).o 52 ds).bind F = (da (α := (List Int) × Unit) ds).bind (callN (fun x => n52 x.1) F)) ∧ ∀ aa, (envOf M aa).S 52 = some (.own ((lastR M).o 52)) := ⟨fun ds F => call_oK h52 ds F, fun _ => rfl⟩
theorem m52 : M.mode 52 = 0 := rfl
noncomputable def cd52 : Code := match Go.Proofs.Try.f52.body with | some c => c | none => .skip
theorem pl52 : plT 52 = [] := rfl
theorem lv52_3 : lvT 52 3 = [0, 3, 4] := rfl
/-! loop.example/smithy/impl.imageOk -/
theorem h53 : Has M 53 (LinkImage × Unit) (Bool) := ⟨fun _ => rfl, fun _ => rfl⟩
noncomputable def n53 (a0 : LinkImage) : Option (Bool) := fnO M 53 (Bool) (a0, ())
theorem c53 : (∀ {ρ : Type} (ds : List D) (F : D → Option ρ), ((lastR M).o 53 ds).bind F = (da (α := LinkImage × Unit) ds).bind (callN (fun x => n53 x.1) F)) ∧ ∀ aa, (envOf M aa).S 53 = some (.own ((lastR M).o 53)) := ⟨fun ds F => call_oK h53 ds F, fun _ => rfl⟩
theorem m53 : M.mode 53 = 0 := rfl
noncomputable def cd53 : Code := match Go.Proofs.Try.f53.body with | some c => c | none => .skip
theorem pl53 : plT 53 = [] := rfl
theorem lv53_3 : lvT 53 3 = [1, 3, 7, 8, 9] := rfl
/-! loop.example/smithy/impl.reached -/
theorem h54 : Has M 54 (LinkImage × Unit) ((List Int)) := ⟨fun _ => rfl, fun _ => rfl⟩
noncomputable def n54 (a0 : LinkImage) : Option ((List Int)) := fnO M 54 ((List Int)) (a0, ())
theorem c54 : (∀ {ρ : Type} (ds : List D) (F : D → Option ρ), ((lastR M).o 54 ds).bind F = (da (α := LinkImage × Unit) ds).bind (callN (fun x => n54 x.1) F)) ∧ ∀ aa, (envOf M aa).S 54 = some (.own ((lastR M).o 54)) := ⟨fun ds F => call_oK h54 ds F, fun _ => rfl⟩
theorem m54 : M.mode 54 = 0 := rfl
noncomputable def cd54 : Code := match Go.Proofs.Try.f54.body with | some c => c | none => .skip
theorem pl54 : plT 54 = [] := rfl
theorem lv54_3 : lvT 54 3 = [1, 3, 4] := rfl
theorem lv54_9 : lvT 54 9 = [1, 3, 4, 38, 39, 40] := rfl
theorem lv54_16 : lvT 54 16 = [8, 62, 63, 64] := rfl
/-! loop.example/smithy/laws.eqLinkFunS -/
theorem h55 : Has M 55 ((List LinkFun) × (List LinkFun) × Unit) (Bool) := ⟨fun _ => rfl, fun _ => rfl⟩
noncomputable def n55 (a0 : (List LinkFun)) (a1 : (List LinkFun)) : Option (Bool) := fnO M 55 (Bool) (a0, a1, ())
theorem c55 : (∀ {ρ : Type} (ds : List D) (F : D → Option ρ), ((lastR M).o 55 ds).bind F = (da (α := (List LinkFun) × (List LinkFun) × Unit) ds).bind (callN (fun x => n55 x.1 x.2.1) F)) ∧ ∀ aa, (envOf M aa).S 55 = some (.own ((lastR M).o 55)) := ⟨fun ds F => call_oK h55 ds F, fun _ => rfl⟩
theorem m55 : M.mode 55 = 0 := rfl
noncomputable def cd55 : Code := match Go.Proofs.Try.f55.body with | some c => c | none => .skip
theorem pl55 : plT 55 = [] := rfl
theorem lv55_4 : lvT 55 4 = [0, 1, 5] := rfl
/-! loop.example/smithy/laws.markLinkFunS -/
theorem h56 : Has M 56 ((List LinkFun) × Int × Unit) (Int × (List LinkFun)) := ⟨fun _ => rfl, fun _ => rfl⟩
noncomputable def n56 (a0 : (List LinkFun)) (a1 : Int) : Option (Int × (List LinkFun)) := fnI M 56 (Int) (a0, a1, ())
theorem c56 : (∀ {ρ : Type} (x : D) (ds : List D) (F : D × D → Option ρ), ((lastR M).i 56 x ds).bind F = (da (α := (List LinkFun) × Int × Unit) (x :: ds)).bind (callI (fun x => n56 x.1 x.2.1) F)) ∧ ∀ aa, (envOf M aa).S 56 = some (.io ((lastR M).i 56)) := ⟨fun x ds F => call_iK h56 x ds F, fun _ => rfl⟩
theorem m56 : M.mode 56 = 2 := rfl
noncomputable def cd56 : Code := match Go.Proofs.Try.f56.body with | some c => c | none => .skip
theorem pl56 : plT 56 = [] := rfl
theorem lv56_2 : lvT 56 2 = [0, 1, 5] := rfl
/-! loop.example/smithy/spec.l19Place -/
theorem h57 : Has M 57 ((List Int) × Int × Unit) (Int) := ⟨fun _ => rfl, fun _ => rfl⟩
noncomputable def n57 (a0 : (List Int)) (a1 : Int) : Option (Int) := fnO M 57 (Int) (a0, a1, ())
theorem c57 : (∀ {ρ : Type} (ds : List D) (F : D → Option ρ), ((lastR M).o 57 ds).bind F = (da (α := (List Int) × Int × Unit) ds).bind (callN (fun x => n57 x.1 x.2.1) F)) ∧ ∀ aa, (envOf M aa).S 57 = some (.own ((lastR M).o 57)) := ⟨fun ds F => call_oK h57 ds F, fun _ => rfl⟩
theorem m57 : M.mode 57 = 0 := rfl
noncomputable def cd57 : Code := match Go.Proofs.Try.f57.body with | some c => c | none => .skip
theorem pl57 : plT 57 = [] := rfl
theorem lv57_2 : lvT 57 2 = [0, 1, 5] := rfl
/-! loop.example/smithy/impl.cloneImage -/
theorem h58 : Has M 58 (LinkImage × Unit) (LinkImage) := ⟨fun _ => rfl, fun _ => rfl⟩
noncomputable def n58 (a0 : LinkImage) : Option (LinkImage) := fnO M 58 (LinkImage) (a0, ())
theorem c58 : (∀ {ρ : Type} (ds : List D) (F : D → Option ρ), ((lastR M).o 58 ds).bind F = (da (α := LinkImage × Unit) ds).bind (callN (fun x => n58 x.1) F)) ∧ ∀ aa, (envOf M aa).S 58 = some (.own ((lastR M).o 58)) := ⟨fun ds F => call_oK h58 ds F, fun _ => rfl⟩
theorem m58 : M.mode 58 = 0 := rfl
noncomputable def cd58 : Code := match Go.Proofs.Try.f58.body with | some c => c | none => .skip
theorem pl58 : plT 58 = [(5, [0, 3000, 4000, 6003])] := rfl
theorem lv58_3 : lvT 58 3 = [2, 3, 11, 12, 13] := rfl
/-! loop.example/smithy/impl.isPlace -/
theorem h59 : Has M 59 (Int × Int × Unit) (Bool) := ⟨fun _ => rfl, fun _ => rfl⟩
noncomputable def n59 (a0 : Int) (a1 : Int) : Option (Bool) := fnO M 59 (Bool) (a0, a1, ())
theorem c59 : (∀ {ρ : Type} (ds : List D) (F : D → Option ρ), ((lastR M).o 59 ds).bind F = (da (α := Int × Int × Unit) ds).bind (callN (fun x => n59 x.1 x.2.1) F)) ∧ ∀ aa, (envOf M aa).S 59 = some (.own ((lastR M).o 59)) := ⟨fun ds F => call_oK h59 ds F, fun _ => rfl⟩
theorem m59 : M.mode 59 = 0 := rfl
noncomputable def cd59 : Code := match Go.Proofs.Try.f59.body with | some c => c | none => .skip
theorem pl59 : plT 59 = [] := rfl
/-! slices.Index[[]int,int] -/
theorem h60 : Has M 60 ((List Int) × Int × Unit) (Int) := ⟨fun _ => rfl, fun _ => rfl⟩
noncomputable def n60 (a0 : (List Int)) (a1 : Int) : Option (Int) := fnO M 60 (Int) (a0, a1, ())
theorem c60 : (∀ {ρ : Type} (ds : List D) (F : D → Option ρ), ((lastR M).o 60 ds).bind F = (da (α := (List Int) × Int × Unit) ds).bind (callN (fun x => n60 x.1 x.2.1) F)) ∧ ∀ aa, (envOf M aa).S 60 = some (.own ((lastR M).o 60)) := ⟨fun ds F => call_oK h60 ds F, fun _ => rfl⟩
theorem m60 : M.mode 60 = 0 := rfl
noncomputable def cd60 : Code := match Go.Proofs.Try.f60.body with | some c => c | none => .skip
theorem pl60 : plT 60 = [] := rfl
theorem lv60_2 : lvT 60 2 = [0, 1, 7, 8] := rfl
/-! loop.example/smithy/laws.heldLinkFunS -/
theorem h61 : Has M 61 ((List LinkFun) × Int × Unit) (Int) := ⟨fun _ => rfl, fun _ => rfl⟩
noncomputable def n61 (a0 : (List LinkFun)) (a1 : Int) : Option (Int) := fnO M 61 (Int) (a0, a1, ())
theorem c61 : (∀ {ρ : Type} (ds : List D) (F : D → Option ρ), ((lastR M).o 61 ds).bind F = (da (α := (List LinkFun) × Int × Unit) ds).bind (callN (fun x => n61 x.1 x.2.1) F)) ∧ ∀ aa, (envOf M aa).S 61 = some (.own ((lastR M).o 61)) := ⟨fun ds F => call_oK h61 ds F, fun _ => rfl⟩
theorem m61 : M.mode 61 = 0 := rfl
noncomputable def cd61 : Code := match Go.Proofs.Try.f61.body with | some c => c | none => .skip
theorem pl61 : plT 61 = [] := rfl
theorem lv61_2 : lvT 61 2 = [0, 1, 5] := rfl
/-! loop.example/smithy/laws.szTreeExprS -/
theorem h62 : Has M 62 ((List TreeExpr) × Int × Unit) (Int) := ⟨fun _ => rfl, fun _ => rfl⟩
noncomputable def n62 (a0 : (List TreeExpr)) (a1 : Int) : Option (Int) := fnO M 62 (Int) (a0, a1, ())
theorem c62 : (∀ {ρ : Type} (ds : List D) (F : D → Option ρ), ((lastR M).o 62 ds).bind F = (da (α := (List TreeExpr) × Int × Unit) ds).bind (callN (fun x => n62 x.1 x.2.1) F)) ∧ ∀ aa, (envOf M aa).S 62 = some (.own ((lastR M).o 62)) := ⟨fun ds F => call_oK h62 ds F, fun _ => rfl⟩
theorem m62 : M.mode 62 = 0 := rfl
noncomputable def cd62 : Code := match Go.Proofs.Try.f62.body with | some c => c | none => .skip
theorem pl62 : plT 62 = [] := rfl
theorem lv62_5 : lvT 62 5 = [0, 1, 5] := rfl
/-! loop.example/smithy/spec.l4Fits -/
theorem h63 : Has M 63 (TreeExpr × Unit) (Bool) := ⟨fun _ => rfl, fun _ => rfl⟩
noncomputable def n63 (a0 : TreeExpr) : Option (Bool) := fnO M 63 (Bool) (a0, ())
theorem c63 : (∀ {ρ : Type} (ds : List D) (F : D → Option ρ), ((lastR M).o 63 ds).bind F = (da (α := TreeExpr × Unit) ds).bind (callN (fun x => n63 x.1) F)) ∧ ∀ aa, (envOf M aa).S 63 = some (.own ((lastR M).o 63)) := ⟨fun ds F => call_oK h63 ds F, fun _ => rfl⟩
theorem m63 : M.mode 63 = 0 := rfl
noncomputable def cd63 : Code := match Go.Proofs.Try.f63.body with | some c => c | none => .skip
theorem pl63 : plT 63 = [] := rfl
/-! loop.example/smithy/spec.l18Fold -/
theorem h64 : Has M 64 (TreeExpr × Unit) (TreeExpr) := ⟨fun _ => rfl, fun _ => rfl⟩
noncomputable def n64 (a0 : TreeExpr) : Option (TreeExpr) := fnO M 64 (TreeExpr) (a0, ())
theorem c64 : (∀ {ρ : Type} (ds : List D) (F : D → Option ρ), ((lastR M).o 64 ds).bind F = (da (α := TreeExpr × Unit) ds).bind (callN (fun x => n64 x.1) F)) ∧ ∀ aa, (envOf M aa).S 64 = some (.own ((lastR M).o 64)) := ⟨fun ds F => call_oK h64 ds F, fun _ => rfl⟩
theorem m64 : M.mode 64 = 4 := rfl
noncomputable def cd64 : Code := match Go.Proofs.Try.f64.body with | some c => c | none => .skip
theorem pl64 : plT 64 = [] := rfl
theorem lv64_3 : lvT 64 3 = [1, 2, 3, 4] := rfl
/-! loop.example/smithy/laws.toTreeExprS -/
theorem h65 : Has M 65 ((List TreeExpr) × Unit) ((List TreeExpr)) := ⟨fun _ => rfl, fun _ => rfl⟩
noncomputable def n65 (a0 : (List TreeExpr)) : Option ((List TreeExpr)) := fnO M 65 ((List TreeExpr)) (a0, ())
theorem c65 : (∀ {ρ : Type} (ds : List D) (F : D → Option ρ), ((lastR M).o 65 ds).bind F = (da (α := (List TreeExpr) × Unit) ds).bind (callN (fun x => n65 x.1) F)) ∧ ∀ aa, (envOf M aa).S 65 = some (.own ((lastR M).o 65)) := ⟨fun ds F => call_oK h65 ds F, fun _ => rfl⟩
theorem m65 : M.mode 65 = 0 := rfl
noncomputable def cd65 : Code := match Go.Proofs.Try.f65.body with | some c => c | none => .skip
theorem pl65 : plT 65 = [] := rfl
theorem lv65_3 : lvT 65 3 = [0, 3, 4] := rfl
/-! loop.example/smithy/impl.exprOk -/
theorem h66 : Has M 66 (TreeExpr × Unit) (Bool) := ⟨fun _ => rfl, fun _ => rfl⟩
noncomputable def n66 (a0 : TreeExpr) : Option (Bool) := fnO M 66 (Bool) (a0, ())
theorem c66 : (∀ {ρ : Type} (ds : List D) (F : D → Option ρ), ((lastR M).o 66 ds).bind F = (da (α := TreeExpr × Unit) ds).bind (callN (fun x => n66 x.1) F)) ∧ ∀ aa, (envOf M aa).S 66 = some (.own ((lastR M).o 66)) := ⟨fun ds F => call_oK h66 ds F, fun _ => rfl⟩
theorem m66 : M.mode 66 = 0 := rfl
noncomputable def cd66 : Code := match Go.Proofs.Try.f66.body with | some c => c | none => .skip
theorem pl66 : plT 66 = [] := rfl
/-! loop.example/smithy/impl.fold -/
theorem h67 : Has M 67 (TreeExpr × Unit) (TreeExpr) := ⟨fun _ => rfl, fun _ => rfl⟩
noncomputable def n67 (a0 : TreeExpr) : Option (TreeExpr) := fnO M 67 (TreeExpr) (a0, ())
theorem c67 : (∀ {ρ : Type} (ds : List D) (F : D → Option ρ), ((lastR M).o 67 ds).bind F = (da (α := TreeExpr × Unit) ds).bind (callN (fun x => n67 x.1) F)) ∧ ∀ aa, (envOf M aa).S 67 = some (.own ((lastR M).o 67)) := ⟨fun ds F => call_oK h67 ds F, fun _ => rfl⟩
theorem m67 : M.mode 67 = 0 := rfl
noncomputable def cd67 : Code := match Go.Proofs.Try.f67.body with | some c => c | none => .skip
theorem pl67 : plT 67 = [(5, [0, 4, 5, 1004, 1005])] := rfl
theorem lv67_3 : lvT 67 3 = [2, 3, 16, 17, 18] := rfl
/-! loop.example/smithy/laws.eqTreeExprS -/
theorem h68 : Has M 68 ((List TreeExpr) × (List TreeExpr) × Unit) (Bool) := ⟨fun _ => rfl, fun _ => rfl⟩
noncomputable def n68 (a0 : (List TreeExpr)) (a1 : (List TreeExpr)) : Option (Bool) := fnO M 68 (Bool) (a0, a1, ())
theorem c68 : (∀ {ρ : Type} (ds : List D) (F : D → Option ρ), ((lastR M).o 68 ds).bind F = (da (α := (List TreeExpr) × (List TreeExpr) × Unit) ds).bind (callN (fun x => n68 x.1 x.2.1) F)) ∧ ∀ aa, (envOf M aa).S 68 = some (.own ((lastR M).o 68)) := ⟨fun ds F => call_oK h68 ds F, fun _ => rfl⟩
theorem m68 : M.mode 68 = 0 := rfl
noncomputable def cd68 : Code := match Go.Proofs.Try.f68.body with | some c => c | none => .skip
theorem pl68 : plT 68 = [] := rfl
theorem lv68_4 : lvT 68 4 = [0, 1, 5] := rfl
/-! loop.example/smithy/laws.markTreeExprS -/
theorem h69 : Has M 69 ((List TreeExpr) × Int × Unit) (Int × (List TreeExpr)) := ⟨fun _ => rfl, fun _ => rfl⟩
noncomputable def n69 (a0 : (List TreeExpr)) (a1 : Int) : Option (Int × (List TreeExpr)) := fnI M 69 (Int) (a0, a1, ())
theorem c69 : (∀ {ρ : Type} (x : D) (ds : List D) (F : D × D → Option ρ), ((lastR M).i 69 x ds).bind F = (da (α := (List TreeExpr) × Int × Unit) (x :: ds)).bind (callI (fun x => n69 x.1 x.2.1) F)) ∧ ∀ aa, (envOf M aa).S 69 = some (.io ((lastR M).i 69)) := ⟨fun x ds F => call_iK h69 x ds F, fun _ => rfl⟩
theorem m69 : M.mode 69 = 2 := rfl
noncomputable def cd69 : Code := match Go.Proofs.Try.f69.body with | some c => c | none => .skip
theorem pl69 : plT 69 = [] := rfl
theorem lv69_2 : lvT 69 2 = [0, 1, 5] := rfl
/-! loop.example/smithy/laws.heldTreeExprS -/
theorem h70 : Has M 70 ((List TreeExpr) × Int × Unit) (Int) := ⟨fun _ => rfl, fun _ => rfl⟩
noncomputable def n70 (a0 : (List TreeExpr)) (a1 : Int) : Option (Int) := fnO M 70 (Int) (a0, a1, ())
theorem c70 : (∀ {ρ : Type} (ds : List D) (F : D → Option ρ), ((lastR M).o 70 ds).bind F = (da (α := (List TreeExpr) × Int × Unit) ds).bind (callN (fun x => n70 x.1 x.2.1) F)) ∧ ∀ aa, (envOf M aa).S 70 = some (.own ((lastR M).o 70)) := ⟨fun ds F => call_oK h70 ds F, fun _ => rfl⟩
theorem m70 : M.mode 70 = 0 := rfl
noncomputable def cd70 : Code := match Go.Proofs.Try.f70.body with | some c => c | none => .skip
theorem pl70 : plT 70 = [] := rfl
theorem lv70_2 : lvT 70 2 = [0, 1, 5] := rfl
/-! loop.example/smithy/laws.szStringS -/
theorem h71 : Has M 71 ((List ByteArray) × Int × Unit) (Int) := ⟨fun _ => rfl, fun _ => rfl⟩
noncomputable def n71 (a0 : (List ByteArray)) (a1 : Int) : Option (Int) := fnO M 71 (Int) (a0, a1, ())
theorem c71 : (∀ {ρ : Type} (ds : List D) (F : D → Option ρ), ((lastR M).o 71 ds).bind F = (da (α := (List ByteArray) × Int × Unit) ds).bind (callN (fun x => n71 x.1 x.2.1) F)) ∧ ∀ aa, (envOf M aa).S 71 = some (.own ((lastR M).o 71)) := ⟨fun ds F => call_oK h71 ds F, fun _ => rfl⟩
theorem m71 : M.mode 71 = 0 := rfl
noncomputable def cd71 : Code := match Go.Proofs.Try.f71.body with | some c => c | none => .skip
theorem pl71 : plT 71 = [] := rfl
theorem lv71_5 : lvT 71 5 = [0, 1, 5] := rfl
/-! loop.example/smithy/laws.szTreeFunS -/
theorem h72 : Has M 72 ((List TreeFun) × Int × Unit) (Int) := ⟨fun _ => rfl, fun _ => rfl⟩
noncomputable def n72 (a0 : (List TreeFun)) (a1 : Int) : Option (Int) := fnO M 72 (Int) (a0, a1, ())
theorem c72 : (∀ {ρ : Type} (ds : List D) (F : D → Option ρ), ((lastR M).o 72 ds).bind F = (da (α := (List TreeFun) × Int × Unit) ds).bind (callN (fun x => n72 x.1 x.2.1) F)) ∧ ∀ aa, (envOf M aa).S 72 = some (.own ((lastR M).o 72)) := ⟨fun ds F => call_oK h72 ds F, fun _ => rfl⟩
theorem m72 : M.mode 72 = 0 := rfl
noncomputable def cd72 : Code := match Go.Proofs.Try.f72.body with | some c => c | none => .skip
theorem pl72 : plT 72 = [] := rfl
theorem lv72_5 : lvT 72 5 = [0, 1, 5] := rfl
/-! loop.example/smithy/spec.TreeOk -/
theorem h73 : Has M 73 (TreeMod × Unit) (Bool) := ⟨fun _ => rfl, fun _ => rfl⟩
noncomputable def n73 (a0 : TreeMod) : Option (Bool) := fnO M 73 (Bool) (a0, ())
theorem c73 : (∀ {ρ : Type} (ds : List D) (F : D → Option ρ), ((lastR M).o 73 ds).bind F = (da (α := TreeMod × Unit) ds).bind (callN (fun x => n73 x.1) F)) ∧ ∀ aa, (envOf M aa).S 73 = some (.own ((lastR M).o 73)) := ⟨fun ds F => call_oK h73 ds F, fun _ => rfl⟩
theorem m73 : M.mode 73 = 0 := rfl
noncomputable def cd73 : Code := match Go.Proofs.Try.f73.body with | some c => c | none => .skip
theorem pl73 : plT 73 = [] := rfl
theorem lv73_5 : lvT 73 5 = [1, 3, 4] := rfl
/-! loop.example/smithy/spec.l18Size -/
theorem h74 : Has M 74 (TreeMod × Unit) (Int) := ⟨fun _ => rfl, fun _ => rfl⟩
noncomputable def n74 (a0 : TreeMod) : Option (Int) := fnO M 74 (Int) (a0, ())
theorem c74 : (∀ {ρ : Type} (ds : List D) (F : D → Option ρ), ((lastR M).o 74 ds).bind F = (da (α := TreeMod × Unit) ds).bind (callN (fun x => n74 x.1) F)) ∧ ∀ aa, (envOf M aa).S 74 = some (.own ((lastR M).o 74)) := ⟨fun ds F => call_oK h74 ds F, fun _ => rfl⟩
theorem m74 : M.mode 74 = 0 := rfl
noncomputable def cd74 : Code := match Go.Proofs.Try.f74.body with | some c => c | none => .skip
theorem pl74 : plT 74 = [] := rfl
theorem lv74_3 : lvT 74 3 = [1, 3, 4] := rfl
theorem lv74_8 : lvT 74 8 = [1, 3, 7] := rfl
/-! loop.example/smithy/spec.FoldMod -/
theorem h75 : Has M 75 (TreeMod × Unit) (TreeMod) := ⟨fun _ => rfl, fun _ => rfl⟩
noncomputable def n75 (a0 : TreeMod) : Option (TreeMod) := fnO M 75 (TreeMod) (a0, ())
theorem c75 : (∀ {ρ : Type} (ds : List D) (F : D → Option ρ), ((lastR M).o 75 ds).bind F = (da (α := TreeMod × Unit) ds).bind (callN (fun x => n75 x.1) F)) ∧ ∀ aa, (envOf M aa).S 75 = some (.own ((lastR M).o 75)) := ⟨fun ds F => call_oK h75 ds F, fun _ => rfl⟩
theorem m75 : M.mode 75 = 0 := rfl
noncomputable def cd75 : Code := match Go.Proofs.Try.f75.body with | some c => c | none => .skip
theorem pl75 : plT 75 = [(14, [0, 8, 9, 1008, 1009])] := rfl
theorem lv75_5 : lvT 75 5 = [1, 2, 3, 4] := rfl
theorem lv75_12 : lvT 75 12 = [1, 2, 3, 6] := rfl
/-! loop.example/smithy/laws.toStringS -/
theorem h76 : Has M 76 ((List ByteArray) × Unit) ((List ByteArray)) := ⟨fun _ => rfl, fun _ => rfl⟩
noncomputable def n76 (a0 : (List ByteArray)) : Option ((List ByteArray)) := fnO M 76 ((List ByteArray)) (a0, ())
theorem c76 : (∀ {ρ : Type} (ds : List D) (F : D → Option ρ), ((lastR M).o 76 ds).bind F = (da (α := (List ByteArray) × Unit) ds).bind (callN (fun x => n76 x.1) F)) ∧ ∀ aa, (envOf M aa).S 76 = some (.own ((lastR M).o 76)) := ⟨fun ds F => call_oK h76 ds F, fun _ => rfl⟩
theorem m76 : M.mode 76 = 0 := rfl
noncomputable def cd76 : Code := match Go.Proofs.Try.f76.body with | some c => c | none => .skip
theorem pl76 : plT 76 = [] := rfl
theorem lv76_3 : lvT 76 3 = [0, 3, 4] := rfl
/-! loop.example/smithy/laws.toTreeFunS -/
theorem h77 : Has M 77 ((List TreeFun) × Unit) ((List TreeFun)) := ⟨fun _ => rfl, fun _ => rfl⟩
noncomputable def n77 (a0 : (List TreeFun)) : Option ((List TreeFun)) := fnO M 77 ((List TreeFun)) (a0, ())
theorem c77 : (∀ {ρ : Type} (ds : List D) (F : D → Option ρ), ((lastR M).o 77 ds).bind F = (da (α := (List TreeFun) × Unit) ds).bind (callN (fun x => n77 x.1) F)) ∧ ∀ aa, (envOf M aa).S 77 = some (.own ((lastR M).o 77)) := ⟨fun ds F => call_oK h77 ds F, fun _ => rfl⟩
theorem m77 : M.mode 77 = 0 := rfl
noncomputable def cd77 : Code := match Go.Proofs.Try.f77.body with | some c => c | none => .skip
theorem pl77 : plT 77 = [] := rfl
theorem lv77_3 : lvT 77 3 = [0, 3, 4] := rfl
/-! loop.example/smithy/impl.TreeOk -/
theorem h78 : Has M 78 (TreeMod × Unit) (Bool) := ⟨fun _ => rfl, fun _ => rfl⟩
noncomputable def n78 (a0 : TreeMod) : Option (Bool) := fnO M 78 (Bool) (a0, ())
theorem c78 : (∀ {ρ : Type} (ds : List D) (F : D → Option ρ), ((lastR M).o 78 ds).bind F = (da (α := TreeMod × Unit) ds).bind (callN (fun x => n78 x.1) F)) ∧ ∀ aa, (envOf M aa).S 78 = some (.own ((lastR M).o 78)) := ⟨fun ds F => call_oK h78 ds F, fun _ => rfl⟩
theorem m78 : M.mode 78 = 0 := rfl
noncomputable def cd78 : Code := match Go.Proofs.Try.f78.body with | some c => c | none => .skip
theorem pl78 : plT 78 = [] := rfl
theorem lv78_5 : lvT 78 5 = [1, 3, 4, 35, 36, 37] := rfl
theorem lv78_12 : lvT 78 12 = [3, 4, 70, 71, 72] := rfl
/-! (loop.example/smithy/impl.TreeMod).size -/
theorem h79 : Has M 79 (TreeMod × Unit) (Int) := ⟨fun _ => rfl, fun _ => rfl⟩
noncomputable def n79 (a0 : TreeMod) : Option (Int) := fnO M 79 (Int) (a0, ())
theorem c79 : (∀ {ρ : Type} (ds : List D) (F : D → Option ρ), ((lastR M).o 79 ds).bind F = (da (α := TreeMod × Unit) ds).bind (callN (fun x => n79 x.1) F)) ∧ ∀ aa, (envOf M aa).S 79 = some (.own ((lastR M).o 79)) := ⟨fun ds F => call_oK h79 ds F, fun _ => rfl⟩
theorem m79 : M.mode 79 = 0 := rfl
noncomputable def cd79 : Code := match Go.Proofs.Try.f79.body with | some c => c | none => .skip
theorem pl79 : plT 79 = [] := rfl
theorem lv79_3 : lvT 79 3 = [3, 9, 10, 11] := rfl
/-! loop.example/smithy/impl.FoldMod -/
theorem h80 : Has M 80 (TreeMod × Unit) (TreeMod) := ⟨fun _ => rfl, fun _ => rfl⟩
noncomputable def n80 (a0 : TreeMod) : Option (TreeMod) := fnO M 80 (TreeMod) (a0, ())
theorem c80 : (∀ {ρ : Type} (ds : List D) (F : D → Option ρ), ((lastR M).o 80 ds).bind F = (da (α := TreeMod × Unit) ds).bind (callN (fun x => n80 x.1) F)) ∧ ∀ aa, (envOf M aa).S 80 = some (.own ((lastR M).o 80)) := ⟨fun ds F => call_oK h80 ds F, fun _ => rfl⟩
theorem m80 : M.mode 80 = 0 := rfl
noncomputable def cd80 : Code := match Go.Proofs.Try.f80.body with | some c => c | none => .skip
theorem pl80 : plT 80 = [(7, [0, 1000, 2000, 4000, 4001, 5000, 5001, 7004]), (13, [0, 4, 5, 1004, 1005])] := rfl
theorem lv80_5 : lvT 80 5 = [1, 2, 3, 18, 19, 20] := rfl
theorem lv80_11 : lvT 80 11 = [2, 3, 41, 42, 43] := rfl
/-! loop.example/smithy/laws.eqStringS -/
theorem h81 : Has M 81 ((List ByteArray) × (List ByteArray) × Unit) (Bool) := ⟨fun _ => rfl, fun _ => rfl⟩
noncomputable def n81 (a0 : (List ByteArray)) (a1 : (List ByteArray)) : Option (Bool) := fnO M 81 (Bool) (a0, a1, ())
theorem c81 : (∀ {ρ : Type} (ds : List D) (F : D → Option ρ), ((lastR M).o 81 ds).bind F = (da (α := (List ByteArray) × (List ByteArray) × Unit) ds).bind (callN (fun x => n81 x.1 x.2.1) F)) ∧ ∀ aa, (envOf M aa).S 81 = some (.own ((lastR M).o 81)) := ⟨fun ds F => call_oK h81 ds F, fun _ => rfl⟩
theorem m81 : M.mode 81 = 0 := rfl
noncomputable def cd81 : Code := match Go.Proofs.Try.f81.body with | some c => c | none => .skip
theorem pl81 : plT 81 = [] := rfl
theorem lv81_4 : lvT 81 4 = [0, 1, 5] := rfl
/-! loop.example/smithy/laws.eqTreeFunS -/
theorem h82 : Has M 82 ((List TreeFun) × (List TreeFun) × Unit) (Bool) := ⟨fun _ => rfl, fun _ => rfl⟩
noncomputable def n82 (a0 : (List TreeFun)) (a1 : (List TreeFun)) : Option (Bool) := fnO M 82 (Bool) (a0, a1, ())
theorem c82 : (∀ {ρ : Type} (ds : List D) (F : D → Option ρ), ((lastR M).o 82 ds).bind F = (da (α := (List TreeFun) × (List TreeFun) × Unit) ds).bind (callN (fun x => n82 x.1 x.2.1) F)) ∧ ∀ aa, (envOf M aa).S 82 = some (.own ((lastR M).o 82)) := ⟨fun ds F => call_oK h82 ds F, fun _ => rfl⟩
theorem m82 : M.mode 82 = 0 := rfl
noncomputable def cd82 : Code := match Go.Proofs.Try.f82.body with | some c => c | none => .skip
theorem pl82 : plT 82 = [] := rfl
theorem lv82_4 : lvT 82 4 = [0, 1, 5] := rfl
/-! loop.example/smithy/impl.cloneRec -/
theorem h83 : Has M 83 (KeepRec × Unit) (KeepRec) := ⟨fun _ => rfl, fun _ => rfl⟩
noncomputable def n83 (a0 : KeepRec) : Option (KeepRec) := fnO M 83 (KeepRec) (a0, ())
theorem c83 : (∀ {ρ : Type} (ds : List D) (F : D → Option ρ), ((lastR M).o 83 ds).bind F = (da (α := KeepRec × Unit) ds).bind (callN (fun x => n83 x.1) F)) ∧ ∀ aa, (envOf M aa).S 83 = some (.own ((lastR M).o 83)) := ⟨fun ds F => call_oK h83 ds F, fun _ => rfl⟩
theorem m83 : M.mode 83 = 0 := rfl
noncomputable def cd83 : Code := match Go.Proofs.Try.f83.body with | some c => c | none => .skip
theorem pl83 : plT 83 = [] := rfl
/-! loop.example/smithy/laws.szLinkFun -/
theorem h84 : Has M 84 (LinkFun × Int × Unit) (Int) := ⟨fun _ => rfl, fun _ => rfl⟩
noncomputable def n84 (a0 : LinkFun) (a1 : Int) : Option (Int) := fnO M 84 (Int) (a0, a1, ())
theorem c84 : (∀ {ρ : Type} (ds : List D) (F : D → Option ρ), ((lastR M).o 84 ds).bind F = (da (α := LinkFun × Int × Unit) ds).bind (callN (fun x => n84 x.1 x.2.1) F)) ∧ ∀ aa, (envOf M aa).S 84 = some (.own ((lastR M).o 84)) := ⟨fun ds F => call_oK h84 ds F, fun _ => rfl⟩
theorem m84 : M.mode 84 = 0 := rfl
noncomputable def cd84 : Code := match Go.Proofs.Try.f84.body with | some c => c | none => .skip
theorem pl84 : plT 84 = [] := rfl
/-! loop.example/smithy/spec.LexName -/
theorem h85 : Has M 85 (ByteArray × Unit) (Bool) := ⟨fun _ => rfl, fun _ => rfl⟩
noncomputable def n85 (a0 : ByteArray) : Option (Bool) := fnO M 85 (Bool) (a0, ())
theorem c85 : (∀ {ρ : Type} (ds : List D) (F : D → Option ρ), ((lastR M).o 85 ds).bind F = (da (α := ByteArray × Unit) ds).bind (callN (fun x => n85 x.1) F)) ∧ ∀ aa, (envOf M aa).S 85 = some (.own ((lastR M).o 85)) := ⟨fun ds F => call_oK h85 ds F, fun _ => rfl⟩
theorem m85 : M.mode 85 = 0 := rfl
noncomputable def cd85 : Code := match Go.Proofs.Try.f85.body with | some c => c | none => .skip
theorem pl85 : plT 85 = [] := rfl
theorem lv85_4 : lvT 85 4 = [0, 3] := rfl
/-! loop.example/smithy/spec.l8Fun -/
theorem h86 : Has M 86 (CodeFun × Unit) (Bool) := ⟨fun _ => rfl, fun _ => rfl⟩
noncomputable def n86 (a0 : CodeFun) : Option (Bool) := fnO M 86 (Bool) (a0, ())
theorem c86 : (∀ {ρ : Type} (ds : List D) (F : D → Option ρ), ((lastR M).o 86 ds).bind F = (da (α := CodeFun × Unit) ds).bind (callN (fun x => n86 x.1) F)) ∧ ∀ aa, (envOf M aa).S 86 = some (.own ((lastR M).o 86)) := ⟨fun ds F => call_oK h86 ds F, fun _ => rfl⟩
theorem m86 : M.mode 86 = 0 := rfl
noncomputable def cd86 : Code := match Go.Proofs.Try.f86.body with | some c => c | none => .skip
theorem pl86 : plT 86 = [] := rfl
theorem lv86_4 : lvT 86 4 = [1, 3] := rfl
theorem lv86_9 : lvT 86 9 = [1, 4] := rfl
/-! loop.example/smithy/laws.toLinkFun -/
theorem h87 : Has M 87 (LinkFun × Unit) (LinkFun) := ⟨fun _ => rfl, fun _ => rfl⟩
noncomputable def n87 (a0 : LinkFun) : Option (LinkFun) := fnO M 87 (LinkFun) (a0, ())
theorem c87 : (∀ {ρ : Type} (ds : List D) (F : D → Option ρ), ((lastR M).o 87 ds).bind F = (da (α := LinkFun × Unit) ds).bind (callN (fun x => n87 x.1) F)) ∧ ∀ aa, (envOf M aa).S 87 = some (.own ((lastR M).o 87)) := ⟨fun ds F => call_oK h87 ds F, fun _ => rfl⟩
theorem m87 : M.mode 87 = 0 := rfl
noncomputable def cd87 : Code := match Go.Proofs.Try.f87.body with | some c => c | none => .skip
theorem pl87 : plT 87 = [] := rfl
/-! loop.example/smithy/impl.LexName -/
theorem h88 : Has M 88 (ByteArray × Unit) (Bool) := ⟨fun _ => rfl, fun _ => rfl⟩
noncomputable def n88 (a0 : ByteArray) : Option (Bool) := fnO M 88 (Bool) (a0, ())
theorem c88 : (∀ {ρ : Type} (ds : List D) (F : D → Option ρ), ((lastR M).o 88 ds).bind F = (da (α := ByteArray × Unit) ds).bind (callN (fun x => n88 x.1) F)) ∧ ∀ aa, (envOf M aa).S 88 = some (.own ((lastR M).o 88)) := ⟨fun ds F => call_oK h88 ds F, fun _ => rfl⟩
theorem m88 : M.mode 88 = 0 := rfl
noncomputable def cd88 : Code := match Go.Proofs.Try.f88.body with | some c => c | none => .skip
theorem pl88 : plT 88 = [] := rfl
theorem lv88_2 : lvT 88 2 = [0, 5, 6] := rfl
/-! loop.example/smithy/impl.headOk -/
theorem h89 : Has M 89 (ByteArray × (List Int) × Int × Int × Unit) (Bool) := ⟨fun _ => rfl, fun _ => rfl⟩
noncomputable def n89 (a0 : ByteArray) (a1 : (List Int)) (a2 : Int) (a3 : Int) : Option (Bool) := fnO M 89 (Bool) (a0, a1, a2, a3, ())
theorem c89 : (∀ {ρ : Type} (ds : List D) (F : D → Option ρ), ((lastR M).o 89 ds).bind F = (da (α := ByteArray × (List Int) × Int × Int × Unit) ds).bind (callN (fun x => n89 x.1 x.2.1 x.2.2.1 x.2.2.2.1) F)) ∧ ∀ aa, (envOf M aa).S 89 = some (.own ((lastR M).o 89)) := ⟨fun ds F => call_oK h89 ds F, fun _ => rfl⟩
theorem m89 : M.mode 89 = 0 := rfl
noncomputable def cd89 : Code := match Go.Proofs.Try.f89.body with | some c => c | none => .skip
theorem pl89 : plT 89 = [] := rfl
/-! slices.ContainsFunc[[]loop.example/smithy/impl.CodeIns,loop.example/smithy/impl.CodeIns] -/
theorem h90 : Has M 90 ((List CodeIns) × Fv × Unit) (Bool) := ⟨fun _ => rfl, fun _ => rfl⟩
noncomputable def n90 (a0 : (List CodeIns)) (a1 : Fv) : Option (Bool) := fnO M 90 (Bool) (a0, a1, ())
theorem c90 : (∀ {ρ : Type} (ds : List D) (F : D → Option ρ), ((lastR M).o 90 ds).bind F = (da (α := (List CodeIns) × Fv × Unit) ds).bind (callN (fun x => n90 x.1 x.2.1) F)) ∧ ∀ aa, (envOf M aa).S 90 = some (.own ((lastR M).o 90)) := ⟨fun ds F => call_oK h90 ds F, fun _ => rfl⟩
theorem m90 : M.mode 90 = 0 := rfl
noncomputable def cd90 : Code := match Go.Proofs.Try.f90.body with | some c => c | none => .skip
theorem pl90 : plT 90 = [] := rfl
/-! loop.example/smithy/impl.imageOk$1 -/
theorem h91 : Has M 91 (CodeIns × Unit) (Bool) := ⟨fun _ => rfl, fun _ => rfl⟩
noncomputable def n91 (a0 : CodeIns) : Option (Bool) := fnO M 91 (Bool) (a0, ())
theorem c91 : (∀ {ρ : Type} (ds : List D) (F : D → Option ρ), ((lastR M).o 91 ds).bind F = (da (α := CodeIns × Unit) ds).bind (callN (fun x => n91 x.1) F)) ∧ ∀ aa, (envOf M aa).S 91 = some (.own ((lastR M).o 91)) := ⟨fun ds F => call_oK h91 ds F, fun _ => rfl⟩
theorem m91 : M.mode 91 = 0 := rfl
noncomputable def cd91 : Code := match Go.Proofs.Try.f91.body with | some c => c | none => .skip
theorem pl91 : plT 91 = [] := rfl
/-! loop.example/smithy/impl.insOk -/
theorem h92 : Has M 92 (CodeIns × Unit) (Bool) := ⟨fun _ => rfl, fun _ => rfl⟩
noncomputable def n92 (a0 : CodeIns) : Option (Bool) := fnO M 92 (Bool) (a0, ())
theorem c92 : (∀ {ρ : Type} (ds : List D) (F : D → Option ρ), ((lastR M).o 92 ds).bind F = (da (α := CodeIns × Unit) ds).bind (callN (fun x => n92 x.1) F)) ∧ ∀ aa, (envOf M aa).S 92 = some (.own ((lastR M).o 92)) := ⟨fun ds F => call_oK h92 ds F, fun _ => rfl⟩
theorem m92 : M.mode 92 = 0 := rfl
noncomputable def cd92 : Code := match Go.Proofs.Try.f92.body with | some c => c | none => .skip
theorem pl92 : plT 92 = [] := rfl
/-! slices.ContainsFunc[[]int,int] -/
theorem h93 : Has M 93 ((List Int) × Fv × Unit) (Bool) := ⟨fun _ => rfl, fun _ => rfl⟩
noncomputable def n93 (a0 : (List Int)) (a1 : Fv) : Option (Bool) := fnO M 93 (Bool) (a0, a1, ())
theorem c93 : (∀ {ρ : Type} (ds : List D) (F : D → Option ρ), ((lastR M).o 93 ds).bind F = (da (α := (List Int) × Fv × Unit) ds).bind (callN (fun x => n93 x.1 x.2.1) F)) ∧ ∀ aa, (envOf M aa).S 93 = some (.own ((lastR M).o 93)) := ⟨fun ds F => call_oK h93 ds F, fun _ => rfl⟩
theorem m93 : M.mode 93 = 0 := rfl
noncomputable def cd93 : Code := match Go.Proofs.Try.f93.body with | some c => c | none => .skip
theorem pl93 : plT 93 = [] := rfl
/-! loop.example/smithy/impl.imageOk$2 -/
theorem h94 : Has M 94 (Int × Fv × Unit) (Bool) := ⟨fun _ => rfl, fun _ => rfl⟩
noncomputable def n94 (a0 : Int) (a1 : Fv) : Option (Bool) := fnO M 94 (Bool) (a0, a1, ())
theorem c94 : (∀ {ρ : Type} (ds : List D) (F : D → Option ρ), ((lastR M).o 94 ds).bind F = (da (α := Int × Fv × Unit) ds).bind (callN (fun x => n94 x.1 x.2.1) F)) ∧ ∀ aa, (envOf M aa).S 94 = some (.own ((lastR M).o 94)) := ⟨fun ds F => call_oK h94 ds F, fun _ => rfl⟩
theorem m94 : M.mode 94 = 0 := rfl
noncomputable def cd94 : Code := match Go.Proofs.Try.f94.body with | some c => c | none => .skip
theorem pl94 : plT 94 = [] := rfl
/-! slices.Clone[[]int,int] -/
theorem h95 : Has M 95 ((List Int) × Unit) ((List Int)) := ⟨fun _ => rfl, fun _ => rfl⟩
noncomputable def n95 (a0 : (List Int)) : Option ((List Int)) := fnO M 95 ((List Int)) (a0, ())
theorem c95 : (∀ {ρ : Type} (ds : List D) (F : D → Option ρ), ((lastR M).o 95 ds).bind F = (da (α := (List Int) × Unit) ds).bind (callN (fun x => n95 x.1) F)) ∧ ∀ aa, (envOf M aa).S 95 = some (.own ((lastR M).o 95)) := ⟨fun ds F => call_oK h95 ds F, fun _ => rfl⟩
theorem m95 : M.mode 95 = 0 := rfl
noncomputable def cd95 : Code := match Go.Proofs.Try.f95.body with | some c => c | none => .skip
theorem pl95 : plT 95 = [] := rfl
/-! loop.example/smithy/laws.eqLinkFun -/
theorem h96 : Has M 96 (LinkFun × LinkFun × Unit) (Bool) := ⟨fun _ => rfl, fun _ => rfl⟩
noncomputable def n96 (a0 : LinkFun) (a1 : LinkFun) : Option (Bool) := fnO M 96 (Bool) (a0, a1, ())
theorem c96 : (∀ {ρ : Type} (ds : List D) (F : D → Option ρ), ((lastR M).o 96 ds).bind F = (da (α := LinkFun × LinkFun × Unit) ds).bind (callN (fun x => n96 x.1 x.2.1) F)) ∧ ∀ aa, (envOf M aa).S 96 = some (.own ((lastR M).o 96)) := ⟨fun ds F => call_oK h96 ds F, fun _ => rfl⟩
theorem m96 : M.mode 96 = 0 := rfl
noncomputable def cd96 : Code := match Go.Proofs.Try.f96.body with | some c => c | none => .skip
theorem pl96 : plT 96 = [] := rfl
/-! loop.example/smithy/laws.markCodeInsS -/
theorem h97 : Has M 97 ((List CodeIns) × Int × Unit) (Int × (List CodeIns)) := ⟨fun _ => rfl, fun _ => rfl⟩
noncomputable def n97 (a0 : (List CodeIns)) (a1 : Int) : Option (Int × (List CodeIns)) := fnI M 97 (Int) (a0, a1, ())
theorem c97 : (∀ {ρ : Type} (x : D) (ds : List D) (F : D × D → Option ρ), ((lastR M).i 97 x ds).bind F = (da (α := (List CodeIns) × Int × Unit) (x :: ds)).bind (callI (fun x => n97 x.1 x.2.1) F)) ∧ ∀ aa, (envOf M aa).S 97 = some (.io ((lastR M).i 97)) := ⟨fun x ds F => call_iK h97 x ds F, fun _ => rfl⟩
theorem m97 : M.mode 97 = 2 := rfl
noncomputable def cd97 : Code := match Go.Proofs.Try.f97.body with | some c => c | none => .skip
theorem pl97 : plT 97 = [] := rfl
theorem lv97_2 : lvT 97 2 = [0, 1, 5] := rfl
/-! slices.Clone[[]loop.example/smithy/impl.CodeIns,loop.example/smithy/impl.CodeIns] -/
theorem h98 : Has M 98 ((List CodeIns) × Unit) ((List CodeIns)) := ⟨fun _ => rfl, fun _ => rfl⟩
noncomputable def n98 (a0 : (List CodeIns)) : Option ((List CodeIns)) := fnO M 98 ((List CodeIns)) (a0, ())
theorem c98 : (∀ {ρ : Type} (ds : List D) (F : D → Option ρ), ((lastR M).o 98 ds).bind F = (da (α := (List CodeIns) × Unit) ds).bind (callN (fun x => n98 x.1) F)) ∧ ∀ aa, (envOf M aa).S 98 = some (.own ((lastR M).o 98)) := ⟨fun ds F => call_oK h98 ds F, fun _ => rfl⟩
theorem m98 : M.mode 98 = 0 := rfl
noncomputable def cd98 : Code := match Go.Proofs.Try.f98.body with | some c => c | none => .skip
theorem pl98 : plT 98 = [] := rfl
/-! loop.example/smithy/impl.inRange -/
theorem h99 : Has M 99 (Int × Int × Int × Unit) (Bool) := ⟨fun _ => rfl, fun _ => rfl⟩
noncomputable def n99 (a0 : Int) (a1 : Int) (a2 : Int) : Option (Bool) := fnO M 99 (Bool) (a0, a1, a2, ())
theorem c99 : (∀ {ρ : Type} (ds : List D) (F : D → Option ρ), ((lastR M).o 99 ds).bind F = (da (α := Int × Int × Int × Unit) ds).bind (callN (fun x => n99 x.1 x.2.1 x.2.2.1) F)) ∧ ∀ aa, (envOf M aa).S 99 = some (.own ((lastR M).o 99)) := ⟨fun ds F => call_oK h99 ds F, fun _ => rfl⟩
theorem m99 : M.mode 99 = 0 := rfl
noncomputable def cd99 : Code := match Go.Proofs.Try.f99.body with | some c => c | none => .skip
theorem pl99 : plT 99 = [] := rfl
/-! loop.example/smithy/laws.heldCodeInsS -/
theorem h100 : Has M 100 ((List CodeIns) × Int × Unit) (Int) := ⟨fun _ => rfl, fun _ => rfl⟩
noncomputable def n100 (a0 : (List CodeIns)) (a1 : Int) : Option (Int) := fnO M 100 (Int) (a0, a1, ())
theorem c100 : (∀ {ρ : Type} (ds : List D) (F : D → Option ρ), ((lastR M).o 100 ds).bind F = (da (α := (List CodeIns) × Int × Unit) ds).bind (callN (fun x => n100 x.1 x.2.1) F)) ∧ ∀ aa, (envOf M aa).S 100 = some (.own ((lastR M).o 100)) := ⟨fun ds F => call_oK h100 ds F, fun _ => rfl⟩
theorem m100 : M.mode 100 = 0 := rfl
noncomputable def cd100 : Code := match Go.Proofs.Try.f100.body with | some c => c | none => .skip
theorem pl100 : plT 100 = [] := rfl
theorem lv100_2 : lvT 100 2 = [0, 1, 5] := rfl
/-! loop.example/smithy/spec.TreeNodes -/
theorem h101 : Has M 101 (TreeExpr × Unit) (Int × Int) := ⟨fun _ => rfl, fun _ => rfl⟩
noncomputable def n101 (a0 : TreeExpr) : Option (Int × Int) := fnO M 101 (Int × Int) (a0, ())
theorem c101 : (∀ {ρ : Type} (ds : List D) (F : D → Option ρ), ((lastR M).o 101 ds).bind F = (da (α := TreeExpr × Unit) ds).bind (callN (fun x => n101 x.1) F)) ∧ ∀ aa, (envOf M aa).S 101 = some (.own ((lastR M).o 101)) := ⟨fun ds F => call_oK h101 ds F, fun _ => rfl⟩
theorem m101 : M.mode 101 = 0 := rfl
noncomputable def cd101 : Code := match Go.Proofs.Try.f101.body with | some c => c | none => .skip
theorem pl101 : plT 101 = [] := rfl
theorem lv101_4 : lvT 101 4 = [1, 4, 5, 6] := rfl
/-! loop.example/smithy/spec.l2Expr -/
theorem h102 : Has M 102 (TreeExpr × Unit) (Bool) := ⟨fun _ => rfl, fun _ => rfl⟩
noncomputable def n102 (a0 : TreeExpr) : Option (Bool) := fnO M 102 (Bool) (a0, ())
theorem c102 : (∀ {ρ : Type} (ds : List D) (F : D → Option ρ), ((lastR M).o 102 ds).bind F = (da (α := TreeExpr × Unit) ds).bind (callN (fun x => n102 x.1) F)) ∧ ∀ aa, (envOf M aa).S 102 = some (.own ((lastR M).o 102)) := ⟨fun ds F => call_oK h102 ds F, fun _ => rfl⟩
theorem m102 : M.mode 102 = 0 := rfl
noncomputable def cd102 : Code := match Go.Proofs.Try.f102.body with | some c => c | none => .skip
theorem pl102 : plT 102 = [] := rfl
theorem lv102_4 : lvT 102 4 = [1, 3] := rfl
/-! loop.example/smithy/spec.l2Prim -/
theorem h103 : Has M 103 (ByteArray × Unit) (Int) := ⟨fun _ => rfl, fun _ => rfl⟩
noncomputable def n103 (a0 : ByteArray) : Option (Int) := fnO M 103 (Int) (a0, ())
theorem c103 : (∀ {ρ : Type} (ds : List D) (F : D → Option ρ), ((lastR M).o 103 ds).bind F = (da (α := ByteArray × Unit) ds).bind (callN (fun x => n103 x.1) F)) ∧ ∀ aa, (envOf M aa).S 103 = some (.own ((lastR M).o 103)) := ⟨fun ds F => call_oK h103 ds F, fun _ => rfl⟩
theorem m103 : M.mode 103 = 0 := rfl
noncomputable def cd103 : Code := match Go.Proofs.Try.f103.body with | some c => c | none => .skip
theorem pl103 : plT 103 = [] := rfl
theorem lv103_3 : lvT 103 3 = [0, 3, 4] := rfl
/-! loop.example/smithy/spec.l18Half -/
theorem h104 : Has M 104 (TreeExpr × Unit) (TreeExpr) := ⟨fun _ => rfl, fun _ => rfl⟩
noncomputable def n104 (a0 : TreeExpr) : Option (TreeExpr) := fnO M 104 (TreeExpr) (a0, ())
theorem c104 : (∀ {ρ : Type} (ds : List D) (F : D → Option ρ), ((lastR M).o 104 ds).bind F = (da (α := TreeExpr × Unit) ds).bind (callN (fun x => n104 x.1) F)) ∧ ∀ aa, (envOf M aa).S 104 = some (.eat fun x ds => (lastR M).o 104 (x :: ds)) := ⟨fun ds F => call_oK h104 ds F, fun _ => rfl⟩
theorem m104 : M.mode 104 = 3 := rfl
noncomputable def cd104 : Code := match Go.Proofs.Try.f104.body with | some c => c | none => .skip
theorem pl104 : plT 104 = [] := rfl
/-! loop.example/smithy/spec.l18Prim -/
theorem h105 : Has M 105 (TreeExpr × Unit) (TreeExpr) := ⟨fun _ => rfl, fun _ => rfl⟩
noncomputable def n105 (a0 : TreeExpr) : Option (TreeExpr) := fnO M 105 (TreeExpr) (a0, ())
theorem c105 : (∀ {ρ : Type} (ds : List D) (F : D → Option ρ), ((lastR M).o 105 ds).bind F = (da (α := TreeExpr × Unit) ds).bind (callN (fun x => n105 x.1) F)) ∧ ∀ aa, (envOf M aa).S 105 = some (.eat fun x ds => (lastR M).o 105 (x :: ds)) := ⟨fun ds F => call_oK h105 ds F, fun _ => rfl⟩
theorem m105 : M.mode 105 = 3 := rfl
noncomputable def cd105 : Code := match Go.Proofs.Try.f105.body with | some c => c | none => .skip
theorem pl105 : plT 105 = [] := rfl
theorem lv105_3 : lvT 105 3 = [1, 2, 3, 4] := rfl
/-! loop.example/smithy/spec.l18Known -/
theorem h106 : Has M 106 (TreeExpr × Unit) (MeanVal × Bool) := ⟨fun _ => rfl, fun _ => rfl⟩
noncomputable def n106 (a0 : TreeExpr) : Option (MeanVal × Bool) := fnO M 106 (MeanVal × Bool) (a0, ())
theorem c106 : (∀ {ρ : Type} (ds : List D) (F : D → Option ρ), ((lastR M).o 106 ds).bind F = (da (α := TreeExpr × Unit) ds).bind (callN (fun x => n106 x.1) F)) ∧ ∀ aa, (envOf M aa).S 106 = some (.own ((lastR M).o 106)) := ⟨fun ds F => call_oK h106 ds F, fun _ => rfl⟩
theorem m106 : M.mode 106 = 0 := rfl
noncomputable def cd106 : Code := match Go.Proofs.Try.f106.body with | some c => c | none => .skip
theorem pl106 : plT 106 = [] := rfl
/-! loop.example/smithy/impl.TreeNodes -/
theorem h107 : Has M 107 (TreeExpr × Unit) (Int × Int) := ⟨fun _ => rfl, fun _ => rfl⟩
noncomputable def n107 (a0 : TreeExpr) : Option (Int × Int) := fnO M 107 (Int × Int) (a0, ())
theorem c107 : (∀ {ρ : Type} (ds : List D) (F : D → Option ρ), ((lastR M).o 107 ds).bind F = (da (α := TreeExpr × Unit) ds).bind (callN (fun x => n107 x.1) F)) ∧ ∀ aa, (envOf M aa).S 107 = some (.own ((lastR M).o 107)) := ⟨fun ds F => call_oK h107 ds F, fun _ => rfl⟩
theorem m107 : M.mode 107 = 0 := rfl
noncomputable def cd107 : Code := match Go.Proofs.Try.f107.body with | some c => c | none => .skip
theorem pl107 : plT 107 = [] := rfl
theorem lv107_3 : lvT 107 3 = [4, 5, 11, 12, 13] := rfl
/-! (loop.example/smithy/impl.TreeExpr).isRight -/
theorem h108 : Has M 108 (TreeExpr × Unit) (Bool) := ⟨fun _ => rfl, fun _ => rfl⟩
noncomputable def n108 (a0 : TreeExpr) : Option (Bool) := fnO M 108 (Bool) (a0, ())
theorem c108 : (∀ {ρ : Type} (ds : List D) (F : D → Option ρ), ((lastR M).o 108 ds).bind F = (da (α := TreeExpr × Unit) ds).bind (callN (fun x => n108 x.1) F)) ∧ ∀ aa, (envOf M aa).S 108 = some (.own ((lastR M).o 108)) := ⟨fun ds F => call_oK h108 ds F, fun _ => rfl⟩
theorem m108 : M.mode 108 = 0 := rfl
noncomputable def cd108 : Code := match Go.Proofs.Try.f108.body with | some c => c | none => .skip
theorem pl108 : plT 108 = [] := rfl
/-! loop.example/smithy/impl.folded -/
theorem h109 : Has M 109 (TreeExpr × Unit) (TreeExpr) := ⟨fun _ => rfl, fun _ => rfl⟩
noncomputable def n109 (a0 : TreeExpr) : Option (TreeExpr) := fnO M 109 (TreeExpr) (a0, ())
theorem c109 : (∀ {ρ : Type} (ds : List D) (F : D → Option ρ), ((lastR M).o 109 ds).bind F = (da (α := TreeExpr × Unit) ds).bind (callN (fun x => n109 x.1) F)) ∧ ∀ aa, (envOf M aa).S 109 = some (.eat fun x ds => (lastR M).o 109 (x :: ds)) := ⟨fun ds F => call_oK h109 ds F, fun _ => rfl⟩
theorem m109 : M.mode 109 = 3 := rfl
noncomputable def cd109 : Code := match Go.Proofs.Try.f109.body with | some c => c | none => .skip
theorem pl109 : plT 109 = [(2, [0])] := rfl
/-! loop.example/smithy/laws.szTreeFun -/
theorem h110 : Has M 110 (TreeFun × Int × Unit) (Int) := ⟨fun _ => rfl, fun _ => rfl⟩
noncomputable def n110 (a0 : TreeFun) (a1 : Int) : Option (Int) := fnO M 110 (Int) (a0, a1, ())
theorem c110 : (∀ {ρ : Type} (ds : List D) (F : D → Option ρ), ((lastR M).o 110 ds).bind F = (da (α := TreeFun × Int × Unit) ds).bind (callN (fun x => n110 x.1 x.2.1) F)) ∧ ∀ aa, (envOf M aa).S 110 = some (.own ((lastR M).o 110)) := ⟨fun ds F => call_oK h110 ds F, fun _ => rfl⟩
theorem m110 : M.mode 110 = 0 := rfl
noncomputable def cd110 : Code := match Go.Proofs.Try.f110.body with | some c => c | none => .skip
theorem pl110 : plT 110 = [] := rfl
/-! loop.example/smithy/spec.l2Uses -/
theorem h111 : Has M 111 ((List ByteArray) × Unit) (Bool) := ⟨fun _ => rfl, fun _ => rfl⟩
noncomputable def n111 (a0 : (List ByteArray)) : Option (Bool) := fnO M 111 (Bool) (a0, ())
theorem c111 : (∀ {ρ : Type} (ds : List D) (F : D → Option ρ), ((lastR M).o 111 ds).bind F = (da (α := (List ByteArray) × Unit) ds).bind (callN (fun x => n111 x.1) F)) ∧ ∀ aa, (envOf M aa).S 111 = some (.own ((lastR M).o 111)) := ⟨fun ds F => call_oK h111 ds F, fun _ => rfl⟩
theorem m111 : M.mode 111 = 0 := rfl
noncomputable def cd111 : Code := match Go.Proofs.Try.f111.body with | some c => c | none => .skip
theorem pl111 : plT 111 = [] := rfl
theorem lv111_2 : lvT 111 2 = [0, 3] := rfl
theorem lv111_7 : lvT 111 7 = [0, 3, 4] := rfl
/-! loop.example/smithy/spec.l2Size -/
theorem h112 : Has M 112 (TreeMod × Unit) (Bool) := ⟨fun _ => rfl, fun _ => rfl⟩
noncomputable def n112 (a0 : TreeMod) : Option (Bool) := fnO M 112 (Bool) (a0, ())
theorem c112 : (∀ {ρ : Type} (ds : List D) (F : D → Option ρ), ((lastR M).o 112 ds).bind F = (da (α := TreeMod × Unit) ds).bind (callN (fun x => n112 x.1) F)) ∧ ∀ aa, (envOf M aa).S 112 = some (.own ((lastR M).o 112)) := ⟨fun ds F => call_oK h112 ds F, fun _ => rfl⟩
theorem m112 : M.mode 112 = 0 := rfl
noncomputable def cd112 : Code := match Go.Proofs.Try.f112.body with | some c => c | none => .skip
theorem pl112 : plT 112 = [] := rfl
theorem lv112_3 : lvT 112 3 = [1, 3, 4] := rfl
/-! loop.example/smithy/spec.l2Fun -/
theorem h113 : Has M 113 (TreeFun × Unit) (Bool) := ⟨fun _ => rfl, fun _ => rfl⟩
noncomputable def n113 (a0 : TreeFun) : Option (Bool) := fnO M 113 (Bool) (a0, ())
theorem c113 : (∀ {ρ : Type} (ds : List D) (F : D → Option ρ), ((lastR M).o 113 ds).bind F = (da (α := TreeFun × Unit) ds).bind (callN (fun x => n113 x.1) F)) ∧ ∀ aa, (envOf M aa).S 113 = some (.own ((lastR M).o 113)) := ⟨fun ds F => call_oK h113 ds F, fun _ => rfl⟩
theorem m113 : M.mode 113 = 0 := rfl
noncomputable def cd113 : Code := match Go.Proofs.Try.f113.body with | some c => c | none => .skip
theorem pl113 : plT 113 = [] := rfl
theorem lv113_4 : lvT 113 4 = [1, 3] := rfl
theorem lv113_9 : lvT 113 9 = [1, 3, 4] := rfl
/-! loop.example/smithy/laws.toTreeFun -/
theorem h114 : Has M 114 (TreeFun × Unit) (TreeFun) := ⟨fun _ => rfl, fun _ => rfl⟩
noncomputable def n114 (a0 : TreeFun) : Option (TreeFun) := fnO M 114 (TreeFun) (a0, ())
theorem c114 : (∀ {ρ : Type} (ds : List D) (F : D → Option ρ), ((lastR M).o 114 ds).bind F = (da (α := TreeFun × Unit) ds).bind (callN (fun x => n114 x.1) F)) ∧ ∀ aa, (envOf M aa).S 114 = some (.own ((lastR M).o 114)) := ⟨fun ds F => call_oK h114 ds F, fun _ => rfl⟩
theorem m114 : M.mode 114 = 0 := rfl
noncomputable def cd114 : Code := match Go.Proofs.Try.f114.body with | some c => c | none => .skip
theorem pl114 : plT 114 = [] := rfl
/-! loop.example/smithy/impl.areNames -/
theorem h115 : Has M 115 ((List ByteArray) × Unit) (Bool) := ⟨fun _ => rfl, fun _ => rfl⟩
noncomputable def n115 (a0 : (List ByteArray)) : Option (Bool) := fnO M 115 (Bool) (a0, ())
theorem c115 : (∀ {ρ : Type} (ds : List D) (F : D → Option ρ), ((lastR M).o 115 ds).bind F = (da (α := (List ByteArray) × Unit) ds).bind (callN (fun x => n115 x.1) F)) ∧ ∀ aa, (envOf M aa).S 115 = some (.own ((lastR M).o 115)) := ⟨fun ds F => call_oK h115 ds F, fun _ => rfl⟩
theorem m115 : M.mode 115 = 0 := rfl
noncomputable def cd115 : Code := match Go.Proofs.Try.f115.body with | some c => c | none => .skip
theorem pl115 : plT 115 = [] := rfl
theorem lv115_2 : lvT 115 2 = [0, 5, 6, 7] := rfl
/-! loop.example/smithy/impl.argNames -/
theorem h116 : Has M 116 ((List TreeArg) × Unit) ((List ByteArray)) := ⟨fun _ => rfl, fun _ => rfl⟩
noncomputable def n116 (a0 : (List TreeArg)) : Option ((List ByteArray)) := fnO M 116 ((List ByteArray)) (a0, ())
theorem c116 : (∀ {ρ : Type} (ds : List D) (F : D → Option ρ), ((lastR M).o 116 ds).bind F = (da (α := (List TreeArg) × Unit) ds).bind (callN (fun x => n116 x.1) F)) ∧ ∀ aa, (envOf M aa).S 116 = some (.shared ((lastR M).o 116)) := ⟨fun ds F => call_oK h116 ds F, fun _ => rfl⟩
theorem m116 : M.mode 116 = 1 := rfl
noncomputable def cd116 : Code := match Go.Proofs.Try.f116.body with | some c => c | none => .skip
theorem pl116 : plT 116 = [] := rfl
theorem lv116_3 : lvT 116 3 = [3, 7, 8, 9] := rfl
/-! loop.example/smithy/impl.isType -/
theorem h117 : Has M 117 (Int × Unit) (Bool) := ⟨fun _ => rfl, fun _ => rfl⟩
noncomputable def n117 (a0 : Int) : Option (Bool) := fnO M 117 (Bool) (a0, ())
theorem c117 : (∀ {ρ : Type} (ds : List D) (F : D → Option ρ), ((lastR M).o 117 ds).bind F = (da (α := Int × Unit) ds).bind (callN (fun x => n117 x.1) F)) ∧ ∀ aa, (envOf M aa).S 117 = some (.own ((lastR M).o 117)) := ⟨fun ds F => call_oK h117 ds F, fun _ => rfl⟩
theorem m117 : M.mode 117 = 0 := rfl
noncomputable def cd117 : Code := match Go.Proofs.Try.f117.body with | some c => c | none => .skip
theorem pl117 : plT 117 = [] := rfl
/-! slices.ContainsFunc[[]loop.example/smithy/impl.TreeArg,loop.example/smithy/impl.TreeArg] -/
theorem h118 : Has M 118 ((List TreeArg) × Fv × Unit) (Bool) := ⟨fun _ => rfl, fun _ => rfl⟩
noncomputable def n118 (a0 : (List TreeArg)) (a1 : Fv) : Option (Bool) := fnO M 118 (Bool) (a0, a1, ())
theorem c118 : (∀ {ρ : Type} (ds : List D) (F : D → Option ρ), ((lastR M).o 118 ds).bind F = (da (α := (List TreeArg) × Fv × Unit) ds).bind (callN (fun x => n118 x.1 x.2.1) F)) ∧ ∀ aa, (envOf M aa).S 118 = some (.own ((lastR M).o 118)) := ⟨fun ds F => call_oK h118 ds F, fun _ => rfl⟩
theorem m118 : M.mode 118 = 0 := rfl
noncomputable def cd118 : Code := match Go.Proofs.Try.f118.body with | some c => c | none => .skip
theorem pl118 : plT 118 = [] := rfl
/-! loop.example/smithy/impl.TreeOk$1 -/
theorem h119 : Has M 119 (TreeArg × Unit) (Bool) := ⟨fun _ => rfl, fun _ => rfl⟩
noncomputable def n119 (a0 : TreeArg) : Option (Bool) := fnO M 119 (Bool) (a0, ())
theorem c119 : (∀ {ρ : Type} (ds : List D) (F : D → Option ρ), ((lastR M).o 119 ds).bind F = (da (α := TreeArg × Unit) ds).bind (callN (fun x => n119 x.1) F)) ∧ ∀ aa, (envOf M aa).S 119 = some (.own ((lastR M).o 119)) := ⟨fun ds F => call_oK h119 ds F, fun _ => rfl⟩
theorem m119 : M.mode 119 = 0 := rfl
noncomputable def cd119 : Code := match Go.Proofs.Try.f119.body with | some c => c | none => .skip
theorem pl119 : plT 119 = [] := rfl
/-! (loop.example/smithy/impl.TreeMod).bodies -/
theorem h120 : Has M 120 (TreeMod × Unit) ((List TreeExpr)) := ⟨fun _ => rfl, fun _ => rfl⟩
noncomputable def n120 (a0 : TreeMod) : Option ((List TreeExpr)) := fnO M 120 ((List TreeExpr)) (a0, ())
theorem c120 : (∀ {ρ : Type} (ds : List D) (F : D → Option ρ), ((lastR M).o 120 ds).bind F = (da (α := TreeMod × Unit) ds).bind (callN (fun x => n120 x.1) F)) ∧ ∀ aa, (envOf M aa).S 120 = some (.shared ((lastR M).o 120)) := ⟨fun ds F => call_oK h120 ds F, fun _ => rfl⟩
theorem m120 : M.mode 120 = 1 := rfl
noncomputable def cd120 : Code := match Go.Proofs.Try.f120.body with | some c => c | none => .skip
theorem pl120 : plT 120 = [] := rfl
theorem lv120_3 : lvT 120 3 = [1, 3, 8, 9, 10] := rfl
/-! loop.example/smithy/laws.eqTreeFun -/
theorem h121 : Has M 121 (TreeFun × TreeFun × Unit) (Bool) := ⟨fun _ => rfl, fun _ => rfl⟩
noncomputable def n121 (a0 : TreeFun) (a1 : TreeFun) : Option (Bool) := fnO M 121 (Bool) (a0, a1, ())
theorem c121 : (∀ {ρ : Type} (ds : List D) (F : D → Option ρ), ((lastR M).o 121 ds).bind F = (da (α := TreeFun × TreeFun × Unit) ds).bind (callN (fun x => n121 x.1 x.2.1) F)) ∧ ∀ aa, (envOf M aa).S 121 = some (.own ((lastR M).o 121)) := ⟨fun ds F => call_oK h121 ds F, fun _ => rfl⟩
theorem m121 : M.mode 121 = 0 := rfl
noncomputable def cd121 : Code := match Go.Proofs.Try.f121.body with | some c => c | none => .skip
theorem pl121 : plT 121 = [] := rfl
/-! slices.Clone[[]string,string] -/
theorem h122 : Has M 122 ((List ByteArray) × Unit) ((List ByteArray)) := ⟨fun _ => rfl, fun _ => rfl⟩
noncomputable def n122 (a0 : (List ByteArray)) : Option ((List ByteArray)) := fnO M 122 ((List ByteArray)) (a0, ())
theorem c122 : (∀ {ρ : Type} (ds : List D) (F : D → Option ρ), ((lastR M).o 122 ds).bind F = (da (α := (List ByteArray) × Unit) ds).bind (callN (fun x => n122 x.1) F)) ∧ ∀ aa, (envOf M aa).S 122 = some (.own ((lastR M).o 122)) := ⟨fun ds F => call_oK h122 ds F, fun _ => rfl⟩
theorem m122 : M.mode 122 = 0 := rfl
noncomputable def cd122 : Code := match Go.Proofs.Try.f122.body with | some c => c | none => .skip
theorem pl122 : plT 122 = [] := rfl
/-! loop.example/smithy/laws.szCodeInsS -/
theorem h123 : Has M 123 ((List CodeIns) × Int × Unit) (Int) := ⟨fun _ => rfl, fun _ => rfl⟩
noncomputable def n123 (a0 : (List CodeIns)) (a1 : Int) : Option (Int) := fnO M 123 (Int) (a0, a1, ())
theorem c123 : (∀ {ρ : Type} (ds : List D) (F : D → Option ρ), ((lastR M).o 123 ds).bind F = (da (α := (List CodeIns) × Int × Unit) ds).bind (callN (fun x => n123 x.1 x.2.1) F)) ∧ ∀ aa, (envOf M aa).S 123 = some (.own ((lastR M).o 123)) := ⟨fun ds F => call_oK h123 ds F, fun _ => rfl⟩
theorem m123 : M.mode 123 = 0 := rfl
noncomputable def cd123 : Code := match Go.Proofs.Try.f123.body with | some c => c | none => .skip
theorem pl123 : plT 123 = [] := rfl
/-! loop.example/smithy/spec.l1Kept -/
theorem h124 : Has M 124 (ByteArray × Unit) (Bool) := ⟨fun _ => rfl, fun _ => rfl⟩
noncomputable def n124 (a0 : ByteArray) : Option (Bool) := fnO M 124 (Bool) (a0, ())
theorem c124 : (∀ {ρ : Type} (ds : List D) (F : D → Option ρ), ((lastR M).o 124 ds).bind F = (da (α := ByteArray × Unit) ds).bind (callN (fun x => n124 x.1) F)) ∧ ∀ aa, (envOf M aa).S 124 = some (.own ((lastR M).o 124)) := ⟨fun ds F => call_oK h124 ds F, fun _ => rfl⟩
theorem m124 : M.mode 124 = 0 := rfl
noncomputable def cd124 : Code := match Go.Proofs.Try.f124.body with | some c => c | none => .skip
theorem pl124 : plT 124 = [] := rfl
theorem lv124_3 : lvT 124 3 = [0, 3, 4] := rfl
/-! loop.example/smithy/spec.l8Name -/
theorem h125 : Has M 125 (ByteArray × Unit) (Bool) := ⟨fun _ => rfl, fun _ => rfl⟩
noncomputable def n125 (a0 : ByteArray) : Option (Bool) := fnO M 125 (Bool) (a0, ())
theorem c125 : (∀ {ρ : Type} (ds : List D) (F : D → Option ρ), ((lastR M).o 125 ds).bind F = (da (α := ByteArray × Unit) ds).bind (callN (fun x => n125 x.1) F)) ∧ ∀ aa, (envOf M aa).S 125 = some (.own ((lastR M).o 125)) := ⟨fun ds F => call_oK h125 ds F, fun _ => rfl⟩
theorem m125 : M.mode 125 = 0 := rfl
noncomputable def cd125 : Code := match Go.Proofs.Try.f125.body with | some c => c | none => .skip
theorem pl125 : plT 125 = [] := rfl
/-! loop.example/smithy/spec.TreeType -/
theorem h126 : Has M 126 (Int × Unit) (ByteArray) := ⟨fun _ => rfl, fun _ => rfl⟩
noncomputable def n126 (a0 : Int) : Option (ByteArray) := fnO M 126 (ByteArray) (a0, ())
theorem c126 : (∀ {ρ : Type} (ds : List D) (F : D → Option ρ), ((lastR M).o 126 ds).bind F = (da (α := Int × Unit) ds).bind (callN (fun x => n126 x.1) F)) ∧ ∀ aa, (envOf M aa).S 126 = some (.own ((lastR M).o 126)) := ⟨fun ds F => call_oK h126 ds F, fun _ => rfl⟩
theorem m126 : M.mode 126 = 0 := rfl
noncomputable def cd126 : Code := match Go.Proofs.Try.f126.body with | some c => c | none => .skip
theorem pl126 : plT 126 = [] := rfl
/-! loop.example/smithy/spec.l8Ins -/
theorem h127 : Has M 127 (CodeIns × Unit) (Bool) := ⟨fun _ => rfl, fun _ => rfl⟩
noncomputable def n127 (a0 : CodeIns) : Option (Bool) := fnO M 127 (Bool) (a0, ())
theorem c127 : (∀ {ρ : Type} (ds : List D) (F : D → Option ρ), ((lastR M).o 127 ds).bind F = (da (α := CodeIns × Unit) ds).bind (callN (fun x => n127 x.1) F)) ∧ ∀ aa, (envOf M aa).S 127 = some (.own ((lastR M).o 127)) := ⟨fun ds F => call_oK h127 ds F, fun _ => rfl⟩
theorem m127 : M.mode 127 = 0 := rfl
noncomputable def cd127 : Code := match Go.Proofs.Try.f127.body with | some c => c | none => .skip
theorem pl127 : plT 127 = [] := rfl
/-! loop.example/smithy/laws.toCodeInsS -/
theorem h128 : Has M 128 ((List CodeIns) × Unit) ((List CodeIns)) := ⟨fun _ => rfl, fun _ => rfl⟩
noncomputable def n128 (a0 : (List CodeIns)) : Option ((List CodeIns)) := fnO M 128 ((List CodeIns)) (a0, ())
theorem c128 : (∀ {ρ : Type} (ds : List D) (F : D → Option ρ), ((lastR M).o 128 ds).bind F = (da (α := (List CodeIns) × Unit) ds).bind (callN (fun x => n128 x.1) F)) ∧ ∀ aa, (envOf M aa).S 128 = some (.own ((lastR M).o 128)) := ⟨fun ds F => call_oK h128 ds F, fun _ => rfl⟩
theorem m128 : M.mode 128 = 0 := rfl
noncomputable def cd128 : Code := match Go.Proofs.Try.f128.body with | some c => c | none => .skip
theorem pl128 : plT 128 = [] := rfl
theorem lv128_3 : lvT 128 3 = [0, 3, 4] := rfl
/-! loop.example/smithy/impl.isOwn -/
theorem h129 : Has M 129 (ByteArray × Unit) (Bool) := ⟨fun _ => rfl, fun _ => rfl⟩
noncomputable def n129 (a0 : ByteArray) : Option (Bool) := fnO M 129 (Bool) (a0, ())
theorem c129 : (∀ {ρ : Type} (ds : List D) (F : D → Option ρ), ((lastR M).o 129 ds).bind F = (da (α := ByteArray × Unit) ds).bind (callN (fun x => n129 x.1) F)) ∧ ∀ aa, (envOf M aa).S 129 = some (.own ((lastR M).o 129)) := ⟨fun ds F => call_oK h129 ds F, fun _ => rfl⟩
theorem m129 : M.mode 129 = 0 := rfl
noncomputable def cd129 : Code := match Go.Proofs.Try.f129.body with | some c => c | none => .skip
theorem pl129 : plT 129 = [] := rfl
/-! loop.example/smithy/impl.areTypes -/
theorem h130 : Has M 130 ((List Int) × Unit) (Bool) := ⟨fun _ => rfl, fun _ => rfl⟩
noncomputable def n130 (a0 : (List Int)) : Option (Bool) := fnO M 130 (Bool) (a0, ())
theorem c130 : (∀ {ρ : Type} (ds : List D) (F : D → Option ρ), ((lastR M).o 130 ds).bind F = (da (α := (List Int) × Unit) ds).bind (callN (fun x => n130 x.1) F)) ∧ ∀ aa, (envOf M aa).S 130 = some (.own ((lastR M).o 130)) := ⟨fun ds F => call_oK h130 ds F, fun _ => rfl⟩
theorem m130 : M.mode 130 = 0 := rfl
noncomputable def cd130 : Code := match Go.Proofs.Try.f130.body with | some c => c | none => .skip
theorem pl130 : plT 130 = [] := rfl
/-! slices.IndexFunc[[]loop.example/smithy/impl.CodeIns,loop.example/smithy/impl.CodeIns] -/
theorem h131 : Has M 131 ((List CodeIns) × Fv × Unit) (Int) := ⟨fun _ => rfl, fun _ => rfl⟩
noncomputable def n131 (a0 : (List CodeIns)) (a1 : Fv) : Option (Int) := fnO M 131 (Int) (a0, a1, ())
theorem c131 : (∀ {ρ : Type} (ds : List D) (F : D → Option ρ), ((lastR M).o 131 ds).bind F = (da (α := (List CodeIns) × Fv × Unit) ds).bind (callN (fun x => n131 x.1 x.2.1) F)) ∧ ∀ aa, (envOf M aa).S 131 = some (.own ((lastR M).o 131)) := ⟨fun ds F => call_oK h131 ds F, fun _ => rfl⟩
theorem m131 : M.mode 131 = 0 := rfl
noncomputable def cd131 : Code := match Go.Proofs.Try.f131.body with | some c => c | none => .skip
theorem pl131 : plT 131 = [] := rfl
theorem lv131_2 : lvT 131 2 = [0, 1, 7, 8] := rfl
/-! loop.example/smithy/impl.isShort -/
theorem h132 : Has M 132 (Int × Unit) (Bool) := ⟨fun _ => rfl, fun _ => rfl⟩
noncomputable def n132 (a0 : Int) : Option (Bool) := fnO M 132 (Bool) (a0, ())
theorem c132 : (∀ {ρ : Type} (ds : List D) (F : D → Option ρ), ((lastR M).o 132 ds).bind F = (da (α := Int × Unit) ds).bind (callN (fun x => n132 x.1) F)) ∧ ∀ aa, (envOf M aa).S 132 = some (.own ((lastR M).o 132)) := ⟨fun ds F => call_oK h132 ds F, fun _ => rfl⟩
theorem m132 : M.mode 132 = 0 := rfl
noncomputable def cd132 : Code := match Go.Proofs.Try.f132.body with | some c => c | none => .skip
theorem pl132 : plT 132 = [] := rfl
/-! slices.IndexFunc[[]int,int] -/
theorem h133 : Has M 133 ((List Int) × Fv × Unit) (Int) := ⟨fun _ => rfl, fun _ => rfl⟩
noncomputable def n133 (a0 : (List Int)) (a1 : Fv) : Option (Int) := fnO M 133 (Int) (a0, a1, ())
theorem c133 : (∀ {ρ : Type} (ds : List D) (F : D → Option ρ), ((lastR M).o 133 ds).bind F = (da (α := (List Int) × Fv × Unit) ds).bind (callN (fun x => n133 x.1 x.2.1) F)) ∧ ∀ aa, (envOf M aa).S 133 = some (.own ((lastR M).o 133)) := ⟨fun ds F => call_oK h133 ds F, fun _ => rfl⟩
theorem m133 : M.mode 133 = 0 := rfl
noncomputable def cd133 : Code := match Go.Proofs.Try.f133.body with | some c => c | none => .skip
theorem pl133 : plT 133 = [] := rfl
theorem lv133_2 : lvT 133 2 = [0, 1, 7, 8] := rfl
/-! loop.example/smithy/laws.eqCodeInsS -/
theorem h134 : Has M 134 ((List CodeIns) × (List CodeIns) × Unit) (Bool) := ⟨fun _ => rfl, fun _ => rfl⟩
noncomputable def n134 (a0 : (List CodeIns)) (a1 : (List CodeIns)) : Option (Bool) := fnO M 134 (Bool) (a0, a1, ())
theorem c134 : (∀ {ρ : Type} (ds : List D) (F : D → Option ρ), ((lastR M).o 134 ds).bind F = (da (α := (List CodeIns) × (List CodeIns) × Unit) ds).bind (callN (fun x => n134 x.1 x.2.1) F)) ∧ ∀ aa, (envOf M aa).S 134 = some (.own ((lastR M).o 134)) := ⟨fun ds F => call_oK h134 ds F, fun _ => rfl⟩
theorem m134 : M.mode 134 = 0 := rfl
noncomputable def cd134 : Code := match Go.Proofs.Try.f134.body with | some c => c | none => .skip
theorem pl134 : plT 134 = [] := rfl
theorem lv134_4 : lvT 134 4 = [0, 1, 5] := rfl
/-! loop.example/smithy/spec.l2Node -/
theorem h135 : Has M 135 (TreeExpr × Unit) (Bool) := ⟨fun _ => rfl, fun _ => rfl⟩
noncomputable def n135 (a0 : TreeExpr) : Option (Bool) := fnO M 135 (Bool) (a0, ())
theorem c135 : (∀ {ρ : Type} (ds : List D) (F : D → Option ρ), ((lastR M).o 135 ds).bind F = (da (α := TreeExpr × Unit) ds).bind (callN (fun x => n135 x.1) F)) ∧ ∀ aa, (envOf M aa).S 135 = some (.own ((lastR M).o 135)) := ⟨fun ds F => call_oK h135 ds F, fun _ => rfl⟩
theorem m135 : M.mode 135 = 0 := rfl
noncomputable def cd135 : Code := match Go.Proofs.Try.f135.body with | some c => c | none => .skip
theorem pl135 : plT 135 = [] := rfl
/-! loop.example/smithy/spec.l2Prims -/
theorem h136 : Has M 136 (Unit) ((List ByteArray)) := ⟨fun _ => rfl, fun _ => rfl⟩
noncomputable def n136 : Option ((List ByteArray)) := fnO M 136 ((List ByteArray)) (())
theorem c136 : (∀ {ρ : Type} (ds : List D) (F : D → Option ρ), ((lastR M).o 136 ds).bind F = (da (α := Unit) ds).bind (callN (fun x => n136) F)) ∧ ∀ aa, (envOf M aa).S 136 = some (.own ((lastR M).o 136)) := ⟨fun ds F => call_oK h136 ds F, fun _ => rfl⟩
theorem m136 : M.mode 136 = 0 := rfl
noncomputable def cd136 : Code := match Go.Proofs.Try.f136.body with | some c => c | none => .skip
theorem pl136 : plT 136 = [] := rfl
/-! loop.example/smithy/spec.l6Fits -/
theorem h137 : Has M 137 (ByteArray × (List MeanVal) × Unit) (Bool) := ⟨fun _ => rfl, fun _ => rfl⟩
noncomputable def n137 (a0 : ByteArray) (a1 : (List MeanVal)) : Option (Bool) := fnO M 137 (Bool) (a0, a1, ())
theorem c137 : (∀ {ρ : Type} (ds : List D) (F : D → Option ρ), ((lastR M).o 137 ds).bind F = (da (α := ByteArray × (List MeanVal) × Unit) ds).bind (callN (fun x => n137 x.1 x.2.1) F)) ∧ ∀ aa, (envOf M aa).S 137 = some (.own ((lastR M).o 137)) := ⟨fun ds F => call_oK h137 ds F, fun _ => rfl⟩
theorem m137 : M.mode 137 = 0 := rfl
noncomputable def cd137 : Code := match Go.Proofs.Try.f137.body with | some c => c | none => .skip
theorem pl137 : plT 137 = [] := rfl
theorem lv137_5 : lvT 137 5 = [1, 5, 7] := rfl
/-! loop.example/smithy/spec.l6Prim -/
theorem h138 : Has M 138 (ByteArray × (List MeanVal) × Unit) (MeanVal × Int) := ⟨fun _ => rfl, fun _ => rfl⟩
noncomputable def n138 (a0 : ByteArray) (a1 : (List MeanVal)) : Option (MeanVal × Int) := fnO M 138 (MeanVal × Int) (a0, a1, ())
theorem c138 : (∀ {ρ : Type} (ds : List D) (F : D → Option ρ), ((lastR M).o 138 ds).bind F = (da (α := ByteArray × (List MeanVal) × Unit) ds).bind (callN (fun x => n138 x.1 x.2.1) F)) ∧ ∀ aa, (envOf M aa).S 138 = some (.own ((lastR M).o 138)) := ⟨fun ds F => call_oK h138 ds F, fun _ => rfl⟩
theorem m138 : M.mode 138 = 0 := rfl
noncomputable def cd138 : Code := match Go.Proofs.Try.f138.body with | some c => c | none => .skip
theorem pl138 : plT 138 = [(3, [0])] := rfl
/-! loop.example/smithy/spec.l18Written -/
theorem h139 : Has M 139 (MeanVal × Unit) (TreeExpr × Bool) := ⟨fun _ => rfl, fun _ => rfl⟩
noncomputable def n139 (a0 : MeanVal) : Option (TreeExpr × Bool) := fnO M 139 (TreeExpr × Bool) (a0, ())
theorem c139 : (∀ {ρ : Type} (ds : List D) (F : D → Option ρ), ((lastR M).o 139 ds).bind F = (da (α := MeanVal × Unit) ds).bind (callN (fun x => n139 x.1) F)) ∧ ∀ aa, (envOf M aa).S 139 = some (.own ((lastR M).o 139)) := ⟨fun ds F => call_oK h139 ds F, fun _ => rfl⟩
theorem m139 : M.mode 139 = 0 := rfl
noncomputable def cd139 : Code := match Go.Proofs.Try.f139.body with | some c => c | none => .skip
theorem pl139 : plT 139 = [(4, [0, 7, 7009])] := rfl
/-! loop.example/smithy/spec.l6Int -/
theorem h140 : Has M 140 (Int × Unit) (MeanVal) := ⟨fun _ => rfl, fun _ => rfl⟩
noncomputable def n140 (a0 : Int) : Option (MeanVal) := fnO M 140 (MeanVal) (a0, ())
theorem c140 : (∀ {ρ : Type} (ds : List D) (F : D → Option ρ), ((lastR M).o 140 ds).bind F = (da (α := Int × Unit) ds).bind (callN (fun x => n140 x.1) F)) ∧ ∀ aa, (envOf M aa).S 140 = some (.own ((lastR M).o 140)) := ⟨fun ds F => call_oK h140 ds F, fun _ => rfl⟩
theorem m140 : M.mode 140 = 0 := rfl
noncomputable def cd140 : Code := match Go.Proofs.Try.f140.body with | some c => c | none => .skip
theorem pl140 : plT 140 = [] := rfl
/-! loop.example/smithy/spec.l6Bool -/
theorem h141 : Has M 141 (Bool × Unit) (MeanVal) := ⟨fun _ => rfl, fun _ => rfl⟩
noncomputable def n141 (a0 : Bool) : Option (MeanVal) := fnO M 141 (MeanVal) (a0, ())
theorem c141 : (∀ {ρ : Type} (ds : List D) (F : D → Option ρ), ((lastR M).o 141 ds).bind F = (da (α := Bool × Unit) ds).bind (callN (fun x => n141 x.1) F)) ∧ ∀ aa, (envOf M aa).S 141 = some (.own ((lastR M).o 141)) := ⟨fun ds F => call_oK h141 ds F, fun _ => rfl⟩
theorem m141 : M.mode 141 = 0 := rfl
noncomputable def cd141 : Code := match Go.Proofs.Try.f141.body with | some c => c | none => .skip
theorem pl141 : plT 141 = [] := rfl
/-! (loop.example/smithy/impl.TreeExpr).partsOk -/
theorem h142 : Has M 142 (TreeExpr × Unit) (Bool) := ⟨fun _ => rfl, fun _ => rfl⟩
noncomputable def n142 (a0 : TreeExpr) : Option (Bool) := fnO M 142 (Bool) (a0, ())
theorem c142 : (∀ {ρ : Type} (ds : List D) (F : D → Option ρ), ((lastR M).o 142 ds).bind F = (da (α := TreeExpr × Unit) ds).bind (callN (fun x => n142 x.1) F)) ∧ ∀ aa, (envOf M aa).S 142 = some (.own ((lastR M).o 142)) := ⟨fun ds F => call_oK h142 ds F, fun _ => rfl⟩
theorem m142 : M.mode 142 = 0 := rfl
noncomputable def cd142 : Code := match Go.Proofs.Try.f142.body with | some c => c | none => .skip
theorem pl142 : plT 142 = [] := rfl
/-! slices.ContainsFunc[[]loop.example/smithy/impl.TreeExpr,loop.example/smithy/impl.TreeExpr] -/
theorem h143 : Has M 143 ((List TreeExpr) × Fv × Unit) (Bool) := ⟨fun _ => rfl, fun _ => rfl⟩
noncomputable def n143 (a0 : (List TreeExpr)) (a1 : Fv) : Option (Bool) := fnO M 143 (Bool) (a0, a1, ())
theorem c143 : (∀ {ρ : Type} (ds : List D) (F : D → Option ρ), ((lastR M).o 143 ds).bind F = (da (α := (List TreeExpr) × Fv × Unit) ds).bind (callN (fun x => n143 x.1 x.2.1) F)) ∧ ∀ aa, (envOf M aa).S 143 = some (.own ((lastR M).o 143)) := ⟨fun ds F => call_oK h143 ds F, fun _ => rfl⟩
theorem m143 : M.mode 143 = 0 := rfl
noncomputable def cd143 : Code := match Go.Proofs.Try.f143.body with | some c => c | none => .skip
theorem pl143 : plT 143 = [] := rfl
/-! (loop.example/smithy/impl.TreeExpr).isRight$1 -/
theorem h144 : Has M 144 (TreeExpr × Unit) (Bool) := ⟨fun _ => rfl, fun _ => rfl⟩
noncomputable def n144 (a0 : TreeExpr) : Option (Bool) := fnO M 144 (Bool) (a0, ())
theorem c144 : (∀ {ρ : Type} (ds : List D) (F : D → Option ρ), ((lastR M).o 144 ds).bind F = (da (α := TreeExpr × Unit) ds).bind (callN (fun x => n144 x.1) F)) ∧ ∀ aa, (envOf M aa).S 144 = some (.own ((lastR M).o 144)) := ⟨fun ds F => call_oK h144 ds F, fun _ => rfl⟩
theorem m144 : M.mode 144 = 0 := rfl
noncomputable def cd144 : Code := match Go.Proofs.Try.f144.body with | some c => c | none => .skip
theorem pl144 : plT 144 = [] := rfl
/-! loop.example/smithy/impl.reckoned -/
theorem h145 : Has M 145 (TreeExpr × Unit) (TreeExpr × Bool) := ⟨fun _ => rfl, fun _ => rfl⟩
noncomputable def n145 (a0 : TreeExpr) : Option (TreeExpr × Bool) := fnO M 145 (TreeExpr × Bool) (a0, ())
theorem c145 : (∀ {ρ : Type} (ds : List D) (F : D → Option ρ), ((lastR M).o 145 ds).bind F = (da (α := TreeExpr × Unit) ds).bind (callN (fun x => n145 x.1) F)) ∧ ∀ aa, (envOf M aa).S 145 = some (.own ((lastR M).o 145)) := ⟨fun ds F => call_oK h145 ds F, fun _ => rfl⟩
theorem m145 : M.mode 145 = 0 := rfl
noncomputable def cd145 : Code := match Go.Proofs.Try.f145.body with | some c => c | none => .skip
theorem pl145 : plT 145 = [] := rfl
theorem lv145_3 : lvT 145 3 = [1, 2, 4, 13, 14, 15] := rfl
/-! loop.example/smithy/laws.szTreeArgS -/
theorem h146 : Has M 146 ((List TreeArg) × Int × Unit) (Int) := ⟨fun _ => rfl, fun _ => rfl⟩
noncomputable def n146 (a0 : (List TreeArg)) (a1 : Int) : Option (Int) := fnO M 146 (Int) (a0, a1, ())
theorem c146 : (∀ {ρ : Type} (ds : List D) (F : D → Option ρ), ((lastR M).o 146 ds).bind F = (da (α := (List TreeArg) × Int × Unit) ds).bind (callN (fun x => n146 x.1 x.2.1) F)) ∧ ∀ aa, (envOf M aa).S 146 = some (.own ((lastR M).o 146)) := ⟨fun ds F => call_oK h146 ds F, fun _ => rfl⟩
theorem m146 : M.mode 146 = 0 := rfl
noncomputable def cd146 : Code := match Go.Proofs.Try.f146.body with | some c => c | none => .skip
theorem pl146 : plT 146 = [] := rfl
theorem lv146_5 : lvT 146 5 = [0, 1, 5] := rfl
/-! loop.example/smithy/laws.toTreeArgS -/
theorem h147 : Has M 147 ((List TreeArg) × Unit) ((List TreeArg)) := ⟨fun _ => rfl, fun _ => rfl⟩
noncomputable def n147 (a0 : (List TreeArg)) : Option ((List TreeArg)) := fnO M 147 ((List TreeArg)) (a0, ())
theorem c147 : (∀ {ρ : Type} (ds : List D) (F : D → Option ρ), ((lastR M).o 147 ds).bind F = (da (α := (List TreeArg) × Unit) ds).bind (callN (fun x => n147 x.1) F)) ∧ ∀ aa, (envOf M aa).S 147 = some (.own ((lastR M).o 147)) := ⟨fun ds F => call_oK h147 ds F, fun _ => rfl⟩
theorem m147 : M.mode 147 = 0 := rfl
noncomputable def cd147 : Code := match Go.Proofs.Try.f147.body with | some c => c | none => .skip
theorem pl147 : plT 147 = [] := rfl
theorem lv147_3 : lvT 147 3 = [0, 3, 4] := rfl
/-! slices.Contains[[]string,string] -/
theorem h148 : Has M 148 ((List ByteArray) × ByteArray × Unit) (Bool) := ⟨fun _ => rfl, fun _ => rfl⟩
noncomputable def n148 (a0 : (List ByteArray)) (a1 : ByteArray) : Option (Bool) := fnO M 148 (Bool) (a0, a1, ())
theorem c148 : (∀ {ρ : Type} (ds : List D) (F : D → Option ρ), ((lastR M).o 148 ds).bind F = (da (α := (List ByteArray) × ByteArray × Unit) ds).bind (callN (fun x => n148 x.1 x.2.1) F)) ∧ ∀ aa, (envOf M aa).S 148 = some (.own ((lastR M).o 148)) := ⟨fun ds F => call_oK h148 ds F, fun _ => rfl⟩
theorem m148 : M.mode 148 = 0 := rfl
noncomputable def cd148 : Code := match Go.Proofs.Try.f148.body with | some c => c | none => .skip
theorem pl148 : plT 148 = [] := rfl
/-! slices.IndexFunc[[]loop.example/smithy/impl.TreeArg,loop.example/smithy/impl.TreeArg] -/
theorem h149 : Has M 149 ((List TreeArg) × Fv × Unit) (Int) := ⟨fun _ => rfl, fun _ => rfl⟩
noncomputable def n149 (a0 : (List TreeArg)) (a1 : Fv) : Option (Int) := fnO M 149 (Int) (a0, a1, ())
theorem c149 : (∀ {ρ : Type} (ds : List D) (F : D → Option ρ), ((lastR M).o 149 ds).bind F = (da (α := (List TreeArg) × Fv × Unit) ds).bind (callN (fun x => n149 x.1 x.2.1) F)) ∧ ∀ aa, (envOf M aa).S 149 = some (.own ((lastR M).o 149)) := ⟨fun ds F => call_oK h149 ds F, fun _ => rfl⟩
theorem m149 : M.mode 149 = 0 := rfl
noncomputable def cd149 : Code := match Go.Proofs.Try.f149.body with | some c => c | none => .skip
theorem pl149 : plT 149 = [] := rfl
theorem lv149_2 : lvT 149 2 = [0, 1, 7, 8] := rfl
/-! loop.example/smithy/laws.eqTreeArgS -/
theorem h150 : Has M 150 ((List TreeArg) × (List TreeArg) × Unit) (Bool) := ⟨fun _ => rfl, fun _ => rfl⟩
noncomputable def n150 (a0 : (List TreeArg)) (a1 : (List TreeArg)) : Option (Bool) := fnO M 150 (Bool) (a0, a1, ())
theorem c150 : (∀ {ρ : Type} (ds : List D) (F : D → Option ρ), ((lastR M).o 150 ds).bind F = (da (α := (List TreeArg) × (List TreeArg) × Unit) ds).bind (callN (fun x => n150 x.1 x.2.1) F)) ∧ ∀ aa, (envOf M aa).S 150 = some (.own ((lastR M).o 150)) := ⟨fun ds F => call_oK h150 ds F, fun _ => rfl⟩
theorem m150 : M.mode 150 = 0 := rfl
noncomputable def cd150 : Code := match Go.Proofs.Try.f150.body with | some c => c | none => .skip
theorem pl150 : plT 150 = [] := rfl
theorem lv150_4 : lvT 150 4 = [0, 1, 5] := rfl
/-! loop.example/smithy/laws.toCodeIns -/
theorem h151 : Has M 151 (CodeIns × Unit) (CodeIns) := ⟨fun _ => rfl, fun _ => rfl⟩
noncomputable def n151 (a0 : CodeIns) : Option (CodeIns) := fnO M 151 (CodeIns) (a0, ())
theorem c151 : (∀ {ρ : Type} (ds : List D) (F : D → Option ρ), ((lastR M).o 151 ds).bind F = (da (α := CodeIns × Unit) ds).bind (callN (fun x => n151 x.1) F)) ∧ ∀ aa, (envOf M aa).S 151 = some (.own ((lastR M).o 151)) := ⟨fun ds F => call_oK h151 ds F, fun _ => rfl⟩
theorem m151 : M.mode 151 = 0 := rfl
noncomputable def cd151 : Code := match Go.Proofs.Try.f151.body with | some c => c | none => .skip
theorem pl151 : plT 151 = [] := rfl
/-! loop.example/smithy/impl.areTypes$1 -/
theorem h152 : Has M 152 (Int × Unit) (Bool) := ⟨fun _ => rfl, fun _ => rfl⟩
noncomputable def n152 (a0 : Int) : Option (Bool) := fnO M 152 (Bool) (a0, ())
theorem c152 : (∀ {ρ : Type} (ds : List D) (F : D → Option ρ), ((lastR M).o 152 ds).bind F = (da (α := Int × Unit) ds).bind (callN (fun x => n152 x.1) F)) ∧ ∀ aa, (envOf M aa).S 152 = some (.own ((lastR M).o 152)) := ⟨fun ds F => call_oK h152 ds F, fun _ => rfl⟩
theorem m152 : M.mode 152 = 0 := rfl
noncomputable def cd152 : Code := match Go.Proofs.Try.f152.body with | some c => c | none => .skip
theorem pl152 : plT 152 = [] := rfl
/-! loop.example/smithy/laws.eqCodeIns -/
theorem h153 : Has M 153 (CodeIns × CodeIns × Unit) (Bool) := ⟨fun _ => rfl, fun _ => rfl⟩
noncomputable def n153 (a0 : CodeIns) (a1 : CodeIns) : Option (Bool) := fnO M 153 (Bool) (a0, a1, ())
theorem c153 : (∀ {ρ : Type} (ds : List D) (F : D → Option ρ), ((lastR M).o 153 ds).bind F = (da (α := CodeIns × CodeIns × Unit) ds).bind (callN (fun x => n153 x.1 x.2.1) F)) ∧ ∀ aa, (envOf M aa).S 153 = some (.own ((lastR M).o 153)) := ⟨fun ds F => call_oK h153 ds F, fun _ => rfl⟩
theorem m153 : M.mode 153 = 0 := rfl
noncomputable def cd153 : Code := match Go.Proofs.Try.f153.body with | some c => c | none => .skip
theorem pl153 : plT 153 = [] := rfl
/-! loop.example/smithy/spec.l2Plain -/
theorem h154 : Has M 154 (TreeExpr × Bool × Bool × Bool × Unit) (Bool) := ⟨fun _ => rfl, fun _ => rfl⟩
noncomputable def n154 (a0 : TreeExpr) (a1 : Bool) (a2 : Bool) (a3 : Bool) : Option (Bool) := fnO M 154 (Bool) (a0, a1, a2, a3, ())
theorem c154 : (∀ {ρ : Type} (ds : List D) (F : D → Option ρ), ((lastR M).o 154 ds).bind F = (da (α := TreeExpr × Bool × Bool × Bool × Unit) ds).bind (callN (fun x => n154 x.1 x.2.1 x.2.2.1 x.2.2.2.1) F)) ∧ ∀ aa, (envOf M aa).S 154 = some (.own ((lastR M).o 154)) := ⟨fun ds F => call_oK h154 ds F, fun _ => rfl⟩
theorem m154 : M.mode 154 = 0 := rfl
noncomputable def cd154 : Code := match Go.Proofs.Try.f154.body with | some c => c | none => .skip
theorem pl154 : plT 154 = [] := rfl
/-! loop.example/smithy/spec.TreeArity -/
theorem h155 : Has M 155 (ByteArray × Unit) (Int) := ⟨fun _ => rfl, fun _ => rfl⟩
noncomputable def n155 (a0 : ByteArray) : Option (Int) := fnO M 155 (Int) (a0, ())
theorem c155 : (∀ {ρ : Type} (ds : List D) (F : D → Option ρ), ((lastR M).o 155 ds).bind F = (da (α := ByteArray × Unit) ds).bind (callN (fun x => n155 x.1) F)) ∧ ∀ aa, (envOf M aa).S 155 = some (.own ((lastR M).o 155)) := ⟨fun ds F => call_oK h155 ds F, fun _ => rfl⟩
theorem m155 : M.mode 155 = 0 := rfl
noncomputable def cd155 : Code := match Go.Proofs.Try.f155.body with | some c => c | none => .skip
theorem pl155 : plT 155 = [] := rfl
/-! loop.example/smithy/spec.TypePrim -/
theorem h156 : Has M 156 (ByteArray × Unit) ((List Int) × Int) := ⟨fun _ => rfl, fun _ => rfl⟩
noncomputable def n156 (a0 : ByteArray) : Option ((List Int) × Int) := fnO M 156 ((List Int) × Int) (a0, ())
theorem c156 : (∀ {ρ : Type} (ds : List D) (F : D → Option ρ), ((lastR M).o 156 ds).bind F = (da (α := ByteArray × Unit) ds).bind (callN (fun x => n156 x.1) F)) ∧ ∀ aa, (envOf M aa).S 156 = some (.own ((lastR M).o 156)) := ⟨fun ds F => call_oK h156 ds F, fun _ => rfl⟩
theorem m156 : M.mode 156 = 0 := rfl
noncomputable def cd156 : Code := match Go.Proofs.Try.f156.body with | some c => c | none => .skip
theorem pl156 : plT 156 = [] := rfl
/-! loop.example/smithy/spec.l6Calc -/
theorem h157 : Has M 157 (Int × Int × Int × Unit) (MeanVal × Int) := ⟨fun _ => rfl, fun _ => rfl⟩
noncomputable def n157 (a0 : Int) (a1 : Int) (a2 : Int) : Option (MeanVal × Int) := fnO M 157 (MeanVal × Int) (a0, a1, a2, ())
theorem c157 : (∀ {ρ : Type} (ds : List D) (F : D → Option ρ), ((lastR M).o 157 ds).bind F = (da (α := Int × Int × Int × Unit) ds).bind (callN (fun x => n157 x.1 x.2.1 x.2.2.1) F)) ∧ ∀ aa, (envOf M aa).S 157 = some (.own ((lastR M).o 157)) := ⟨fun ds F => call_oK h157 ds F, fun _ => rfl⟩
theorem m157 : M.mode 157 = 0 := rfl
noncomputable def cd157 : Code := match Go.Proofs.Try.f157.body with | some c => c | none => .skip
theorem pl157 : plT 157 = [] := rfl
/-! loop.example/smithy/spec.l6Rows -/
theorem h158 : Has M 158 (Int × (List MeanVal) × Unit) (MeanVal × Int) := ⟨fun _ => rfl, fun _ => rfl⟩
noncomputable def n158 (a0 : Int) (a1 : (List MeanVal)) : Option (MeanVal × Int) := fnO M 158 (MeanVal × Int) (a0, a1, ())
theorem c158 : (∀ {ρ : Type} (ds : List D) (F : D → Option ρ), ((lastR M).o 158 ds).bind F = (da (α := Int × (List MeanVal) × Unit) ds).bind (callN (fun x => n158 x.1 x.2.1) F)) ∧ ∀ aa, (envOf M aa).S 158 = some (.own ((lastR M).o 158)) := ⟨fun ds F => call_oK h158 ds F, fun _ => rfl⟩
theorem m158 : M.mode 158 = 0 := rfl
noncomputable def cd158 : Code := match Go.Proofs.Try.f158.body with | some c => c | none => .skip
theorem pl158 : plT 158 = [(7, [0, 1000, 3000, 3001, 4000, 4001, 5000, 5001, 6000, 6001])] := rfl
/-! loop.example/smithy/impl.TreeArity -/
theorem h159 : Has M 159 (ByteArray × Unit) (Int) := ⟨fun _ => rfl, fun _ => rfl⟩
noncomputable def n159 (a0 : ByteArray) : Option (Int) := fnO M 159 (Int) (a0, ())
theorem c159 : (∀ {ρ : Type} (ds : List D) (F : D → Option ρ), ((lastR M).o 159 ds).bind F = (da (α := ByteArray × Unit) ds).bind (callN (fun x => n159 x.1) F)) ∧ ∀ aa, (envOf M aa).S 159 = some (.own ((lastR M).o 159)) := ⟨fun ds F => call_oK h159 ds F, fun _ => rfl⟩
theorem m159 : M.mode 159 = 0 := rfl
noncomputable def cd159 : Code := match Go.Proofs.Try.f159.body with | some c => c | none => .skip
theorem pl159 : plT 159 = [] := rfl
/-! slices.IndexFunc[[]loop.example/smithy/impl.TreeExpr,loop.example/smithy/impl.TreeExpr] -/
theorem h160 : Has M 160 ((List TreeExpr) × Fv × Unit) (Int) := ⟨fun _ => rfl, fun _ => rfl⟩
noncomputable def n160 (a0 : (List TreeExpr)) (a1 : Fv) : Option (Int) := fnO M 160 (Int) (a0, a1, ())
theorem c160 : (∀ {ρ : Type} (ds : List D) (F : D → Option ρ), ((lastR M).o 160 ds).bind F = (da (α := (List TreeExpr) × Fv × Unit) ds).bind (callN (fun x => n160 x.1 x.2.1) F)) ∧ ∀ aa, (envOf M aa).S 160 = some (.own ((lastR M).o 160)) := ⟨fun ds F => call_oK h160 ds F, fun _ => rfl⟩
theorem m160 : M.mode 160 = 0 := rfl
noncomputable def cd160 : Code := match Go.Proofs.Try.f160.body with | some c => c | none => .skip
theorem pl160 : plT 160 = [] := rfl
theorem lv160_2 : lvT 160 2 = [0, 1, 7, 8] := rfl
/-! loop.example/smithy/impl.known -/
theorem h161 : Has M 161 (TreeExpr × Unit) (MeanVal × Bool) := ⟨fun _ => rfl, fun _ => rfl⟩
noncomputable def n161 (a0 : TreeExpr) : Option (MeanVal × Bool) := fnO M 161 (MeanVal × Bool) (a0, ())
theorem c161 : (∀ {ρ : Type} (ds : List D) (F : D → Option ρ), ((lastR M).o 161 ds).bind F = (da (α := TreeExpr × Unit) ds).bind (callN (fun x => n161 x.1) F)) ∧ ∀ aa, (envOf M aa).S 161 = some (.own ((lastR M).o 161)) := ⟨fun ds F => call_oK h161 ds F, fun _ => rfl⟩
theorem m161 : M.mode 161 = 0 := rfl
noncomputable def cd161 : Code := match Go.Proofs.Try.f161.body with | some c => c | none => .skip
theorem pl161 : plT 161 = [] := rfl
/-! loop.example/smithy/impl.MeanPrim -/
theorem h162 : Has M 162 (ByteArray × (List MeanVal) × Unit) (MeanVal × Int) := ⟨fun _ => rfl, fun _ => rfl⟩
noncomputable def n162 (a0 : ByteArray) (a1 : (List MeanVal)) : Option (MeanVal × Int) := fnO M 162 (MeanVal × Int) (a0, a1, ())
theorem c162 : (∀ {ρ : Type} (ds : List D) (F : D → Option ρ), ((lastR M).o 162 ds).bind F = (da (α := ByteArray × (List MeanVal) × Unit) ds).bind (callN (fun x => n162 x.1 x.2.1) F)) ∧ ∀ aa, (envOf M aa).S 162 = some (.own ((lastR M).o 162)) := ⟨fun ds F => call_oK h162 ds F, fun _ => rfl⟩
theorem m162 : M.mode 162 = 0 := rfl
noncomputable def cd162 : Code := match Go.Proofs.Try.f162.body with | some c => c | none => .skip
theorem pl162 : plT 162 = [] := rfl
/-! loop.example/smithy/impl.literal -/
theorem h163 : Has M 163 (MeanVal × Unit) (TreeExpr × Bool) := ⟨fun _ => rfl, fun _ => rfl⟩
noncomputable def n163 (a0 : MeanVal) : Option (TreeExpr × Bool) := fnO M 163 (TreeExpr × Bool) (a0, ())
theorem c163 : (∀ {ρ : Type} (ds : List D) (F : D → Option ρ), ((lastR M).o 163 ds).bind F = (da (α := MeanVal × Unit) ds).bind (callN (fun x => n163 x.1) F)) ∧ ∀ aa, (envOf M aa).S 163 = some (.own ((lastR M).o 163)) := ⟨fun ds F => call_oK h163 ds F, fun _ => rfl⟩
theorem m163 : M.mode 163 = 0 := rfl
noncomputable def cd163 : Code := match Go.Proofs.Try.f163.body with | some c => c | none => .skip
theorem pl163 : plT 163 = [(4, [0, 7, 7009])] := rfl
/-! loop.example/smithy/laws.szTreeArg -/
theorem h164 : Has M 164 (TreeArg × Int × Unit) (Int) := ⟨fun _ => rfl, fun _ => rfl⟩
noncomputable def n164 (a0 : TreeArg) (a1 : Int) : Option (Int) := fnO M 164 (Int) (a0, a1, ())
theorem c164 : (∀ {ρ : Type} (ds : List D) (F : D → Option ρ), ((lastR M).o 164 ds).bind F = (da (α := TreeArg × Int × Unit) ds).bind (callN (fun x => n164 x.1 x.2.1) F)) ∧ ∀ aa, (envOf M aa).S 164 = some (.own ((lastR M).o 164)) := ⟨fun ds F => call_oK h164 ds F, fun _ => rfl⟩
theorem m164 : M.mode 164 = 0 := rfl
noncomputable def cd164 : Code := match Go.Proofs.Try.f164.body with | some c => c | none => .skip
theorem pl164 : plT 164 = [] := rfl
/-! loop.example/smithy/laws.toTreeArg -/
theorem h165 : Has M 165 (TreeArg × Unit) (TreeArg) := ⟨fun _ => rfl, fun _ => rfl⟩
noncomputable def n165 (a0 : TreeArg) : Option (TreeArg) := fnO M 165 (TreeArg) (a0, ())
theorem c165 : (∀ {ρ : Type} (ds : List D) (F : D → Option ρ), ((lastR M).o 165 ds).bind F = (da (α := TreeArg × Unit) ds).bind (callN (fun x => n165 x.1) F)) ∧ ∀ aa, (envOf M aa).S 165 = some (.own ((lastR M).o 165)) := ⟨fun ds F => call_oK h165 ds F, fun _ => rfl⟩
theorem m165 : M.mode 165 = 0 := rfl
noncomputable def cd165 : Code := match Go.Proofs.Try.f165.body with | some c => c | none => .skip
theorem pl165 : plT 165 = [] := rfl
/-! slices.Index[[]string,string] -/
theorem h166 : Has M 166 ((List ByteArray) × ByteArray × Unit) (Int) := ⟨fun _ => rfl, fun _ => rfl⟩
noncomputable def n166 (a0 : (List ByteArray)) (a1 : ByteArray) : Option (Int) := fnO M 166 (Int) (a0, a1, ())
theorem c166 : (∀ {ρ : Type} (ds : List D) (F : D → Option ρ), ((lastR M).o 166 ds).bind F = (da (α := (List ByteArray) × ByteArray × Unit) ds).bind (callN (fun x => n166 x.1 x.2.1) F)) ∧ ∀ aa, (envOf M aa).S 166 = some (.own ((lastR M).o 166)) := ⟨fun ds F => call_oK h166 ds F, fun _ => rfl⟩
theorem m166 : M.mode 166 = 0 := rfl
noncomputable def cd166 : Code := match Go.Proofs.Try.f166.body with | some c => c | none => .skip
theorem pl166 : plT 166 = [] := rfl
theorem lv166_2 : lvT 166 2 = [0, 1, 7, 8] := rfl
/-! loop.example/smithy/laws.eqTreeArg -/
theorem h167 : Has M 167 (TreeArg × TreeArg × Unit) (Bool) := ⟨fun _ => rfl, fun _ => rfl⟩
noncomputable def n167 (a0 : TreeArg) (a1 : TreeArg) : Option (Bool) := fnO M 167 (Bool) (a0, a1, ())
theorem c167 : (∀ {ρ : Type} (ds : List D) (F : D → Option ρ), ((lastR M).o 167 ds).bind F = (da (α := TreeArg × TreeArg × Unit) ds).bind (callN (fun x => n167 x.1 x.2.1) F)) ∧ ∀ aa, (envOf M aa).S 167 = some (.own ((lastR M).o 167)) := ⟨fun ds F => call_oK h167 ds F, fun _ => rfl⟩
theorem m167 : M.mode 167 = 0 := rfl
noncomputable def cd167 : Code := match Go.Proofs.Try.f167.body with | some c => c | none => .skip
theorem pl167 : plT 167 = [] := rfl
/-! loop.example/smithy/spec.l6Row -/
theorem h168 : Has M 168 ((List Int) × Unit) (MeanVal) := ⟨fun _ => rfl, fun _ => rfl⟩
noncomputable def n168 (a0 : (List Int)) : Option (MeanVal) := fnO M 168 (MeanVal) (a0, ())
theorem c168 : (∀ {ρ : Type} (ds : List D) (F : D → Option ρ), ((lastR M).o 168 ds).bind F = (da (α := (List Int) × Unit) ds).bind (callN (fun x => n168 x.1) F)) ∧ ∀ aa, (envOf M aa).S 168 = some (.own ((lastR M).o 168)) := ⟨fun ds F => call_oK h168 ds F, fun _ => rfl⟩
theorem m168 : M.mode 168 = 0 := rfl
noncomputable def cd168 : Code := match Go.Proofs.Try.f168.body with | some c => c | none => .skip
theorem pl168 : plT 168 = [] := rfl
/-! loop.example/smithy/impl.intVal -/
theorem h169 : Has M 169 (Int × Unit) (MeanVal) := ⟨fun _ => rfl, fun _ => rfl⟩
noncomputable def n169 (a0 : Int) : Option (MeanVal) := fnO M 169 (MeanVal) (a0, ())
theorem c169 : (∀ {ρ : Type} (ds : List D) (F : D → Option ρ), ((lastR M).o 169 ds).bind F = (da (α := Int × Unit) ds).bind (callN (fun x => n169 x.1) F)) ∧ ∀ aa, (envOf M aa).S 169 = some (.own ((lastR M).o 169)) := ⟨fun ds F => call_oK h169 ds F, fun _ => rfl⟩
theorem m169 : M.mode 169 = 0 := rfl
noncomputable def cd169 : Code := match Go.Proofs.Try.f169.body with | some c => c | none => .skip
theorem pl169 : plT 169 = [] := rfl
/-! loop.example/smithy/impl.flagVal -/
theorem h170 : Has M 170 (Bool × Unit) (MeanVal) := ⟨fun _ => rfl, fun _ => rfl⟩
noncomputable def n170 (a0 : Bool) : Option (MeanVal) := fnO M 170 (MeanVal) (a0, ())
theorem c170 : (∀ {ρ : Type} (ds : List D) (F : D → Option ρ), ((lastR M).o 170 ds).bind F = (da (α := Bool × Unit) ds).bind (callN (fun x => n170 x.1) F)) ∧ ∀ aa, (envOf M aa).S 170 = some (.own ((lastR M).o 170)) := ⟨fun ds F => call_oK h170 ds F, fun _ => rfl⟩
theorem m170 : M.mode 170 = 0 := rfl
noncomputable def cd170 : Code := match Go.Proofs.Try.f170.body with | some c => c | none => .skip
theorem pl170 : plT 170 = [] := rfl
/-! loop.example/smithy/impl.TypePrim -/
theorem h171 : Has M 171 (ByteArray × Unit) ((List Int) × Int) := ⟨fun _ => rfl, fun _ => rfl⟩
noncomputable def n171 (a0 : ByteArray) : Option ((List Int) × Int) := fnO M 171 ((List Int) × Int) (a0, ())
theorem c171 : (∀ {ρ : Type} (ds : List D) (F : D → Option ρ), ((lastR M).o 171 ds).bind F = (da (α := ByteArray × Unit) ds).bind (callN (fun x => n171 x.1) F)) ∧ ∀ aa, (envOf M aa).S 171 = some (.own ((lastR M).o 171)) := ⟨fun ds F => call_oK h171 ds F, fun _ => rfl⟩
theorem m171 : M.mode 171 = 0 := rfl
noncomputable def cd171 : Code := match Go.Proofs.Try.f171.body with | some c => c | none => .skip
theorem pl171 : plT 171 = [] := rfl
/-! slices.Equal[[]int,int] -/
theorem h172 : Has M 172 ((List Int) × (List Int) × Unit) (Bool) := ⟨fun _ => rfl, fun _ => rfl⟩
noncomputable def n172 (a0 : (List Int)) (a1 : (List Int)) : Option (Bool) := fnO M 172 (Bool) (a0, a1, ())
theorem c172 : (∀ {ρ : Type} (ds : List D) (F : D → Option ρ), ((lastR M).o 172 ds).bind F = (da (α := (List Int) × (List Int) × Unit) ds).bind (callN (fun x => n172 x.1 x.2.1) F)) ∧ ∀ aa, (envOf M aa).S 172 = some (.own ((lastR M).o 172)) := ⟨fun ds F => call_oK h172 ds F, fun _ => rfl⟩
theorem m172 : M.mode 172 = 0 := rfl
noncomputable def cd172 : Code := match Go.Proofs.Try.f172.body with | some c => c | none => .skip
theorem pl172 : plT 172 = [] := rfl
theorem lv172_4 : lvT 172 4 = [0, 1, 12, 13] := rfl
/-! loop.example/smithy/impl.kindsOf -/
theorem h173 : Has M 173 ((List MeanVal) × Unit) ((List Int)) := ⟨fun _ => rfl, fun _ => rfl⟩
noncomputable def n173 (a0 : (List MeanVal)) : Option ((List Int)) := fnO M 173 ((List Int)) (a0, ())
theorem c173 : (∀ {ρ : Type} (ds : List D) (F : D → Option ρ), ((lastR M).o 173 ds).bind F = (da (α := (List MeanVal) × Unit) ds).bind (callN (fun x => n173 x.1) F)) ∧ ∀ aa, (envOf M aa).S 173 = some (.shared ((lastR M).o 173)) := ⟨fun ds F => call_oK h173 ds F, fun _ => rfl⟩
theorem m173 : M.mode 173 = 1 := rfl
noncomputable def cd173 : Code := match Go.Proofs.Try.f173.body with | some c => c | none => .skip
theorem pl173 : plT 173 = [] := rfl
theorem lv173_3 : lvT 173 3 = [3, 7, 8, 9] := rfl
/-! loop.example/smithy/impl.prim -/
theorem h174 : Has M 174 (ByteArray × (List MeanVal) × Unit) (MeanVal × Int) := ⟨fun _ => rfl, fun _ => rfl⟩
noncomputable def n174 (a0 : ByteArray) (a1 : (List MeanVal)) : Option (MeanVal × Int) := fnO M 174 (MeanVal × Int) (a0, a1, ())
theorem c174 : (∀ {ρ : Type} (ds : List D) (F : D → Option ρ), ((lastR M).o 174 ds).bind F = (da (α := ByteArray × (List MeanVal) × Unit) ds).bind (callN (fun x => n174 x.1 x.2.1) F)) ∧ ∀ aa, (envOf M aa).S 174 = some (.own ((lastR M).o 174)) := ⟨fun ds F => call_oK h174 ds F, fun _ => rfl⟩
theorem m174 : M.mode 174 = 0 := rfl
noncomputable def cd174 : Code := match Go.Proofs.Try.f174.body with | some c => c | none => .skip
theorem pl174 : plT 174 = [(14, [7, 999999]), (28, [0])] := rfl
/-! slices.Concat[[]int,int] -/
theorem h175 : Has M 175 ((List (List Int)) × Unit) ((List Int)) := ⟨fun _ => rfl, fun _ => rfl⟩
noncomputable def n175 (a0 : (List (List Int))) : Option ((List Int)) := fnO M 175 ((List Int)) (a0, ())
theorem c175 : (∀ {ρ : Type} (ds : List D) (F : D → Option ρ), ((lastR M).o 175 ds).bind F = (da (α := (List (List Int)) × Unit) ds).bind (callN (fun x => n175 x.1) F)) ∧ ∀ aa, (envOf M aa).S 175 = some (.own ((lastR M).o 175)) := ⟨fun ds F => call_oK h175 ds F, fun _ => rfl⟩
theorem m175 : M.mode 175 = 0 := rfl
noncomputable def cd175 : Code := match Go.Proofs.Try.f175.body with | some c => c | none => .skip
theorem pl175 : plT 175 = [] := rfl
theorem lv175_3 : lvT 175 3 = [0, 3, 9, 10, 11] := rfl
theorem lv175_11 : lvT 175 11 = [6, 25, 26, 27] := rfl
/-! loop.example/smithy/impl.rowVal -/
theorem h176 : Has M 176 ((List Int) × Unit) (MeanVal) := ⟨fun _ => rfl, fun _ => rfl⟩
noncomputable def n176 (a0 : (List Int)) : Option (MeanVal) := fnO M 176 (MeanVal) (a0, ())
theorem c176 : (∀ {ρ : Type} (ds : List D) (F : D → Option ρ), ((lastR M).o 176 ds).bind F = (da (α := (List Int) × Unit) ds).bind (callN (fun x => n176 x.1) F)) ∧ ∀ aa, (envOf M aa).S 176 = some (.eat fun x ds => (lastR M).o 176 (x :: ds)) := ⟨fun ds F => call_oK h176 ds F, fun _ => rfl⟩
theorem m176 : M.mode 176 = 3 := rfl
noncomputable def cd176 : Code := match Go.Proofs.Try.f176.body with | some c => c | none => .skip
theorem pl176 : plT 176 = [] := rfl
/-! loop.example/smithy/impl.arith -/
theorem h177 : Has M 177 (ByteArray × Int × Int × Unit) (MeanVal × Int) := ⟨fun _ => rfl, fun _ => rfl⟩
noncomputable def n177 (a0 : ByteArray) (a1 : Int) (a2 : Int) : Option (MeanVal × Int) := fnO M 177 (MeanVal × Int) (a0, a1, a2, ())
theorem c177 : (∀ {ρ : Type} (ds : List D) (F : D → Option ρ), ((lastR M).o 177 ds).bind F = (da (α := ByteArray × Int × Int × Unit) ds).bind (callN (fun x => n177 x.1 x.2.1 x.2.2.1) F)) ∧ ∀ aa, (envOf M aa).S 177 = some (.own ((lastR M).o 177)) := ⟨fun ds F => call_oK h177 ds F, fun _ => rfl⟩
theorem m177 : M.mode 177 = 0 := rfl
noncomputable def cd177 : Code := match Go.Proofs.Try.f177.body with | some c => c | none => .skip
theorem pl177 : plT 177 = [] := rfl
/-! slices.Grow[[]int,int] -/
theorem h178 : Has M 178 ((List Int) × Int × Unit) ((List Int)) := ⟨fun _ => rfl, fun _ => rfl⟩
noncomputable def n178 (a0 : (List Int)) (a1 : Int) : Option ((List Int)) := fnO M 178 ((List Int)) (a0, a1, ())
theorem c178 : (∀ {ρ : Type} (ds : List D) (F : D → Option ρ), ((lastR M).o 178 ds).bind F = (da (α := (List Int) × Int × Unit) ds).bind (callN (fun x => n178 x.1 x.2.1) F)) ∧ ∀ aa, (envOf M aa).S 178 = some (.own ((lastR M).o 178)) := ⟨fun ds F => call_oK h178 ds F, fun _ => rfl⟩
theorem m178 : M.mode 178 = 0 := rfl
noncomputable def cd178 : Code := match Go.Proofs.Try.f178.body with | some c => c | none => .skip
theorem pl178 : plT 178 = [] := rfl
end Go.Fs.Se
