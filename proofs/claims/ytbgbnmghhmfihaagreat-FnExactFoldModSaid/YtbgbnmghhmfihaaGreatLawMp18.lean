/- A part of the proof: an evaluator of the program's code over plain data, proved sound, and walks of the program's functions by it. No conditions beyond those in the theorems. -/
import Derived.Test.YtbgbnmghhmfihaaGreatLawMp17
set_option linter.unusedVariables false
set_option linter.unusedSimpArgs false
set_option linter.constructorNameAsVariable false
set_option linter.unusedSectionVars false
set_option linter.defProp false
set_option linter.unusedVariables false
namespace Go.Fs.Se
open Cel (cel unc)
open Dat (enc dec)
open Arg (ea da)
/-! loop.example/smithy/laws.FnExactFoldMod -/
theorem h3 : Has M 3 (TreeMod × Unit) (Bool) := ⟨fun _ => rfl, fun _ => rfl⟩
noncomputable def n3 (a0 : TreeMod) : Option (Bool) := fnO M 3 (Bool) (a0, ())
theorem c3 : (∀ {ρ : Type} (ds : List D) (F : D → Option ρ), ((lastR M).o 3 ds).bind F = (da (α := TreeMod × Unit) ds).bind (callN (fun x => n3 x.1) F)) ∧ ∀ aa, (envOf M aa).S 3 = some (.own ((lastR M).o 3)) := ⟨fun ds F => call_oK h3 ds F, fun _ => rfl⟩
theorem m3 : M.mode 3 = 0 := rfl
noncomputable def cd3 : Code := match Go.Proofs.Tryz.f3.body with | some c => c | none => .skip
theorem pl3 : plT 3 = [(10, [0, 3])] := rfl
/-! loop.example/smithy/laws.FnFold -/
theorem h4 : Has M 4 ((List U8) × Unit) (Bool) := ⟨fun _ => rfl, fun _ => rfl⟩
noncomputable def n4 (a0 : (List U8)) : Option (Bool) := fnO M 4 (Bool) (a0, ())
theorem c4 : (∀ {ρ : Type} (ds : List D) (F : D → Option ρ), ((lastR M).o 4 ds).bind F = (da (α := (List U8) × Unit) ds).bind (callN (fun x => n4 x.1) F)) ∧ ∀ aa, (envOf M aa).S 4 = some (.own ((lastR M).o 4)) := ⟨fun ds F => call_oK h4 ds F, fun _ => rfl⟩
theorem m4 : M.mode 4 = 0 := rfl
noncomputable def cd4 : Code := match Go.Proofs.Tryz.f4.body with | some c => c | none => .skip
theorem pl4 : plT 4 = [(8, [0, 12, 13, 14, 1012, 2012, 3012, 4012, 5012]), (15, [0, 7, 25016, 26016, 27016, 28016, 29016, 41036]), (17, [0, 8, 9]), (20, [0, 8003, 9003, 10003, 11003, 12003])] := rfl
theorem lv4_6 : lvT 4 6 = [3, 4, 5, 6] := rfl
theorem lv4_12 : lvT 4 12 = [3, 4, 5, 7, 8, 9] := rfl
/-! loop.example/smithy/laws.szTreeMod -/
theorem h5 : Has M 5 (TreeMod × Int × Unit) (Int) := ⟨fun _ => rfl, fun _ => rfl⟩
noncomputable def n5 (a0 : TreeMod) (a1 : Int) : Option (Int) := fnO M 5 (Int) (a0, a1, ())
theorem c5 : (∀ {ρ : Type} (ds : List D) (F : D → Option ρ), ((lastR M).o 5 ds).bind F = (da (α := TreeMod × Int × Unit) ds).bind (callN (fun x => n5 x.1 x.2.1) F)) ∧ ∀ aa, (envOf M aa).S 5 = some (.own ((lastR M).o 5)) := ⟨fun ds F => call_oK h5 ds F, fun _ => rfl⟩
theorem m5 : M.mode 5 = 0 := rfl
noncomputable def cd5 : Code := match Go.Proofs.Tryz.f5.body with | some c => c | none => .skip
theorem pl5 : plT 5 = [] := rfl
/-! loop.example/smithy/spec.FoldMod -/
theorem h6 : Has M 6 (TreeMod × Unit) (TreeMod) := ⟨fun _ => rfl, fun _ => rfl⟩
noncomputable def n6 (a0 : TreeMod) : Option (TreeMod) := fnO M 6 (TreeMod) (a0, ())
theorem c6 : (∀ {ρ : Type} (ds : List D) (F : D → Option ρ), ((lastR M).o 6 ds).bind F = (da (α := TreeMod × Unit) ds).bind (callN (fun x => n6 x.1) F)) ∧ ∀ aa, (envOf M aa).S 6 = some (.own ((lastR M).o 6)) := ⟨fun ds F => call_oK h6 ds F, fun _ => rfl⟩
theorem m6 : M.mode 6 = 0 := rfl
noncomputable def cd6 : Code := match Go.Proofs.Tryz.f6.body with | some c => c | none => .skip
theorem pl6 : plT 6 = [(14, [0, 8, 9, 1008, 1009])] := rfl
theorem lv6_5 : lvT 6 5 = [1, 2, 3, 4] := rfl
theorem lv6_12 : lvT 6 12 = [1, 2, 3, 6] := rfl
/-! loop.example/smithy/laws.toTreeMod -/
theorem h7 : Has M 7 (TreeMod × Unit) (TreeMod) := ⟨fun _ => rfl, fun _ => rfl⟩
noncomputable def n7 (a0 : TreeMod) : Option (TreeMod) := fnO M 7 (TreeMod) (a0, ())
theorem c7 : (∀ {ρ : Type} (ds : List D) (F : D → Option ρ), ((lastR M).o 7 ds).bind F = (da (α := TreeMod × Unit) ds).bind (callN (fun x => n7 x.1) F)) ∧ ∀ aa, (envOf M aa).S 7 = some (.own ((lastR M).o 7)) := ⟨fun ds F => call_oK h7 ds F, fun _ => rfl⟩
theorem m7 : M.mode 7 = 0 := rfl
noncomputable def cd7 : Code := match Go.Proofs.Tryz.f7.body with | some c => c | none => .skip
theorem pl7 : plT 7 = [] := rfl
/-! loop.example/smithy/impl.FoldMod -/
theorem h8 : Has M 8 (TreeMod × Unit) (TreeMod) := ⟨fun _ => rfl, fun _ => rfl⟩
noncomputable def n8 (a0 : TreeMod) : Option (TreeMod) := fnO M 8 (TreeMod) (a0, ())
theorem c8 : (∀ {ρ : Type} (ds : List D) (F : D → Option ρ), ((lastR M).o 8 ds).bind F = (da (α := TreeMod × Unit) ds).bind (callN (fun x => n8 x.1) F)) ∧ ∀ aa, (envOf M aa).S 8 = some (.own ((lastR M).o 8)) := ⟨fun ds F => call_oK h8 ds F, fun _ => rfl⟩
theorem m8 : M.mode 8 = 0 := rfl
noncomputable def cd8 : Code := match Go.Proofs.Tryz.f8.body with | some c => c | none => .skip
theorem pl8 : plT 8 = [(7, [0, 1000, 2000, 4000, 4001, 5000, 5001, 7004]), (13, [0, 4, 5, 1004, 1005])] := rfl
theorem lv8_5 : lvT 8 5 = [1, 2, 3, 18, 19, 20] := rfl
theorem lv8_11 : lvT 8 11 = [2, 3, 41, 42, 43] := rfl
/-! loop.example/smithy/laws.eqTreeMod -/
theorem h9 : Has M 9 (TreeMod × TreeMod × Unit) (Bool) := ⟨fun _ => rfl, fun _ => rfl⟩
noncomputable def n9 (a0 : TreeMod) (a1 : TreeMod) : Option (Bool) := fnO M 9 (Bool) (a0, a1, ())
theorem c9 : (∀ {ρ : Type} (ds : List D) (F : D → Option ρ), ((lastR M).o 9 ds).bind F = (da (α := TreeMod × TreeMod × Unit) ds).bind (callN (fun x => n9 x.1 x.2.1) F)) ∧ ∀ aa, (envOf M aa).S 9 = some (.own ((lastR M).o 9)) := ⟨fun ds F => call_oK h9 ds F, fun _ => rfl⟩
theorem m9 : M.mode 9 = 0 := rfl
noncomputable def cd9 : Code := match Go.Proofs.Tryz.f9.body with | some c => c | none => .skip
theorem pl9 : plT 9 = [] := rfl
/-! loop.example/smithy/laws.markTreeMod -/
theorem h10 : Has M 10 (TreeMod × Int × Unit) (Int × TreeMod) := ⟨fun _ => rfl, fun _ => rfl⟩
noncomputable def n10 (a0 : TreeMod) (a1 : Int) : Option (Int × TreeMod) := fnI M 10 (Int) (a0, a1, ())
theorem c10 : (∀ {ρ : Type} (x : D) (ds : List D) (F : D × D → Option ρ), ((lastR M).i 10 x ds).bind F = (da (α := TreeMod × Int × Unit) (x :: ds)).bind (callI (fun x => n10 x.1 x.2.1) F)) ∧ ∀ aa, (envOf M aa).S 10 = some (.io ((lastR M).i 10)) := ⟨fun x ds F => call_iK h10 x ds F, fun _ => rfl⟩
theorem m10 : M.mode 10 = 2 := rfl
noncomputable def cd10 : Code := match Go.Proofs.Tryz.f10.body with | some c => c | none => .skip
theorem pl10 : plT 10 = [] := rfl
/-! loop.example/smithy/laws.heldTreeMod -/
theorem h11 : Has M 11 (TreeMod × Int × Unit) (Int) := ⟨fun _ => rfl, fun _ => rfl⟩
noncomputable def n11 (a0 : TreeMod) (a1 : Int) : Option (Int) := fnO M 11 (Int) (a0, a1, ())
theorem c11 : (∀ {ρ : Type} (ds : List D) (F : D → Option ρ), ((lastR M).o 11 ds).bind F = (da (α := TreeMod × Int × Unit) ds).bind (callN (fun x => n11 x.1 x.2.1) F)) ∧ ∀ aa, (envOf M aa).S 11 = some (.own ((lastR M).o 11)) := ⟨fun ds F => call_oK h11 ds F, fun _ => rfl⟩
theorem m11 : M.mode 11 = 0 := rfl
noncomputable def cd11 : Code := match Go.Proofs.Tryz.f11.body with | some c => c | none => .skip
theorem pl11 : plT 11 = [] := rfl
/-! loop.example/smithy/spec.DrawMeanRun -/
theorem h12 : Has M 12 ((List U8) × Unit) ((List MeanMod) × Int) := ⟨fun _ => rfl, fun _ => rfl⟩
noncomputable def n12 (a0 : (List U8)) : Option ((List MeanMod) × Int) := fnO M 12 ((List MeanMod) × Int) (a0, ())
theorem c12 : (∀ {ρ : Type} (ds : List D) (F : D → Option ρ), ((lastR M).o 12 ds).bind F = (da (α := (List U8) × Unit) ds).bind (callN (fun x => n12 x.1) F)) ∧ ∀ aa, (envOf M aa).S 12 = some (.own ((lastR M).o 12)) := ⟨fun ds F => call_oK h12 ds F, fun _ => rfl⟩
theorem m12 : M.mode 12 = 0 := rfl
noncomputable def cd12 : Code := match Go.Proofs.Tryz.f12.body with | some c => c | none => .skip
theorem pl12 : plT 12 = [] := rfl
/-! loop.example/smithy/spec.FaceOf -/
theorem h13 : Has M 13 (TreeMod × Unit) ((List FaceSig)) := ⟨fun _ => rfl, fun _ => rfl⟩
noncomputable def n13 (a0 : TreeMod) : Option ((List FaceSig)) := fnO M 13 ((List FaceSig)) (a0, ())
theorem c13 : (∀ {ρ : Type} (ds : List D) (F : D → Option ρ), ((lastR M).o 13 ds).bind F = (da (α := TreeMod × Unit) ds).bind (callN (fun x => n13 x.1) F)) ∧ ∀ aa, (envOf M aa).S 13 = some (.own ((lastR M).o 13)) := ⟨fun ds F => call_oK h13 ds F, fun _ => rfl⟩
theorem m13 : M.mode 13 = 0 := rfl
noncomputable def cd13 : Code := match Go.Proofs.Tryz.f13.body with | some c => c | none => .skip
theorem pl13 : plT 13 = [] := rfl
theorem lv13_5 : lvT 13 5 = [1, 3, 4] := rfl
/-! loop.example/smithy/spec.TreeSame -/
theorem h14 : Has M 14 (TreeMod × TreeMod × Unit) (Bool) := ⟨fun _ => rfl, fun _ => rfl⟩
noncomputable def n14 (a0 : TreeMod) (a1 : TreeMod) : Option (Bool) := fnO M 14 (Bool) (a0, a1, ())
theorem c14 : (∀ {ρ : Type} (ds : List D) (F : D → Option ρ), ((lastR M).o 14 ds).bind F = (da (α := TreeMod × TreeMod × Unit) ds).bind (callN (fun x => n14 x.1 x.2.1) F)) ∧ ∀ aa, (envOf M aa).S 14 = some (.own ((lastR M).o 14)) := ⟨fun ds F => call_oK h14 ds F, fun _ => rfl⟩
theorem m14 : M.mode 14 = 0 := rfl
noncomputable def cd14 : Code := match Go.Proofs.Tryz.f14.body with | some c => c | none => .skip
theorem pl14 : plT 14 = [] := rfl
theorem lv14_4 : lvT 14 4 = [2, 3, 5] := rfl
theorem lv14_9 : lvT 14 9 = [2, 3, 6] := rfl
/-! loop.example/smithy/impl.FoldGain -/
theorem h15 : Has M 15 (TreeMod × Unit) (Int) := ⟨fun _ => rfl, fun _ => rfl⟩
noncomputable def n15 (a0 : TreeMod) : Option (Int) := fnO M 15 (Int) (a0, ())
theorem c15 : (∀ {ρ : Type} (ds : List D) (F : D → Option ρ), ((lastR M).o 15 ds).bind F = (da (α := TreeMod × Unit) ds).bind (callN (fun x => n15 x.1) F)) ∧ ∀ aa, (envOf M aa).S 15 = some (.own ((lastR M).o 15)) := ⟨fun ds F => call_oK h15 ds F, fun _ => rfl⟩
theorem m15 : M.mode 15 = 0 := rfl
noncomputable def cd15 : Code := match Go.Proofs.Tryz.f15.body with | some c => c | none => .skip
theorem pl15 : plT 15 = [(3, [0, 2000])] := rfl
/-! loop.example/smithy/spec.FoldGain -/
theorem h16 : Has M 16 (TreeMod × Unit) (Int) := ⟨fun _ => rfl, fun _ => rfl⟩
noncomputable def n16 (a0 : TreeMod) : Option (Int) := fnO M 16 (Int) (a0, ())
theorem c16 : (∀ {ρ : Type} (ds : List D) (F : D → Option ρ), ((lastR M).o 16 ds).bind F = (da (α := TreeMod × Unit) ds).bind (callN (fun x => n16 x.1) F)) ∧ ∀ aa, (envOf M aa).S 16 = some (.own ((lastR M).o 16)) := ⟨fun ds F => call_oK h16 ds F, fun _ => rfl⟩
theorem m16 : M.mode 16 = 0 := rfl
noncomputable def cd16 : Code := match Go.Proofs.Tryz.f16.body with | some c => c | none => .skip
theorem pl16 : plT 16 = [(3, [0, 2000])] := rfl
/-! loop.example/smithy/impl.TreeSame -/
theorem h17 : Has M 17 (TreeMod × TreeMod × Unit) (Bool) := ⟨fun _ => rfl, fun _ => rfl⟩
noncomputable def n17 (a0 : TreeMod) (a1 : TreeMod) : Option (Bool) := fnO M 17 (Bool) (a0, a1, ())
theorem c17 : (∀ {ρ : Type} (ds : List D) (F : D → Option ρ), ((lastR M).o 17 ds).bind F = (da (α := TreeMod × TreeMod × Unit) ds).bind (callN (fun x => n17 x.1 x.2.1) F)) ∧ ∀ aa, (envOf M aa).S 17 = some (.own ((lastR M).o 17)) := ⟨fun ds F => call_oK h17 ds F, fun _ => rfl⟩
theorem m17 : M.mode 17 = 0 := rfl
noncomputable def cd17 : Code := match Go.Proofs.Tryz.f17.body with | some c => c | none => .skip
theorem pl17 : plT 17 = [] := rfl
/-! loop.example/smithy/spec.TypeMod -/
theorem h18 : Has M 18 (TreeMod × (List TypeFace) × Unit) (TypeFault) := ⟨fun _ => rfl, fun _ => rfl⟩
noncomputable def n18 (a0 : TreeMod) (a1 : (List TypeFace)) : Option (TypeFault) := fnO M 18 (TypeFault) (a0, a1, ())
theorem c18 : (∀ {ρ : Type} (ds : List D) (F : D → Option ρ), ((lastR M).o 18 ds).bind F = (da (α := TreeMod × (List TypeFace) × Unit) ds).bind (callN (fun x => n18 x.1 x.2.1) F)) ∧ ∀ aa, (envOf M aa).S 18 = some (.own ((lastR M).o 18)) := ⟨fun ds F => call_oK h18 ds F, fun _ => rfl⟩
theorem m18 : M.mode 18 = 0 := rfl
noncomputable def cd18 : Code := match Go.Proofs.Tryz.f18.body with | some c => c | none => .skip
theorem pl18 : plT 18 = [] := rfl
theorem lv18_4 : lvT 18 4 = [1, 2, 4, 5] := rfl
theorem lv18_10 : lvT 18 10 = [2, 4, 6, 7] := rfl
/-! loop.example/smithy/impl.TypeMod -/
theorem h19 : Has M 19 (TreeMod × (List TypeFace) × Unit) (TypeFault) := ⟨fun _ => rfl, fun _ => rfl⟩
noncomputable def n19 (a0 : TreeMod) (a1 : (List TypeFace)) : Option (TypeFault) := fnO M 19 (TypeFault) (a0, a1, ())
theorem c19 : (∀ {ρ : Type} (ds : List D) (F : D → Option ρ), ((lastR M).o 19 ds).bind F = (da (α := TreeMod × (List TypeFace) × Unit) ds).bind (callN (fun x => n19 x.1 x.2.1) F)) ∧ ∀ aa, (envOf M aa).S 19 = some (.own ((lastR M).o 19)) := ⟨fun ds F => call_oK h19 ds F, fun _ => rfl⟩
theorem m19 : M.mode 19 = 0 := rfl
noncomputable def cd19 : Code := match Go.Proofs.Tryz.f19.body with | some c => c | none => .skip
theorem pl19 : plT 19 = [] := rfl
/-! loop.example/smithy/laws.wfSame -/
theorem h20 : Has M 20 ((List FaceSig) × (List FaceSig) × Unit) (Bool) := ⟨fun _ => rfl, fun _ => rfl⟩
noncomputable def n20 (a0 : (List FaceSig)) (a1 : (List FaceSig)) : Option (Bool) := fnO M 20 (Bool) (a0, a1, ())
theorem c20 : (∀ {ρ : Type} (ds : List D) (F : D → Option ρ), ((lastR M).o 20 ds).bind F = (da (α := (List FaceSig) × (List FaceSig) × Unit) ds).bind (callN (fun x => n20 x.1 x.2.1) F)) ∧ ∀ aa, (envOf M aa).S 20 = some (.own ((lastR M).o 20)) := ⟨fun ds F => call_oK h20 ds F, fun _ => rfl⟩
theorem m20 : M.mode 20 = 0 := rfl
noncomputable def cd20 : Code := match Go.Proofs.Tryz.f20.body with | some c => c | none => .skip
theorem pl20 : plT 20 = [] := rfl
theorem lv20_4 : lvT 20 4 = [0, 1, 5] := rfl
theorem lv20_9 : lvT 20 9 = [0, 1, 5, 6] := rfl
/-! loop.example/smithy/impl.FaceOf -/
theorem h21 : Has M 21 (TreeMod × Unit) ((List FaceSig)) := ⟨fun _ => rfl, fun _ => rfl⟩
noncomputable def n21 (a0 : TreeMod) : Option ((List FaceSig)) := fnO M 21 ((List FaceSig)) (a0, ())
theorem c21 : (∀ {ρ : Type} (ds : List D) (F : D → Option ρ), ((lastR M).o 21 ds).bind F = (da (α := TreeMod × Unit) ds).bind (callN (fun x => n21 x.1) F)) ∧ ∀ aa, (envOf M aa).S 21 = some (.own ((lastR M).o 21)) := ⟨fun ds F => call_oK h21 ds F, fun _ => rfl⟩
theorem m21 : M.mode 21 = 0 := rfl
noncomputable def cd21 : Code := match Go.Proofs.Tryz.f21.body with | some c => c | none => .skip
theorem pl21 : plT 21 = [] := rfl
/-! loop.example/smithy/impl.MeanRun -/
theorem h22 : Has M 22 ((List MeanMod) × Int × Unit) (MeanEnd) := ⟨fun _ => rfl, fun _ => rfl⟩
noncomputable def n22 (a0 : (List MeanMod)) (a1 : Int) : Option (MeanEnd) := fnO M 22 (MeanEnd) (a0, a1, ())
theorem c22 : (∀ {ρ : Type} (ds : List D) (F : D → Option ρ), ((lastR M).o 22 ds).bind F = (da (α := (List MeanMod) × Int × Unit) ds).bind (callN (fun x => n22 x.1 x.2.1) F)) ∧ ∀ aa, (envOf M aa).S 22 = some (.own ((lastR M).o 22)) := ⟨fun ds F => call_oK h22 ds F, fun _ => rfl⟩
theorem m22 : M.mode 22 = 0 := rfl
noncomputable def cd22 : Code := match Go.Proofs.Tryz.f22.body with | some c => c | none => .skip
theorem pl22 : plT 22 = [] := rfl
/-! loop.example/smithy/laws.weOut -/
theorem h23 : Has M 23 ((List Int) × (List Int) × Int × Unit) (Bool) := ⟨fun _ => rfl, fun _ => rfl⟩
noncomputable def n23 (a0 : (List Int)) (a1 : (List Int)) (a2 : Int) : Option (Bool) := fnO M 23 (Bool) (a0, a1, a2, ())
theorem c23 : (∀ {ρ : Type} (ds : List D) (F : D → Option ρ), ((lastR M).o 23 ds).bind F = (da (α := (List Int) × (List Int) × Int × Unit) ds).bind (callN (fun x => n23 x.1 x.2.1 x.2.2.1) F)) ∧ ∀ aa, (envOf M aa).S 23 = some (.own ((lastR M).o 23)) := ⟨fun ds F => call_oK h23 ds F, fun _ => rfl⟩
theorem m23 : M.mode 23 = 0 := rfl
noncomputable def cd23 : Code := match Go.Proofs.Tryz.f23.body with | some c => c | none => .skip
theorem pl23 : plT 23 = [] := rfl
theorem lv23_4 : lvT 23 4 = [0, 1, 2, 7] := rfl
/-! loop.example/smithy/laws.szStringS -/
theorem h24 : Has M 24 ((List ByteArray) × Int × Unit) (Int) := ⟨fun _ => rfl, fun _ => rfl⟩
noncomputable def n24 (a0 : (List ByteArray)) (a1 : Int) : Option (Int) := fnO M 24 (Int) (a0, a1, ())
theorem c24 : (∀ {ρ : Type} (ds : List D) (F : D → Option ρ), ((lastR M).o 24 ds).bind F = (da (α := (List ByteArray) × Int × Unit) ds).bind (callN (fun x => n24 x.1 x.2.1) F)) ∧ ∀ aa, (envOf M aa).S 24 = some (.own ((lastR M).o 24)) := ⟨fun ds F => call_oK h24 ds F, fun _ => rfl⟩
theorem m24 : M.mode 24 = 0 := rfl
noncomputable def cd24 : Code := match Go.Proofs.Tryz.f24.body with | some c => c | none => .skip
theorem pl24 : plT 24 = [] := rfl
theorem lv24_5 : lvT 24 5 = [0, 1, 5] := rfl
/-! loop.example/smithy/laws.szTreeFunS -/
theorem h25 : Has M 25 ((List TreeFun) × Int × Unit) (Int) := ⟨fun _ => rfl, fun _ => rfl⟩
noncomputable def n25 (a0 : (List TreeFun)) (a1 : Int) : Option (Int) := fnO M 25 (Int) (a0, a1, ())
theorem c25 : (∀ {ρ : Type} (ds : List D) (F : D → Option ρ), ((lastR M).o 25 ds).bind F = (da (α := (List TreeFun) × Int × Unit) ds).bind (callN (fun x => n25 x.1 x.2.1) F)) ∧ ∀ aa, (envOf M aa).S 25 = some (.own ((lastR M).o 25)) := ⟨fun ds F => call_oK h25 ds F, fun _ => rfl⟩
theorem m25 : M.mode 25 = 0 := rfl
noncomputable def cd25 : Code := match Go.Proofs.Tryz.f25.body with | some c => c | none => .skip
theorem pl25 : plT 25 = [] := rfl
theorem lv25_5 : lvT 25 5 = [0, 1, 5] := rfl
/-! loop.example/smithy/laws.szTreeExprS -/
theorem h26 : Has M 26 ((List TreeExpr) × Int × Unit) (Int) := ⟨fun _ => rfl, fun _ => rfl⟩
noncomputable def n26 (a0 : (List TreeExpr)) (a1 : Int) : Option (Int) := fnO M 26 (Int) (a0, a1, ())
theorem c26 : (∀ {ρ : Type} (ds : List D) (F : D → Option ρ), ((lastR M).o 26 ds).bind F = (da (α := (List TreeExpr) × Int × Unit) ds).bind (callN (fun x => n26 x.1 x.2.1) F)) ∧ ∀ aa, (envOf M aa).S 26 = some (.own ((lastR M).o 26)) := ⟨fun ds F => call_oK h26 ds F, fun _ => rfl⟩
theorem m26 : M.mode 26 = 0 := rfl
noncomputable def cd26 : Code := match Go.Proofs.Tryz.f26.body with | some c => c | none => .skip
theorem pl26 : plT 26 = [] := rfl
theorem lv26_5 : lvT 26 5 = [0, 1, 5] := rfl
/-! loop.example/smithy/spec.TreeOk -/
theorem h27 : Has M 27 (TreeMod × Unit) (Bool) := ⟨fun _ => rfl, fun _ => rfl⟩
noncomputable def n27 (a0 : TreeMod) : Option (Bool) := fnO M 27 (Bool) (a0, ())
theorem c27 : (∀ {ρ : Type} (ds : List D) (F : D → Option ρ), ((lastR M).o 27 ds).bind F = (da (α := TreeMod × Unit) ds).bind (callN (fun x => n27 x.1) F)) ∧ ∀ aa, (envOf M aa).S 27 = some (.own ((lastR M).o 27)) := ⟨fun ds F => call_oK h27 ds F, fun _ => rfl⟩
theorem m27 : M.mode 27 = 0 := rfl
noncomputable def cd27 : Code := match Go.Proofs.Tryz.f27.body with | some c => c | none => .skip
theorem pl27 : plT 27 = [] := rfl
theorem lv27_5 : lvT 27 5 = [1, 3, 4] := rfl
/-! loop.example/smithy/spec.l18Fold -/
theorem h28 : Has M 28 (TreeExpr × Unit) (TreeExpr) := ⟨fun _ => rfl, fun _ => rfl⟩
noncomputable def n28 (a0 : TreeExpr) : Option (TreeExpr) := fnO M 28 (TreeExpr) (a0, ())
theorem c28 : (∀ {ρ : Type} (ds : List D) (F : D → Option ρ), ((lastR M).o 28 ds).bind F = (da (α := TreeExpr × Unit) ds).bind (callN (fun x => n28 x.1) F)) ∧ ∀ aa, (envOf M aa).S 28 = some (.own ((lastR M).o 28)) := ⟨fun ds F => call_oK h28 ds F, fun _ => rfl⟩
theorem m28 : M.mode 28 = 4 := rfl
noncomputable def cd28 : Code := match Go.Proofs.Tryz.f28.body with | some c => c | none => .skip
theorem pl28 : plT 28 = [] := rfl
theorem lv28_3 : lvT 28 3 = [1, 2, 3, 4] := rfl
/-! loop.example/smithy/laws.toStringS -/
theorem h29 : Has M 29 ((List ByteArray) × Unit) ((List ByteArray)) := ⟨fun _ => rfl, fun _ => rfl⟩
noncomputable def n29 (a0 : (List ByteArray)) : Option ((List ByteArray)) := fnO M 29 ((List ByteArray)) (a0, ())
theorem c29 : (∀ {ρ : Type} (ds : List D) (F : D → Option ρ), ((lastR M).o 29 ds).bind F = (da (α := (List ByteArray) × Unit) ds).bind (callN (fun x => n29 x.1) F)) ∧ ∀ aa, (envOf M aa).S 29 = some (.own ((lastR M).o 29)) := ⟨fun ds F => call_oK h29 ds F, fun _ => rfl⟩
theorem m29 : M.mode 29 = 0 := rfl
noncomputable def cd29 : Code := match Go.Proofs.Tryz.f29.body with | some c => c | none => .skip
theorem pl29 : plT 29 = [] := rfl
theorem lv29_3 : lvT 29 3 = [0, 3, 4] := rfl
/-! loop.example/smithy/laws.toTreeFunS -/
theorem h30 : Has M 30 ((List TreeFun) × Unit) ((List TreeFun)) := ⟨fun _ => rfl, fun _ => rfl⟩
noncomputable def n30 (a0 : (List TreeFun)) : Option ((List TreeFun)) := fnO M 30 ((List TreeFun)) (a0, ())
theorem c30 : (∀ {ρ : Type} (ds : List D) (F : D → Option ρ), ((lastR M).o 30 ds).bind F = (da (α := (List TreeFun) × Unit) ds).bind (callN (fun x => n30 x.1) F)) ∧ ∀ aa, (envOf M aa).S 30 = some (.own ((lastR M).o 30)) := ⟨fun ds F => call_oK h30 ds F, fun _ => rfl⟩
theorem m30 : M.mode 30 = 0 := rfl
noncomputable def cd30 : Code := match Go.Proofs.Tryz.f30.body with | some c => c | none => .skip
theorem pl30 : plT 30 = [] := rfl
theorem lv30_3 : lvT 30 3 = [0, 3, 4] := rfl
/-! loop.example/smithy/laws.toTreeExprS -/
theorem h31 : Has M 31 ((List TreeExpr) × Unit) ((List TreeExpr)) := ⟨fun _ => rfl, fun _ => rfl⟩
noncomputable def n31 (a0 : (List TreeExpr)) : Option ((List TreeExpr)) := fnO M 31 ((List TreeExpr)) (a0, ())
theorem c31 : (∀ {ρ : Type} (ds : List D) (F : D → Option ρ), ((lastR M).o 31 ds).bind F = (da (α := (List TreeExpr) × Unit) ds).bind (callN (fun x => n31 x.1) F)) ∧ ∀ aa, (envOf M aa).S 31 = some (.own ((lastR M).o 31)) := ⟨fun ds F => call_oK h31 ds F, fun _ => rfl⟩
theorem m31 : M.mode 31 = 0 := rfl
noncomputable def cd31 : Code := match Go.Proofs.Tryz.f31.body with | some c => c | none => .skip
theorem pl31 : plT 31 = [] := rfl
theorem lv31_3 : lvT 31 3 = [0, 3, 4] := rfl
/-! loop.example/smithy/impl.TreeOk -/
theorem h32 : Has M 32 (TreeMod × Unit) (Bool) := ⟨fun _ => rfl, fun _ => rfl⟩
noncomputable def n32 (a0 : TreeMod) : Option (Bool) := fnO M 32 (Bool) (a0, ())
theorem c32 : (∀ {ρ : Type} (ds : List D) (F : D → Option ρ), ((lastR M).o 32 ds).bind F = (da (α := TreeMod × Unit) ds).bind (callN (fun x => n32 x.1) F)) ∧ ∀ aa, (envOf M aa).S 32 = some (.own ((lastR M).o 32)) := ⟨fun ds F => call_oK h32 ds F, fun _ => rfl⟩
theorem m32 : M.mode 32 = 0 := rfl
noncomputable def cd32 : Code := match Go.Proofs.Tryz.f32.body with | some c => c | none => .skip
theorem pl32 : plT 32 = [] := rfl
theorem lv32_5 : lvT 32 5 = [1, 3, 4, 35, 36, 37] := rfl
theorem lv32_12 : lvT 32 12 = [3, 4, 70, 71, 72] := rfl
/-! loop.example/smithy/impl.fold -/
theorem h33 : Has M 33 (TreeExpr × Unit) (TreeExpr) := ⟨fun _ => rfl, fun _ => rfl⟩
noncomputable def n33 (a0 : TreeExpr) : Option (TreeExpr) := fnO M 33 (TreeExpr) (a0, ())
theorem c33 : (∀ {ρ : Type} (ds : List D) (F : D → Option ρ), ((lastR M).o 33 ds).bind F = (da (α := TreeExpr × Unit) ds).bind (callN (fun x => n33 x.1) F)) ∧ ∀ aa, (envOf M aa).S 33 = some (.own ((lastR M).o 33)) := ⟨fun ds F => call_oK h33 ds F, fun _ => rfl⟩
theorem m33 : M.mode 33 = 0 := rfl
noncomputable def cd33 : Code := match Go.Proofs.Tryz.f33.body with | some c => c | none => .skip
theorem pl33 : plT 33 = [(5, [0, 4, 5, 1004, 1005])] := rfl
theorem lv33_3 : lvT 33 3 = [2, 3, 16, 17, 18] := rfl
/-! loop.example/smithy/laws.eqStringS -/
theorem h34 : Has M 34 ((List ByteArray) × (List ByteArray) × Unit) (Bool) := ⟨fun _ => rfl, fun _ => rfl⟩
noncomputable def n34 (a0 : (List ByteArray)) (a1 : (List ByteArray)) : Option (Bool) := fnO M 34 (Bool) (a0, a1, ())
theorem c34 : (∀ {ρ : Type} (ds : List D) (F : D → Option ρ), ((lastR M).o 34 ds).bind F = (da (α := (List ByteArray) × (List ByteArray) × Unit) ds).bind (callN (fun x => n34 x.1 x.2.1) F)) ∧ ∀ aa, (envOf M aa).S 34 = some (.own ((lastR M).o 34)) := ⟨fun ds F => call_oK h34 ds F, fun _ => rfl⟩
theorem m34 : M.mode 34 = 0 := rfl
noncomputable def cd34 : Code := match Go.Proofs.Tryz.f34.body with | some c => c | none => .skip
theorem pl34 : plT 34 = [] := rfl
theorem lv34_4 : lvT 34 4 = [0, 1, 5] := rfl
/-! loop.example/smithy/laws.eqTreeFunS -/
theorem h35 : Has M 35 ((List TreeFun) × (List TreeFun) × Unit) (Bool) := ⟨fun _ => rfl, fun _ => rfl⟩
noncomputable def n35 (a0 : (List TreeFun)) (a1 : (List TreeFun)) : Option (Bool) := fnO M 35 (Bool) (a0, a1, ())
theorem c35 : (∀ {ρ : Type} (ds : List D) (F : D → Option ρ), ((lastR M).o 35 ds).bind F = (da (α := (List TreeFun) × (List TreeFun) × Unit) ds).bind (callN (fun x => n35 x.1 x.2.1) F)) ∧ ∀ aa, (envOf M aa).S 35 = some (.own ((lastR M).o 35)) := ⟨fun ds F => call_oK h35 ds F, fun _ => rfl⟩
theorem m35 : M.mode 35 = 0 := rfl
noncomputable def cd35 : Code := match Go.Proofs.Tryz.f35.body with | some c => c | none => .skip
theorem pl35 : plT 35 = [] := rfl
theorem lv35_4 : lvT 35 4 = [0, 1, 5] := rfl
/-! loop.example/smithy/laws.eqTreeExprS -/
theorem h36 : Has M 36 ((List TreeExpr) × (List TreeExpr) × Unit) (Bool) := ⟨fun _ => rfl, fun _ => rfl⟩
noncomputable def n36 (a0 : (List TreeExpr)) (a1 : (List TreeExpr)) : Option (Bool) := fnO M 36 (Bool) (a0, a1, ())
theorem c36 : (∀ {ρ : Type} (ds : List D) (F : D → Option ρ), ((lastR M).o 36 ds).bind F = (da (α := (List TreeExpr) × (List TreeExpr) × Unit) ds).bind (callN (fun x => n36 x.1 x.2.1) F)) ∧ ∀ aa, (envOf M aa).S 36 = some (.own ((lastR M).o 36)) := ⟨fun ds F => call_oK h36 ds F, fun _ => rfl⟩
theorem m36 : M.mode 36 = 0 := rfl
noncomputable def cd36 : Code := match Go.Proofs.Tryz.f36.body with | some c => c | none => .skip
theorem pl36 : plT 36 = [] := rfl
theorem lv36_4 : lvT 36 4 = [0, 1, 5] := rfl
/-! loop.example/smithy/laws.markStringS -/
theorem h37 : Has M 37 ((List ByteArray) × Int × Unit) (Int × (List ByteArray)) := ⟨fun _ => rfl, fun _ => rfl⟩
noncomputable def n37 (a0 : (List ByteArray)) (a1 : Int) : Option (Int × (List ByteArray)) := fnI M 37 (Int) (a0, a1, ())
theorem c37 : (∀ {ρ : Type} (x : D) (ds : List D) (F : D × D → Option ρ), ((lastR M).i 37 x ds).bind F = (da (α := (List ByteArray) × Int × Unit) (x :: ds)).bind (callI (fun x => n37 x.1 x.2.1) F)) ∧ ∀ aa, (envOf M aa).S 37 = some (.io ((lastR M).i 37)) := ⟨fun x ds F => call_iK h37 x ds F, fun _ => rfl⟩
theorem m37 : M.mode 37 = 2 := rfl
noncomputable def cd37 : Code := match Go.Proofs.Tryz.f37.body with | some c => c | none => .skip
theorem pl37 : plT 37 = [] := rfl
theorem lv37_2 : lvT 37 2 = [0, 1, 5] := rfl
/-! loop.example/smithy/laws.markTreeFunS -/
theorem h38 : Has M 38 ((List TreeFun) × Int × Unit) (Int × (List TreeFun)) := ⟨fun _ => rfl, fun _ => rfl⟩
noncomputable def n38 (a0 : (List TreeFun)) (a1 : Int) : Option (Int × (List TreeFun)) := fnI M 38 (Int) (a0, a1, ())
theorem c38 : (∀ {ρ : Type} (x : D) (ds : List D) (F : D × D → Option ρ), ((lastR M).i 38 x ds).bind F = (da (α := (List TreeFun) × Int × Unit) (x :: ds)).bind (callI (fun x => n38 x.1 x.2.1) F)) ∧ ∀ aa, (envOf M aa).S 38 = some (.io ((lastR M).i 38)) := ⟨fun x ds F => call_iK h38 x ds F, fun _ => rfl⟩
theorem m38 : M.mode 38 = 2 := rfl
noncomputable def cd38 : Code := match Go.Proofs.Tryz.f38.body with | some c => c | none => .skip
theorem pl38 : plT 38 = [] := rfl
theorem lv38_2 : lvT 38 2 = [0, 1, 5] := rfl
/-! loop.example/smithy/laws.markTreeExprS -/
theorem h39 : Has M 39 ((List TreeExpr) × Int × Unit) (Int × (List TreeExpr)) := ⟨fun _ => rfl, fun _ => rfl⟩
noncomputable def n39 (a0 : (List TreeExpr)) (a1 : Int) : Option (Int × (List TreeExpr)) := fnI M 39 (Int) (a0, a1, ())
theorem c39 : (∀ {ρ : Type} (x : D) (ds : List D) (F : D × D → Option ρ), ((lastR M).i 39 x ds).bind F = (da (α := (List TreeExpr) × Int × Unit) (x :: ds)).bind (callI (fun x => n39 x.1 x.2.1) F)) ∧ ∀ aa, (envOf M aa).S 39 = some (.io ((lastR M).i 39)) := ⟨fun x ds F => call_iK h39 x ds F, fun _ => rfl⟩
theorem m39 : M.mode 39 = 2 := rfl
noncomputable def cd39 : Code := match Go.Proofs.Tryz.f39.body with | some c => c | none => .skip
theorem pl39 : plT 39 = [] := rfl
theorem lv39_2 : lvT 39 2 = [0, 1, 5] := rfl
/-! loop.example/smithy/laws.heldStringS -/
theorem h40 : Has M 40 ((List ByteArray) × Int × Unit) (Int) := ⟨fun _ => rfl, fun _ => rfl⟩
noncomputable def n40 (a0 : (List ByteArray)) (a1 : Int) : Option (Int) := fnO M 40 (Int) (a0, a1, ())
theorem c40 : (∀ {ρ : Type} (ds : List D) (F : D → Option ρ), ((lastR M).o 40 ds).bind F = (da (α := (List ByteArray) × Int × Unit) ds).bind (callN (fun x => n40 x.1 x.2.1) F)) ∧ ∀ aa, (envOf M aa).S 40 = some (.own ((lastR M).o 40)) := ⟨fun ds F => call_oK h40 ds F, fun _ => rfl⟩
theorem m40 : M.mode 40 = 0 := rfl
noncomputable def cd40 : Code := match Go.Proofs.Tryz.f40.body with | some c => c | none => .skip
theorem pl40 : plT 40 = [] := rfl
theorem lv40_2 : lvT 40 2 = [0, 1, 5] := rfl
/-! loop.example/smithy/laws.heldTreeFunS -/
theorem h41 : Has M 41 ((List TreeFun) × Int × Unit) (Int) := ⟨fun _ => rfl, fun _ => rfl⟩
noncomputable def n41 (a0 : (List TreeFun)) (a1 : Int) : Option (Int) := fnO M 41 (Int) (a0, a1, ())
theorem c41 : (∀ {ρ : Type} (ds : List D) (F : D → Option ρ), ((lastR M).o 41 ds).bind F = (da (α := (List TreeFun) × Int × Unit) ds).bind (callN (fun x => n41 x.1 x.2.1) F)) ∧ ∀ aa, (envOf M aa).S 41 = some (.own ((lastR M).o 41)) := ⟨fun ds F => call_oK h41 ds F, fun _ => rfl⟩
theorem m41 : M.mode 41 = 0 := rfl
noncomputable def cd41 : Code := match Go.Proofs.Tryz.f41.body with | some c => c | none => .skip
theorem pl41 : plT 41 = [] := rfl
theorem lv41_2 : lvT 41 2 = [0, 1, 5] := rfl
/-! loop.example/smithy/laws.heldTreeExprS -/
theorem h42 : Has M 42 ((List TreeExpr) × Int × Unit) (Int) := ⟨fun _ => rfl, fun _ => rfl⟩
noncomputable def n42 (a0 : (List TreeExpr)) (a1 : Int) : Option (Int) := fnO M 42 (Int) (a0, a1, ())
theorem c42 : (∀ {ρ : Type} (ds : List D) (F : D → Option ρ), ((lastR M).o 42 ds).bind F = (da (α := (List TreeExpr) × Int × Unit) ds).bind (callN (fun x => n42 x.1 x.2.1) F)) ∧ ∀ aa, (envOf M aa).S 42 = some (.own ((lastR M).o 42)) := ⟨fun ds F => call_oK h42 ds F, fun _ => rfl⟩
theorem m42 : M.mode 42 = 0 := rfl
noncomputable def cd42 : Code := match Go.Proofs.Tryz.f42.body with | some c => c | none => .skip
theorem pl42 : plT 42 = [] := rfl
theorem lv42_2 : lvT 42 2 = [0, 1, 5] := rfl
/-! loop.example/smithy/spec.l3Put -/
theorem h49 : Has M 49 ((List FaceSig) × FaceSig × Unit) ((List FaceSig)) := ⟨fun _ => rfl, fun _ => rfl⟩
noncomputable def n49 (a0 : (List FaceSig)) (a1 : FaceSig) : Option ((List FaceSig)) := fnO M 49 ((List FaceSig)) (a0, a1, ())
theorem c49 : (∀ {ρ : Type} (ds : List D) (F : D → Option ρ), ((lastR M).o 49 ds).bind F = (da (α := (List FaceSig) × FaceSig × Unit) ds).bind (callN (fun x => n49 x.1 x.2.1) F)) ∧ ∀ aa, (envOf M aa).S 49 = some (.own ((lastR M).o 49)) := ⟨fun ds F => call_oK h49 ds F, fun _ => rfl⟩
theorem m49 : M.mode 49 = 0 := rfl
noncomputable def cd49 : Code := match Go.Proofs.Tryz.f49.body with | some c => c | none => .skip
theorem pl49 : plT 49 = [] := rfl
theorem lv49_2 : lvT 49 2 = [0, 3, 5] := rfl
/-! loop.example/smithy/spec.l3Of -/
theorem h50 : Has M 50 (TreeFun × Unit) (FaceSig) := ⟨fun _ => rfl, fun _ => rfl⟩
noncomputable def n50 (a0 : TreeFun) : Option (FaceSig) := fnO M 50 (FaceSig) (a0, ())
theorem c50 : (∀ {ρ : Type} (ds : List D) (F : D → Option ρ), ((lastR M).o 50 ds).bind F = (da (α := TreeFun × Unit) ds).bind (callN (fun x => n50 x.1) F)) ∧ ∀ aa, (envOf M aa).S 50 = some (.own ((lastR M).o 50)) := ⟨fun ds F => call_oK h50 ds F, fun _ => rfl⟩
theorem m50 : M.mode 50 = 0 := rfl
noncomputable def cd50 : Code := match Go.Proofs.Tryz.f50.body with | some c => c | none => .skip
theorem pl50 : plT 50 = [(5, [0, 9, 1009])] := rfl
theorem lv50_3 : lvT 50 3 = [1, 2, 3, 4] := rfl
/-! loop.example/smithy/spec.l2Strings -/
theorem h51 : Has M 51 ((List ByteArray) × (List ByteArray) × Unit) (Bool) := ⟨fun _ => rfl, fun _ => rfl⟩
noncomputable def n51 (a0 : (List ByteArray)) (a1 : (List ByteArray)) : Option (Bool) := fnO M 51 (Bool) (a0, a1, ())
theorem c51 : (∀ {ρ : Type} (ds : List D) (F : D → Option ρ), ((lastR M).o 51 ds).bind F = (da (α := (List ByteArray) × (List ByteArray) × Unit) ds).bind (callN (fun x => n51 x.1 x.2.1) F)) ∧ ∀ aa, (envOf M aa).S 51 = some (.own ((lastR M).o 51)) := ⟨fun ds F => call_oK h51 ds F, fun _ => rfl⟩
theorem m51 : M.mode 51 = 0 := rfl
noncomputable def cd51 : Code := match Go.Proofs.Tryz.f51.body with | some c => c | none => .skip
theorem pl51 : plT 51 = [] := rfl
theorem lv51_4 : lvT 51 4 = [0, 1, 5] := rfl
/-! loop.example/smithy/spec.l2SameFun -/
theorem h52 : Has M 52 (TreeFun × TreeFun × Unit) (Bool) := ⟨fun _ => rfl, fun _ => rfl⟩
noncomputable def n52 (a0 : TreeFun) (a1 : TreeFun) : Option (Bool) := fnO M 52 (Bool) (a0, a1, ())
theorem c52 : (∀ {ρ : Type} (ds : List D) (F : D → Option ρ), ((lastR M).o 52 ds).bind F = (da (α := TreeFun × TreeFun × Unit) ds).bind (callN (fun x => n52 x.1 x.2.1) F)) ∧ ∀ aa, (envOf M aa).S 52 = some (.own ((lastR M).o 52)) := ⟨fun ds F => call_oK h52 ds F, fun _ => rfl⟩
theorem m52 : M.mode 52 = 0 := rfl
noncomputable def cd52 : Code := match Go.Proofs.Tryz.f52.body with | some c => c | none => .skip
theorem pl52 : plT 52 = [] := rfl
theorem lv52_4 : lvT 52 4 = [2, 3, 5] := rfl
/-! loop.example/smithy/spec.l2SameExpr -/
theorem h53 : Has M 53 (TreeExpr × TreeExpr × Unit) (Bool) := ⟨fun _ => rfl, fun _ => rfl⟩
noncomputable def n53 (a0 : TreeExpr) (a1 : TreeExpr) : Option (Bool) := fnO M 53 (Bool) (a0, a1, ())
theorem c53 : (∀ {ρ : Type} (ds : List D) (F : D → Option ρ), ((lastR M).o 53 ds).bind F = (da (α := TreeExpr × TreeExpr × Unit) ds).bind (callN (fun x => n53 x.1 x.2.1) F)) ∧ ∀ aa, (envOf M aa).S 53 = some (.own ((lastR M).o 53)) := ⟨fun ds F => call_oK h53 ds F, fun _ => rfl⟩
theorem m53 : M.mode 53 = 0 := rfl
noncomputable def cd53 : Code := match Go.Proofs.Tryz.f53.body with | some c => c | none => .skip
theorem pl53 : plT 53 = [] := rfl
theorem lv53_4 : lvT 53 4 = [2, 3, 5] := rfl
/-! (loop.example/smithy/impl.TreeMod).size -/
theorem h54 : Has M 54 (TreeMod × Unit) (Int) := ⟨fun _ => rfl, fun _ => rfl⟩
noncomputable def n54 (a0 : TreeMod) : Option (Int) := fnO M 54 (Int) (a0, ())
theorem c54 : (∀ {ρ : Type} (ds : List D) (F : D → Option ρ), ((lastR M).o 54 ds).bind F = (da (α := TreeMod × Unit) ds).bind (callN (fun x => n54 x.1) F)) ∧ ∀ aa, (envOf M aa).S 54 = some (.own ((lastR M).o 54)) := ⟨fun ds F => call_oK h54 ds F, fun _ => rfl⟩
theorem m54 : M.mode 54 = 0 := rfl
noncomputable def cd54 : Code := match Go.Proofs.Tryz.f54.body with | some c => c | none => .skip
theorem pl54 : plT 54 = [] := rfl
theorem lv54_3 : lvT 54 3 = [3, 9, 10, 11] := rfl
/-! loop.example/smithy/spec.l18Size -/
theorem h55 : Has M 55 (TreeMod × Unit) (Int) := ⟨fun _ => rfl, fun _ => rfl⟩
noncomputable def n55 (a0 : TreeMod) : Option (Int) := fnO M 55 (Int) (a0, ())
theorem c55 : (∀ {ρ : Type} (ds : List D) (F : D → Option ρ), ((lastR M).o 55 ds).bind F = (da (α := TreeMod × Unit) ds).bind (callN (fun x => n55 x.1) F)) ∧ ∀ aa, (envOf M aa).S 55 = some (.own ((lastR M).o 55)) := ⟨fun ds F => call_oK h55 ds F, fun _ => rfl⟩
theorem m55 : M.mode 55 = 0 := rfl
noncomputable def cd55 : Code := match Go.Proofs.Tryz.f55.body with | some c => c | none => .skip
theorem pl55 : plT 55 = [] := rfl
theorem lv55_3 : lvT 55 3 = [1, 3, 4] := rfl
theorem lv55_8 : lvT 55 8 = [1, 3, 7] := rfl
/-! slices.Equal[[]string,string] -/
theorem h56 : Has M 56 ((List ByteArray) × (List ByteArray) × Unit) (Bool) := ⟨fun _ => rfl, fun _ => rfl⟩
noncomputable def n56 (a0 : (List ByteArray)) (a1 : (List ByteArray)) : Option (Bool) := fnO M 56 (Bool) (a0, a1, ())
theorem c56 : (∀ {ρ : Type} (ds : List D) (F : D → Option ρ), ((lastR M).o 56 ds).bind F = (da (α := (List ByteArray) × (List ByteArray) × Unit) ds).bind (callN (fun x => n56 x.1 x.2.1) F)) ∧ ∀ aa, (envOf M aa).S 56 = some (.own ((lastR M).o 56)) := ⟨fun ds F => call_oK h56 ds F, fun _ => rfl⟩
theorem m56 : M.mode 56 = 0 := rfl
noncomputable def cd56 : Code := match Go.Proofs.Tryz.f56.body with | some c => c | none => .skip
theorem pl56 : plT 56 = [] := rfl
theorem lv56_4 : lvT 56 4 = [0, 1, 12, 13] := rfl
/-! slices.EqualFunc[[]loop.example/smithy/impl.TreeFun,[]loop.example/smithy/impl.TreeFun,loop.example/smithy/impl.TreeFun,loop.example/smithy/impl.TreeFun] -/
theorem h57 : Has M 57 ((List TreeFun) × (List TreeFun) × Fv × Unit) (Bool) := ⟨fun _ => rfl, fun _ => rfl⟩
noncomputable def n57 (a0 : (List TreeFun)) (a1 : (List TreeFun)) (a2 : Fv) : Option (Bool) := fnO M 57 (Bool) (a0, a1, a2, ())
theorem c57 : (∀ {ρ : Type} (ds : List D) (F : D → Option ρ), ((lastR M).o 57 ds).bind F = (da (α := (List TreeFun) × (List TreeFun) × Fv × Unit) ds).bind (callN (fun x => n57 x.1 x.2.1 x.2.2.1) F)) ∧ ∀ aa, (envOf M aa).S 57 = some (.own ((lastR M).o 57)) := ⟨fun ds F => call_oK h57 ds F, fun _ => rfl⟩
theorem m57 : M.mode 57 = 0 := rfl
noncomputable def cd57 : Code := match Go.Proofs.Tryz.f57.body with | some c => c | none => .skip
theorem pl57 : plT 57 = [] := rfl
theorem lv57_4 : lvT 57 4 = [1, 2, 15, 16, 17] := rfl
/-! loop.example/smithy/impl.sameFun -/
theorem h58 : Has M 58 (TreeFun × TreeFun × Unit) (Bool) := ⟨fun _ => rfl, fun _ => rfl⟩
noncomputable def n58 (a0 : TreeFun) (a1 : TreeFun) : Option (Bool) := fnO M 58 (Bool) (a0, a1, ())
theorem c58 : (∀ {ρ : Type} (ds : List D) (F : D → Option ρ), ((lastR M).o 58 ds).bind F = (da (α := TreeFun × TreeFun × Unit) ds).bind (callN (fun x => n58 x.1 x.2.1) F)) ∧ ∀ aa, (envOf M aa).S 58 = some (.own ((lastR M).o 58)) := ⟨fun ds F => call_oK h58 ds F, fun _ => rfl⟩
theorem m58 : M.mode 58 = 0 := rfl
noncomputable def cd58 : Code := match Go.Proofs.Tryz.f58.body with | some c => c | none => .skip
theorem pl58 : plT 58 = [] := rfl
/-! slices.EqualFunc[[]loop.example/smithy/impl.TreeExpr,[]loop.example/smithy/impl.TreeExpr,loop.example/smithy/impl.TreeExpr,loop.example/smithy/impl.TreeExpr] -/
theorem h59 : Has M 59 ((List TreeExpr) × (List TreeExpr) × Fv × Unit) (Bool) := ⟨fun _ => rfl, fun _ => rfl⟩
noncomputable def n59 (a0 : (List TreeExpr)) (a1 : (List TreeExpr)) (a2 : Fv) : Option (Bool) := fnO M 59 (Bool) (a0, a1, a2, ())
theorem c59 : (∀ {ρ : Type} (ds : List D) (F : D → Option ρ), ((lastR M).o 59 ds).bind F = (da (α := (List TreeExpr) × (List TreeExpr) × Fv × Unit) ds).bind (callN (fun x => n59 x.1 x.2.1 x.2.2.1) F)) ∧ ∀ aa, (envOf M aa).S 59 = some (.own ((lastR M).o 59)) := ⟨fun ds F => call_oK h59 ds F, fun _ => rfl⟩
theorem m59 : M.mode 59 = 0 := rfl
noncomputable def cd59 : Code := match Go.Proofs.Tryz.f59.body with | some c => c | none => .skip
theorem pl59 : plT 59 = [] := rfl
theorem lv59_4 : lvT 59 4 = [1, 2, 15, 16, 17] := rfl
/-! loop.example/smithy/impl.sameExpr -/
theorem h60 : Has M 60 (TreeExpr × TreeExpr × Unit) (Bool) := ⟨fun _ => rfl, fun _ => rfl⟩
noncomputable def n60 (a0 : TreeExpr) (a1 : TreeExpr) : Option (Bool) := fnO M 60 (Bool) (a0, a1, ())
theorem c60 : (∀ {ρ : Type} (ds : List D) (F : D → Option ρ), ((lastR M).o 60 ds).bind F = (da (α := TreeExpr × TreeExpr × Unit) ds).bind (callN (fun x => n60 x.1 x.2.1) F)) ∧ ∀ aa, (envOf M aa).S 60 = some (.own ((lastR M).o 60)) := ⟨fun ds F => call_oK h60 ds F, fun _ => rfl⟩
theorem m60 : M.mode 60 = 0 := rfl
noncomputable def cd60 : Code := match Go.Proofs.Tryz.f60.body with | some c => c | none => .skip
theorem pl60 : plT 60 = [] := rfl
/-! loop.example/smithy/spec.l4Has -/
theorem h61 : Has M 61 ((List TypeFace) × ByteArray × Unit) (Bool) := ⟨fun _ => rfl, fun _ => rfl⟩
noncomputable def n61 (a0 : (List TypeFace)) (a1 : ByteArray) : Option (Bool) := fnO M 61 (Bool) (a0, a1, ())
theorem c61 : (∀ {ρ : Type} (ds : List D) (F : D → Option ρ), ((lastR M).o 61 ds).bind F = (da (α := (List TypeFace) × ByteArray × Unit) ds).bind (callN (fun x => n61 x.1 x.2.1) F)) ∧ ∀ aa, (envOf M aa).S 61 = some (.own ((lastR M).o 61)) := ⟨fun ds F => call_oK h61 ds F, fun _ => rfl⟩
theorem m61 : M.mode 61 = 0 := rfl
noncomputable def cd61 : Code := match Go.Proofs.Tryz.f61.body with | some c => c | none => .skip
theorem pl61 : plT 61 = [] := rfl
theorem lv61_2 : lvT 61 2 = [0, 1, 5] := rfl
/-! loop.example/smithy/impl.typeMod -/
theorem h64 : Has M 64 (TreeMod × (List TypeFace) × Unit) (TypeFault) := ⟨fun _ => rfl, fun _ => rfl⟩
noncomputable def n64 (a0 : TreeMod) (a1 : (List TypeFace)) : Option (TypeFault) := fnO M 64 (TypeFault) (a0, a1, ())
theorem c64 : (∀ {ρ : Type} (ds : List D) (F : D → Option ρ), ((lastR M).o 64 ds).bind F = (da (α := TreeMod × (List TypeFace) × Unit) ds).bind (callN (fun x => n64 x.1 x.2.1) F)) ∧ ∀ aa, (envOf M aa).S 64 = some (.own ((lastR M).o 64)) := ⟨fun ds F => call_oK h64 ds F, fun _ => rfl⟩
theorem m64 : M.mode 64 = 0 := rfl
noncomputable def cd64 : Code := match Go.Proofs.Tryz.f64.body with | some c => c | none => .skip
theorem pl64 : plT 64 = [] := rfl
theorem lv64_2 : lvT 64 2 = [1, 2, 4, 17, 18, 19] := rfl
theorem lv64_9 : lvT 64 9 = [2, 4, 7, 35, 36, 37] := rfl
theorem lv64_18 : lvT 64 18 = [2, 4, 7, 66, 67, 68] := rfl
/-! loop.example/smithy/impl.faceOf -/
theorem h65 : Has M 65 (TreeMod × Unit) ((List FaceSig)) := ⟨fun _ => rfl, fun _ => rfl⟩
noncomputable def n65 (a0 : TreeMod) : Option ((List FaceSig)) := fnO M 65 ((List FaceSig)) (a0, ())
theorem c65 : (∀ {ρ : Type} (ds : List D) (F : D → Option ρ), ((lastR M).o 65 ds).bind F = (da (α := TreeMod × Unit) ds).bind (callN (fun x => n65 x.1) F)) ∧ ∀ aa, (envOf M aa).S 65 = some (.own ((lastR M).o 65)) := ⟨fun ds F => call_oK h65 ds F, fun _ => rfl⟩
theorem m65 : M.mode 65 = 0 := rfl
noncomputable def cd65 : Code := match Go.Proofs.Tryz.f65.body with | some c => c | none => .skip
theorem pl65 : plT 65 = [] := rfl
theorem lv65_3 : lvT 65 3 = [3, 8, 9, 10] := rfl
/-! loop.example/smithy/impl.modsOk -/
theorem h66 : Has M 66 ((List MeanMod) × Int × Unit) (Bool) := ⟨fun _ => rfl, fun _ => rfl⟩
noncomputable def n66 (a0 : (List MeanMod)) (a1 : Int) : Option (Bool) := fnO M 66 (Bool) (a0, a1, ())
theorem c66 : (∀ {ρ : Type} (ds : List D) (F : D → Option ρ), ((lastR M).o 66 ds).bind F = (da (α := (List MeanMod) × Int × Unit) ds).bind (callN (fun x => n66 x.1 x.2.1) F)) ∧ ∀ aa, (envOf M aa).S 66 = some (.own ((lastR M).o 66)) := ⟨fun ds F => call_oK h66 ds F, fun _ => rfl⟩
theorem m66 : M.mode 66 = 0 := rfl
noncomputable def cd66 : Code := match Go.Proofs.Tryz.f66.body with | some c => c | none => .skip
theorem pl66 : plT 66 = [] := rfl
theorem lv66_3 : lvT 66 3 = [0, 1, 5, 9, 10, 11] := rfl
/-! loop.example/smithy/laws.szTreeFun -/
theorem h70 : Has M 70 (TreeFun × Int × Unit) (Int) := ⟨fun _ => rfl, fun _ => rfl⟩
noncomputable def n70 (a0 : TreeFun) (a1 : Int) : Option (Int) := fnO M 70 (Int) (a0, a1, ())
theorem c70 : (∀ {ρ : Type} (ds : List D) (F : D → Option ρ), ((lastR M).o 70 ds).bind F = (da (α := TreeFun × Int × Unit) ds).bind (callN (fun x => n70 x.1 x.2.1) F)) ∧ ∀ aa, (envOf M aa).S 70 = some (.own ((lastR M).o 70)) := ⟨fun ds F => call_oK h70 ds F, fun _ => rfl⟩
theorem m70 : M.mode 70 = 0 := rfl
noncomputable def cd70 : Code := match Go.Proofs.Tryz.f70.body with | some c => c | none => .skip
theorem pl70 : plT 70 = [] := rfl
/-! loop.example/smithy/laws.szTreeExpr -/
theorem h71 : Has M 71 (TreeExpr × Int × Unit) (Int) := ⟨fun _ => rfl, fun _ => rfl⟩
noncomputable def n71 (a0 : TreeExpr) (a1 : Int) : Option (Int) := fnO M 71 (Int) (a0, a1, ())
theorem c71 : (∀ {ρ : Type} (ds : List D) (F : D → Option ρ), ((lastR M).o 71 ds).bind F = (da (α := TreeExpr × Int × Unit) ds).bind (callN (fun x => n71 x.1 x.2.1) F)) ∧ ∀ aa, (envOf M aa).S 71 = some (.own ((lastR M).o 71)) := ⟨fun ds F => call_oK h71 ds F, fun _ => rfl⟩
theorem m71 : M.mode 71 = 0 := rfl
noncomputable def cd71 : Code := match Go.Proofs.Tryz.f71.body with | some c => c | none => .skip
theorem pl71 : plT 71 = [] := rfl
/-! loop.example/smithy/spec.l2Uses -/
theorem h72 : Has M 72 ((List ByteArray) × Unit) (Bool) := ⟨fun _ => rfl, fun _ => rfl⟩
noncomputable def n72 (a0 : (List ByteArray)) : Option (Bool) := fnO M 72 (Bool) (a0, ())
theorem c72 : (∀ {ρ : Type} (ds : List D) (F : D → Option ρ), ((lastR M).o 72 ds).bind F = (da (α := (List ByteArray) × Unit) ds).bind (callN (fun x => n72 x.1) F)) ∧ ∀ aa, (envOf M aa).S 72 = some (.own ((lastR M).o 72)) := ⟨fun ds F => call_oK h72 ds F, fun _ => rfl⟩
theorem m72 : M.mode 72 = 0 := rfl
noncomputable def cd72 : Code := match Go.Proofs.Tryz.f72.body with | some c => c | none => .skip
theorem pl72 : plT 72 = [] := rfl
theorem lv72_2 : lvT 72 2 = [0, 3] := rfl
theorem lv72_7 : lvT 72 7 = [0, 3, 4] := rfl
/-! loop.example/smithy/spec.l2Size -/
theorem h73 : Has M 73 (TreeMod × Unit) (Bool) := ⟨fun _ => rfl, fun _ => rfl⟩
noncomputable def n73 (a0 : TreeMod) : Option (Bool) := fnO M 73 (Bool) (a0, ())
theorem c73 : (∀ {ρ : Type} (ds : List D) (F : D → Option ρ), ((lastR M).o 73 ds).bind F = (da (α := TreeMod × Unit) ds).bind (callN (fun x => n73 x.1) F)) ∧ ∀ aa, (envOf M aa).S 73 = some (.own ((lastR M).o 73)) := ⟨fun ds F => call_oK h73 ds F, fun _ => rfl⟩
theorem m73 : M.mode 73 = 0 := rfl
noncomputable def cd73 : Code := match Go.Proofs.Tryz.f73.body with | some c => c | none => .skip
theorem pl73 : plT 73 = [] := rfl
theorem lv73_3 : lvT 73 3 = [1, 3, 4] := rfl
/-! loop.example/smithy/spec.l2Fun -/
theorem h74 : Has M 74 (TreeFun × Unit) (Bool) := ⟨fun _ => rfl, fun _ => rfl⟩
noncomputable def n74 (a0 : TreeFun) : Option (Bool) := fnO M 74 (Bool) (a0, ())
theorem c74 : (∀ {ρ : Type} (ds : List D) (F : D → Option ρ), ((lastR M).o 74 ds).bind F = (da (α := TreeFun × Unit) ds).bind (callN (fun x => n74 x.1) F)) ∧ ∀ aa, (envOf M aa).S 74 = some (.own ((lastR M).o 74)) := ⟨fun ds F => call_oK h74 ds F, fun _ => rfl⟩
theorem m74 : M.mode 74 = 0 := rfl
noncomputable def cd74 : Code := match Go.Proofs.Tryz.f74.body with | some c => c | none => .skip
theorem pl74 : plT 74 = [] := rfl
theorem lv74_4 : lvT 74 4 = [1, 3] := rfl
theorem lv74_9 : lvT 74 9 = [1, 3, 4] := rfl
/-! loop.example/smithy/spec.l2Expr -/
theorem h75 : Has M 75 (TreeExpr × Unit) (Bool) := ⟨fun _ => rfl, fun _ => rfl⟩
noncomputable def n75 (a0 : TreeExpr) : Option (Bool) := fnO M 75 (Bool) (a0, ())
theorem c75 : (∀ {ρ : Type} (ds : List D) (F : D → Option ρ), ((lastR M).o 75 ds).bind F = (da (α := TreeExpr × Unit) ds).bind (callN (fun x => n75 x.1) F)) ∧ ∀ aa, (envOf M aa).S 75 = some (.own ((lastR M).o 75)) := ⟨fun ds F => call_oK h75 ds F, fun _ => rfl⟩
theorem m75 : M.mode 75 = 0 := rfl
noncomputable def cd75 : Code := match Go.Proofs.Tryz.f75.body with | some c => c | none => .skip
theorem pl75 : plT 75 = [] := rfl
theorem lv75_4 : lvT 75 4 = [1, 3] := rfl
/-! loop.example/smithy/spec.l2Prim -/
theorem h76 : Has M 76 (ByteArray × Unit) (Int) := ⟨fun _ => rfl, fun _ => rfl⟩
noncomputable def n76 (a0 : ByteArray) : Option (Int) := fnO M 76 (Int) (a0, ())
theorem c76 : (∀ {ρ : Type} (ds : List D) (F : D → Option ρ), ((lastR M).o 76 ds).bind F = (da (α := ByteArray × Unit) ds).bind (callN (fun x => n76 x.1) F)) ∧ ∀ aa, (envOf M aa).S 76 = some (.own ((lastR M).o 76)) := ⟨fun ds F => call_oK h76 ds F, fun _ => rfl⟩
theorem m76 : M.mode 76 = 0 := rfl
noncomputable def cd76 : Code := match Go.Proofs.Tryz.f76.body with | some c => c | none => .skip
theorem pl76 : plT 76 = [] := rfl
theorem lv76_3 : lvT 76 3 = [0, 3, 4] := rfl
/-! loop.example/smithy/spec.l18Half -/
theorem h77 : Has M 77 (TreeExpr × Unit) (TreeExpr) := ⟨fun _ => rfl, fun _ => rfl⟩
noncomputable def n77 (a0 : TreeExpr) : Option (TreeExpr) := fnO M 77 (TreeExpr) (a0, ())
theorem c77 : (∀ {ρ : Type} (ds : List D) (F : D → Option ρ), ((lastR M).o 77 ds).bind F = (da (α := TreeExpr × Unit) ds).bind (callN (fun x => n77 x.1) F)) ∧ ∀ aa, (envOf M aa).S 77 = some (.eat fun x ds => (lastR M).o 77 (x :: ds)) := ⟨fun ds F => call_oK h77 ds F, fun _ => rfl⟩
theorem m77 : M.mode 77 = 3 := rfl
noncomputable def cd77 : Code := match Go.Proofs.Tryz.f77.body with | some c => c | none => .skip
theorem pl77 : plT 77 = [] := rfl
/-! loop.example/smithy/spec.l18Prim -/
theorem h78 : Has M 78 (TreeExpr × Unit) (TreeExpr) := ⟨fun _ => rfl, fun _ => rfl⟩
noncomputable def n78 (a0 : TreeExpr) : Option (TreeExpr) := fnO M 78 (TreeExpr) (a0, ())
theorem c78 : (∀ {ρ : Type} (ds : List D) (F : D → Option ρ), ((lastR M).o 78 ds).bind F = (da (α := TreeExpr × Unit) ds).bind (callN (fun x => n78 x.1) F)) ∧ ∀ aa, (envOf M aa).S 78 = some (.eat fun x ds => (lastR M).o 78 (x :: ds)) := ⟨fun ds F => call_oK h78 ds F, fun _ => rfl⟩
theorem m78 : M.mode 78 = 3 := rfl
noncomputable def cd78 : Code := match Go.Proofs.Tryz.f78.body with | some c => c | none => .skip
theorem pl78 : plT 78 = [] := rfl
theorem lv78_3 : lvT 78 3 = [1, 2, 3, 4] := rfl
/-! loop.example/smithy/spec.l18Known -/
theorem h79 : Has M 79 (TreeExpr × Unit) (MeanVal × Bool) := ⟨fun _ => rfl, fun _ => rfl⟩
noncomputable def n79 (a0 : TreeExpr) : Option (MeanVal × Bool) := fnO M 79 (MeanVal × Bool) (a0, ())
theorem c79 : (∀ {ρ : Type} (ds : List D) (F : D → Option ρ), ((lastR M).o 79 ds).bind F = (da (α := TreeExpr × Unit) ds).bind (callN (fun x => n79 x.1) F)) ∧ ∀ aa, (envOf M aa).S 79 = some (.own ((lastR M).o 79)) := ⟨fun ds F => call_oK h79 ds F, fun _ => rfl⟩
theorem m79 : M.mode 79 = 0 := rfl
noncomputable def cd79 : Code := match Go.Proofs.Tryz.f79.body with | some c => c | none => .skip
theorem pl79 : plT 79 = [] := rfl
/-! loop.example/smithy/laws.toTreeFun -/
theorem h80 : Has M 80 (TreeFun × Unit) (TreeFun) := ⟨fun _ => rfl, fun _ => rfl⟩
noncomputable def n80 (a0 : TreeFun) : Option (TreeFun) := fnO M 80 (TreeFun) (a0, ())
theorem c80 : (∀ {ρ : Type} (ds : List D) (F : D → Option ρ), ((lastR M).o 80 ds).bind F = (da (α := TreeFun × Unit) ds).bind (callN (fun x => n80 x.1) F)) ∧ ∀ aa, (envOf M aa).S 80 = some (.own ((lastR M).o 80)) := ⟨fun ds F => call_oK h80 ds F, fun _ => rfl⟩
theorem m80 : M.mode 80 = 0 := rfl
noncomputable def cd80 : Code := match Go.Proofs.Tryz.f80.body with | some c => c | none => .skip
theorem pl80 : plT 80 = [] := rfl
/-! loop.example/smithy/laws.toTreeExpr -/
theorem h81 : Has M 81 (TreeExpr × Unit) (TreeExpr) := ⟨fun _ => rfl, fun _ => rfl⟩
noncomputable def n81 (a0 : TreeExpr) : Option (TreeExpr) := fnO M 81 (TreeExpr) (a0, ())
theorem c81 : (∀ {ρ : Type} (ds : List D) (F : D → Option ρ), ((lastR M).o 81 ds).bind F = (da (α := TreeExpr × Unit) ds).bind (callN (fun x => n81 x.1) F)) ∧ ∀ aa, (envOf M aa).S 81 = some (.own ((lastR M).o 81)) := ⟨fun ds F => call_oK h81 ds F, fun _ => rfl⟩
theorem m81 : M.mode 81 = 0 := rfl
noncomputable def cd81 : Code := match Go.Proofs.Tryz.f81.body with | some c => c | none => .skip
theorem pl81 : plT 81 = [] := rfl
/-! loop.example/smithy/impl.areNames -/
theorem h82 : Has M 82 ((List ByteArray) × Unit) (Bool) := ⟨fun _ => rfl, fun _ => rfl⟩
noncomputable def n82 (a0 : (List ByteArray)) : Option (Bool) := fnO M 82 (Bool) (a0, ())
theorem c82 : (∀ {ρ : Type} (ds : List D) (F : D → Option ρ), ((lastR M).o 82 ds).bind F = (da (α := (List ByteArray) × Unit) ds).bind (callN (fun x => n82 x.1) F)) ∧ ∀ aa, (envOf M aa).S 82 = some (.own ((lastR M).o 82)) := ⟨fun ds F => call_oK h82 ds F, fun _ => rfl⟩
theorem m82 : M.mode 82 = 0 := rfl
noncomputable def cd82 : Code := match Go.Proofs.Tryz.f82.body with | some c => c | none => .skip
theorem pl82 : plT 82 = [] := rfl
theorem lv82_2 : lvT 82 2 = [0, 5, 6, 7] := rfl
/-! loop.example/smithy/impl.argNames -/
theorem h83 : Has M 83 ((List TreeArg) × Unit) ((List ByteArray)) := ⟨fun _ => rfl, fun _ => rfl⟩
noncomputable def n83 (a0 : (List TreeArg)) : Option ((List ByteArray)) := fnO M 83 ((List ByteArray)) (a0, ())
theorem c83 : (∀ {ρ : Type} (ds : List D) (F : D → Option ρ), ((lastR M).o 83 ds).bind F = (da (α := (List TreeArg) × Unit) ds).bind (callN (fun x => n83 x.1) F)) ∧ ∀ aa, (envOf M aa).S 83 = some (.shared ((lastR M).o 83)) := ⟨fun ds F => call_oK h83 ds F, fun _ => rfl⟩
theorem m83 : M.mode 83 = 1 := rfl
noncomputable def cd83 : Code := match Go.Proofs.Tryz.f83.body with | some c => c | none => .skip
theorem pl83 : plT 83 = [] := rfl
theorem lv83_3 : lvT 83 3 = [3, 7, 8, 9] := rfl
/-! loop.example/smithy/impl.isType -/
theorem h84 : Has M 84 (Int × Unit) (Bool) := ⟨fun _ => rfl, fun _ => rfl⟩
noncomputable def n84 (a0 : Int) : Option (Bool) := fnO M 84 (Bool) (a0, ())
theorem c84 : (∀ {ρ : Type} (ds : List D) (F : D → Option ρ), ((lastR M).o 84 ds).bind F = (da (α := Int × Unit) ds).bind (callN (fun x => n84 x.1) F)) ∧ ∀ aa, (envOf M aa).S 84 = some (.own ((lastR M).o 84)) := ⟨fun ds F => call_oK h84 ds F, fun _ => rfl⟩
theorem m84 : M.mode 84 = 0 := rfl
noncomputable def cd84 : Code := match Go.Proofs.Tryz.f84.body with | some c => c | none => .skip
theorem pl84 : plT 84 = [] := rfl
/-! slices.ContainsFunc[[]loop.example/smithy/impl.TreeArg,loop.example/smithy/impl.TreeArg] -/
theorem h85 : Has M 85 ((List TreeArg) × Fv × Unit) (Bool) := ⟨fun _ => rfl, fun _ => rfl⟩
noncomputable def n85 (a0 : (List TreeArg)) (a1 : Fv) : Option (Bool) := fnO M 85 (Bool) (a0, a1, ())
theorem c85 : (∀ {ρ : Type} (ds : List D) (F : D → Option ρ), ((lastR M).o 85 ds).bind F = (da (α := (List TreeArg) × Fv × Unit) ds).bind (callN (fun x => n85 x.1 x.2.1) F)) ∧ ∀ aa, (envOf M aa).S 85 = some (.own ((lastR M).o 85)) := ⟨fun ds F => call_oK h85 ds F, fun _ => rfl⟩
theorem m85 : M.mode 85 = 0 := rfl
noncomputable def cd85 : Code := match Go.Proofs.Tryz.f85.body with | some c => c | none => .skip
theorem pl85 : plT 85 = [] := rfl
/-! loop.example/smithy/impl.TreeOk$1 -/
theorem h86 : Has M 86 (TreeArg × Unit) (Bool) := ⟨fun _ => rfl, fun _ => rfl⟩
noncomputable def n86 (a0 : TreeArg) : Option (Bool) := fnO M 86 (Bool) (a0, ())
theorem c86 : (∀ {ρ : Type} (ds : List D) (F : D → Option ρ), ((lastR M).o 86 ds).bind F = (da (α := TreeArg × Unit) ds).bind (callN (fun x => n86 x.1) F)) ∧ ∀ aa, (envOf M aa).S 86 = some (.own ((lastR M).o 86)) := ⟨fun ds F => call_oK h86 ds F, fun _ => rfl⟩
theorem m86 : M.mode 86 = 0 := rfl
noncomputable def cd86 : Code := match Go.Proofs.Tryz.f86.body with | some c => c | none => .skip
theorem pl86 : plT 86 = [] := rfl
/-! (loop.example/smithy/impl.TreeMod).bodies -/
theorem h87 : Has M 87 (TreeMod × Unit) ((List TreeExpr)) := ⟨fun _ => rfl, fun _ => rfl⟩
noncomputable def n87 (a0 : TreeMod) : Option ((List TreeExpr)) := fnO M 87 ((List TreeExpr)) (a0, ())
theorem c87 : (∀ {ρ : Type} (ds : List D) (F : D → Option ρ), ((lastR M).o 87 ds).bind F = (da (α := TreeMod × Unit) ds).bind (callN (fun x => n87 x.1) F)) ∧ ∀ aa, (envOf M aa).S 87 = some (.shared ((lastR M).o 87)) := ⟨fun ds F => call_oK h87 ds F, fun _ => rfl⟩
theorem m87 : M.mode 87 = 1 := rfl
noncomputable def cd87 : Code := match Go.Proofs.Tryz.f87.body with | some c => c | none => .skip
theorem pl87 : plT 87 = [] := rfl
theorem lv87_3 : lvT 87 3 = [1, 3, 8, 9, 10] := rfl
/-! loop.example/smithy/impl.TreeNodes -/
theorem h88 : Has M 88 (TreeExpr × Unit) (Int × Int) := ⟨fun _ => rfl, fun _ => rfl⟩
noncomputable def n88 (a0 : TreeExpr) : Option (Int × Int) := fnO M 88 (Int × Int) (a0, ())
theorem c88 : (∀ {ρ : Type} (ds : List D) (F : D → Option ρ), ((lastR M).o 88 ds).bind F = (da (α := TreeExpr × Unit) ds).bind (callN (fun x => n88 x.1) F)) ∧ ∀ aa, (envOf M aa).S 88 = some (.own ((lastR M).o 88)) := ⟨fun ds F => call_oK h88 ds F, fun _ => rfl⟩
theorem m88 : M.mode 88 = 0 := rfl
noncomputable def cd88 : Code := match Go.Proofs.Tryz.f88.body with | some c => c | none => .skip
theorem pl88 : plT 88 = [] := rfl
theorem lv88_3 : lvT 88 3 = [4, 5, 11, 12, 13] := rfl
/-! loop.example/smithy/impl.exprOk -/
theorem h89 : Has M 89 (TreeExpr × Unit) (Bool) := ⟨fun _ => rfl, fun _ => rfl⟩
noncomputable def n89 (a0 : TreeExpr) : Option (Bool) := fnO M 89 (Bool) (a0, ())
theorem c89 : (∀ {ρ : Type} (ds : List D) (F : D → Option ρ), ((lastR M).o 89 ds).bind F = (da (α := TreeExpr × Unit) ds).bind (callN (fun x => n89 x.1) F)) ∧ ∀ aa, (envOf M aa).S 89 = some (.own ((lastR M).o 89)) := ⟨fun ds F => call_oK h89 ds F, fun _ => rfl⟩
theorem m89 : M.mode 89 = 0 := rfl
noncomputable def cd89 : Code := match Go.Proofs.Tryz.f89.body with | some c => c | none => .skip
theorem pl89 : plT 89 = [] := rfl
/-! loop.example/smithy/impl.folded -/
theorem h90 : Has M 90 (TreeExpr × Unit) (TreeExpr) := ⟨fun _ => rfl, fun _ => rfl⟩
noncomputable def n90 (a0 : TreeExpr) : Option (TreeExpr) := fnO M 90 (TreeExpr) (a0, ())
theorem c90 : (∀ {ρ : Type} (ds : List D) (F : D → Option ρ), ((lastR M).o 90 ds).bind F = (da (α := TreeExpr × Unit) ds).bind (callN (fun x => n90 x.1) F)) ∧ ∀ aa, (envOf M aa).S 90 = some (.eat fun x ds => (lastR M).o 90 (x :: ds)) := ⟨fun ds F => call_oK h90 ds F, fun _ => rfl⟩
theorem m90 : M.mode 90 = 3 := rfl
noncomputable def cd90 : Code := match Go.Proofs.Tryz.f90.body with | some c => c | none => .skip
theorem pl90 : plT 90 = [(2, [0])] := rfl
/-! loop.example/smithy/laws.eqTreeFun -/
theorem h91 : Has M 91 (TreeFun × TreeFun × Unit) (Bool) := ⟨fun _ => rfl, fun _ => rfl⟩
noncomputable def n91 (a0 : TreeFun) (a1 : TreeFun) : Option (Bool) := fnO M 91 (Bool) (a0, a1, ())
theorem c91 : (∀ {ρ : Type} (ds : List D) (F : D → Option ρ), ((lastR M).o 91 ds).bind F = (da (α := TreeFun × TreeFun × Unit) ds).bind (callN (fun x => n91 x.1 x.2.1) F)) ∧ ∀ aa, (envOf M aa).S 91 = some (.own ((lastR M).o 91)) := ⟨fun ds F => call_oK h91 ds F, fun _ => rfl⟩
theorem m91 : M.mode 91 = 0 := rfl
noncomputable def cd91 : Code := match Go.Proofs.Tryz.f91.body with | some c => c | none => .skip
theorem pl91 : plT 91 = [] := rfl
/-! loop.example/smithy/laws.eqTreeExpr -/
theorem h92 : Has M 92 (TreeExpr × TreeExpr × Unit) (Bool) := ⟨fun _ => rfl, fun _ => rfl⟩
noncomputable def n92 (a0 : TreeExpr) (a1 : TreeExpr) : Option (Bool) := fnO M 92 (Bool) (a0, a1, ())
theorem c92 : (∀ {ρ : Type} (ds : List D) (F : D → Option ρ), ((lastR M).o 92 ds).bind F = (da (α := TreeExpr × TreeExpr × Unit) ds).bind (callN (fun x => n92 x.1 x.2.1) F)) ∧ ∀ aa, (envOf M aa).S 92 = some (.own ((lastR M).o 92)) := ⟨fun ds F => call_oK h92 ds F, fun _ => rfl⟩
theorem m92 : M.mode 92 = 0 := rfl
noncomputable def cd92 : Code := match Go.Proofs.Tryz.f92.body with | some c => c | none => .skip
theorem pl92 : plT 92 = [] := rfl
/-! loop.example/smithy/laws.markText -/
theorem h93 : Has M 93 (Int × Unit) (ByteArray) := ⟨fun _ => rfl, fun _ => rfl⟩
noncomputable def n93 (a0 : Int) : Option (ByteArray) := fnO M 93 (ByteArray) (a0, ())
theorem c93 : (∀ {ρ : Type} (ds : List D) (F : D → Option ρ), ((lastR M).o 93 ds).bind F = (da (α := Int × Unit) ds).bind (callN (fun x => n93 x.1) F)) ∧ ∀ aa, (envOf M aa).S 93 = some (.own ((lastR M).o 93)) := ⟨fun ds F => call_oK h93 ds F, fun _ => rfl⟩
theorem m93 : M.mode 93 = 0 := rfl
noncomputable def cd93 : Code := match Go.Proofs.Tryz.f93.body with | some c => c | none => .skip
theorem pl93 : plT 93 = [] := rfl
theorem lv93_4 : lvT 93 4 = [0, 3] := rfl
/-! loop.example/smithy/laws.markTreeArgS -/
theorem h94 : Has M 94 ((List TreeArg) × Int × Unit) (Int × (List TreeArg)) := ⟨fun _ => rfl, fun _ => rfl⟩
noncomputable def n94 (a0 : (List TreeArg)) (a1 : Int) : Option (Int × (List TreeArg)) := fnI M 94 (Int) (a0, a1, ())
theorem c94 : (∀ {ρ : Type} (x : D) (ds : List D) (F : D × D → Option ρ), ((lastR M).i 94 x ds).bind F = (da (α := (List TreeArg) × Int × Unit) (x :: ds)).bind (callI (fun x => n94 x.1 x.2.1) F)) ∧ ∀ aa, (envOf M aa).S 94 = some (.io ((lastR M).i 94)) := ⟨fun x ds F => call_iK h94 x ds F, fun _ => rfl⟩
theorem m94 : M.mode 94 = 2 := rfl
noncomputable def cd94 : Code := match Go.Proofs.Tryz.f94.body with | some c => c | none => .skip
theorem pl94 : plT 94 = [] := rfl
theorem lv94_2 : lvT 94 2 = [0, 1, 5] := rfl
/-! loop.example/smithy/laws.heldTreeArgS -/
theorem h95 : Has M 95 ((List TreeArg) × Int × Unit) (Int) := ⟨fun _ => rfl, fun _ => rfl⟩
noncomputable def n95 (a0 : (List TreeArg)) (a1 : Int) : Option (Int) := fnO M 95 (Int) (a0, a1, ())
theorem c95 : (∀ {ρ : Type} (ds : List D) (F : D → Option ρ), ((lastR M).o 95 ds).bind F = (da (α := (List TreeArg) × Int × Unit) ds).bind (callN (fun x => n95 x.1 x.2.1) F)) ∧ ∀ aa, (envOf M aa).S 95 = some (.own ((lastR M).o 95)) := ⟨fun ds F => call_oK h95 ds F, fun _ => rfl⟩
theorem m95 : M.mode 95 = 0 := rfl
noncomputable def cd95 : Code := match Go.Proofs.Tryz.f95.body with | some c => c | none => .skip
theorem pl95 : plT 95 = [] := rfl
theorem lv95_2 : lvT 95 2 = [0, 1, 5] := rfl
/-! loop.example/smithy/spec.l22Pub -/
theorem h96 : Has M 96 (ByteArray × TreeMod × Unit) ((List L22Sig)) := ⟨fun _ => rfl, fun _ => rfl⟩
noncomputable def n96 (a0 : ByteArray) (a1 : TreeMod) : Option ((List L22Sig)) := fnO M 96 ((List L22Sig)) (a0, a1, ())
theorem c96 : (∀ {ρ : Type} (ds : List D) (F : D → Option ρ), ((lastR M).o 96 ds).bind F = (da (α := ByteArray × TreeMod × Unit) ds).bind (callN (fun x => n96 x.1 x.2.1) F)) ∧ ∀ aa, (envOf M aa).S 96 = some (.own ((lastR M).o 96)) := ⟨fun ds F => call_oK h96 ds F, fun _ => rfl⟩
theorem m96 : M.mode 96 = 0 := rfl
noncomputable def cd96 : Code := match Go.Proofs.Tryz.f96.body with | some c => c | none => .skip
theorem pl96 : plT 96 = [(6, [0, 14, 22, 23, 1014, 2014, 3014, 4014, 5014, 6014, 7014, 15000, 16000, 17000, 18000, 19000, 20000])] := rfl
theorem lv96_3 : lvT 96 3 = [0, 3, 5, 6] := rfl
/-! loop.example/smithy/spec.l22NumE -/
theorem h99 : Has M 99 (Int × Unit) (TreeExpr) := ⟨fun _ => rfl, fun _ => rfl⟩
noncomputable def n99 (a0 : Int) : Option (TreeExpr) := fnO M 99 (TreeExpr) (a0, ())
theorem c99 : (∀ {ρ : Type} (ds : List D) (F : D → Option ρ), ((lastR M).o 99 ds).bind F = (da (α := Int × Unit) ds).bind (callN (fun x => n99 x.1) F)) ∧ ∀ aa, (envOf M aa).S 99 = some (.own ((lastR M).o 99)) := ⟨fun ds F => call_oK h99 ds F, fun _ => rfl⟩
theorem m99 : M.mode 99 = 0 := rfl
noncomputable def cd99 : Code := match Go.Proofs.Tryz.f99.body with | some c => c | none => .skip
theorem pl99 : plT 99 = [] := rfl
/-! loop.example/smithy/spec.TreeNodes -/
theorem h101 : Has M 101 (TreeExpr × Unit) (Int × Int) := ⟨fun _ => rfl, fun _ => rfl⟩
noncomputable def n101 (a0 : TreeExpr) : Option (Int × Int) := fnO M 101 (Int × Int) (a0, ())
theorem c101 : (∀ {ρ : Type} (ds : List D) (F : D → Option ρ), ((lastR M).o 101 ds).bind F = (da (α := TreeExpr × Unit) ds).bind (callN (fun x => n101 x.1) F)) ∧ ∀ aa, (envOf M aa).S 101 = some (.own ((lastR M).o 101)) := ⟨fun ds F => call_oK h101 ds F, fun _ => rfl⟩
theorem m101 : M.mode 101 = 0 := rfl
noncomputable def cd101 : Code := match Go.Proofs.Tryz.f101.body with | some c => c | none => .skip
theorem pl101 : plT 101 = [] := rfl
theorem lv101_4 : lvT 101 4 = [1, 4, 5, 6] := rfl
/-! slices.Equal[[]loop.example/smithy/impl.TreeArg,loop.example/smithy/impl.TreeArg] -/
theorem h102 : Has M 102 ((List TreeArg) × (List TreeArg) × Unit) (Bool) := ⟨fun _ => rfl, fun _ => rfl⟩
noncomputable def n102 (a0 : (List TreeArg)) (a1 : (List TreeArg)) : Option (Bool) := fnO M 102 (Bool) (a0, a1, ())
theorem c102 : (∀ {ρ : Type} (ds : List D) (F : D → Option ρ), ((lastR M).o 102 ds).bind F = (da (α := (List TreeArg) × (List TreeArg) × Unit) ds).bind (callN (fun x => n102 x.1 x.2.1) F)) ∧ ∀ aa, (envOf M aa).S 102 = some (.own ((lastR M).o 102)) := ⟨fun ds F => call_oK h102 ds F, fun _ => rfl⟩
theorem m102 : M.mode 102 = 0 := rfl
noncomputable def cd102 : Code := match Go.Proofs.Tryz.f102.body with | some c => c | none => .skip
theorem pl102 : plT 102 = [] := rfl
theorem lv102_4 : lvT 102 4 = [0, 1, 12, 13] := rfl
/-! loop.example/smithy/spec.l4Var -/
theorem h103 : Has M 103 ((List TreeArg) × ByteArray × Unit) (Int × Int) := ⟨fun _ => rfl, fun _ => rfl⟩
noncomputable def n103 (a0 : (List TreeArg)) (a1 : ByteArray) : Option (Int × Int) := fnO M 103 (Int × Int) (a0, a1, ())
theorem c103 : (∀ {ρ : Type} (ds : List D) (F : D → Option ρ), ((lastR M).o 103 ds).bind F = (da (α := (List TreeArg) × ByteArray × Unit) ds).bind (callN (fun x => n103 x.1 x.2.1) F)) ∧ ∀ aa, (envOf M aa).S 103 = some (.own ((lastR M).o 103)) := ⟨fun ds F => call_oK h103 ds F, fun _ => rfl⟩
theorem m103 : M.mode 103 = 0 := rfl
noncomputable def cd103 : Code := match Go.Proofs.Tryz.f103.body with | some c => c | none => .skip
theorem pl103 : plT 103 = [] := rfl
theorem lv103_2 : lvT 103 2 = [0, 1, 6] := rfl
/-! loop.example/smithy/spec.TypePrim -/
theorem h106 : Has M 106 (ByteArray × Unit) ((List Int) × Int) := ⟨fun _ => rfl, fun _ => rfl⟩
noncomputable def n106 (a0 : ByteArray) : Option ((List Int) × Int) := fnO M 106 ((List Int) × Int) (a0, ())
theorem c106 : (∀ {ρ : Type} (ds : List D) (F : D → Option ρ), ((lastR M).o 106 ds).bind F = (da (α := ByteArray × Unit) ds).bind (callN (fun x => n106 x.1) F)) ∧ ∀ aa, (envOf M aa).S 106 = some (.own ((lastR M).o 106)) := ⟨fun ds F => call_oK h106 ds F, fun _ => rfl⟩
theorem m106 : M.mode 106 = 0 := rfl
noncomputable def cd106 : Code := match Go.Proofs.Tryz.f106.body with | some c => c | none => .skip
theorem pl106 : plT 106 = [] := rfl
/-! loop.example/smithy/spec.l4Apply -/
theorem h107 : Has M 107 ((List Int) × Int × (List Int) × Unit) (Int × Int) := ⟨fun _ => rfl, fun _ => rfl⟩
noncomputable def n107 (a0 : (List Int)) (a1 : Int) (a2 : (List Int)) : Option (Int × Int) := fnO M 107 (Int × Int) (a0, a1, a2, ())
theorem c107 : (∀ {ρ : Type} (ds : List D) (F : D → Option ρ), ((lastR M).o 107 ds).bind F = (da (α := (List Int) × Int × (List Int) × Unit) ds).bind (callN (fun x => n107 x.1 x.2.1 x.2.2.1) F)) ∧ ∀ aa, (envOf M aa).S 107 = some (.own ((lastR M).o 107)) := ⟨fun ds F => call_oK h107 ds F, fun _ => rfl⟩
theorem m107 : M.mode 107 = 0 := rfl
noncomputable def cd107 : Code := match Go.Proofs.Tryz.f107.body with | some c => c | none => .skip
theorem pl107 : plT 107 = [] := rfl
theorem lv107_4 : lvT 107 4 = [0, 1, 2, 8] := rfl
/-! loop.example/smithy/spec.l4List -/
theorem h108 : Has M 108 ((List Int) × Unit) (Int × Int) := ⟨fun _ => rfl, fun _ => rfl⟩
noncomputable def n108 (a0 : (List Int)) : Option (Int × Int) := fnO M 108 (Int × Int) (a0, ())
theorem c108 : (∀ {ρ : Type} (ds : List D) (F : D → Option ρ), ((lastR M).o 108 ds).bind F = (da (α := (List Int) × Unit) ds).bind (callN (fun x => n108 x.1) F)) ∧ ∀ aa, (envOf M aa).S 108 = some (.own ((lastR M).o 108)) := ⟨fun ds F => call_oK h108 ds F, fun _ => rfl⟩
theorem m108 : M.mode 108 = 0 := rfl
noncomputable def cd108 : Code := match Go.Proofs.Tryz.f108.body with | some c => c | none => .skip
theorem pl108 : plT 108 = [] := rfl
theorem lv108_2 : lvT 108 2 = [0, 4] := rfl
/-! loop.example/smithy/spec.TypeFind -/
theorem h109 : Has M 109 (TreeMod × (List TypeFace) × ByteArray × ByteArray × Unit) (FaceSig × Bool) := ⟨fun _ => rfl, fun _ => rfl⟩
noncomputable def n109 (a0 : TreeMod) (a1 : (List TypeFace)) (a2 : ByteArray) (a3 : ByteArray) : Option (FaceSig × Bool) := fnO M 109 (FaceSig × Bool) (a0, a1, a2, a3, ())
theorem c109 : (∀ {ρ : Type} (ds : List D) (F : D → Option ρ), ((lastR M).o 109 ds).bind F = (da (α := TreeMod × (List TypeFace) × ByteArray × ByteArray × Unit) ds).bind (callN (fun x => n109 x.1 x.2.1 x.2.2.1 x.2.2.2.1) F)) ∧ ∀ aa, (envOf M aa).S 109 = some (.own ((lastR M).o 109)) := ⟨fun ds F => call_oK h109 ds F, fun _ => rfl⟩
theorem m109 : M.mode 109 = 0 := rfl
noncomputable def cd109 : Code := match Go.Proofs.Tryz.f109.body with | some c => c | none => .skip
theorem pl109 : plT 109 = [] := rfl
theorem lv109_3 : lvT 109 3 = [3, 4, 8, 10] := rfl
theorem lv109_10 : lvT 109 10 = [1, 2, 3, 4, 8, 11, 12] := rfl
theorem lv109_14 : lvT 109 14 = [1, 2, 3, 8, 11, 13] := rfl
theorem lv109_18 : lvT 109 18 = [1, 3, 8, 13, 14] := rfl
/-! slices.ContainsFunc[[]loop.example/smithy/impl.TypeFace,loop.example/smithy/impl.TypeFace] -/
theorem h110 : Has M 110 ((List TypeFace) × Fv × Unit) (Bool) := ⟨fun _ => rfl, fun _ => rfl⟩
noncomputable def n110 (a0 : (List TypeFace)) (a1 : Fv) : Option (Bool) := fnO M 110 (Bool) (a0, a1, ())
theorem c110 : (∀ {ρ : Type} (ds : List D) (F : D → Option ρ), ((lastR M).o 110 ds).bind F = (da (α := (List TypeFace) × Fv × Unit) ds).bind (callN (fun x => n110 x.1 x.2.1) F)) ∧ ∀ aa, (envOf M aa).S 110 = some (.own ((lastR M).o 110)) := ⟨fun ds F => call_oK h110 ds F, fun _ => rfl⟩
theorem m110 : M.mode 110 = 0 := rfl
noncomputable def cd110 : Code := match Go.Proofs.Tryz.f110.body with | some c => c | none => .skip
theorem pl110 : plT 110 = [] := rfl
/-! loop.example/smithy/impl.typeMod$1 -/
theorem h111 : Has M 111 (TypeFace × Fv × Unit) (Bool) := ⟨fun _ => rfl, fun _ => rfl⟩
noncomputable def n111 (a0 : TypeFace) (a1 : Fv) : Option (Bool) := fnO M 111 (Bool) (a0, a1, ())
theorem c111 : (∀ {ρ : Type} (ds : List D) (F : D → Option ρ), ((lastR M).o 111 ds).bind F = (da (α := TypeFace × Fv × Unit) ds).bind (callN (fun x => n111 x.1 x.2.1) F)) ∧ ∀ aa, (envOf M aa).S 111 = some (.own ((lastR M).o 111)) := ⟨fun ds F => call_oK h111 ds F, fun _ => rfl⟩
theorem m111 : M.mode 111 = 0 := rfl
noncomputable def cd111 : Code := match Go.Proofs.Tryz.f111.body with | some c => c | none => .skip
theorem pl111 : plT 111 = [] := rfl
/-! (loop.example/smithy/impl.typer).expr -/
theorem h112 : Has M 112 (Typer × (List TreeArg) × TreeExpr × Unit) (Int × Int) := ⟨fun _ => rfl, fun _ => rfl⟩
noncomputable def n112 (a0 : Typer) (a1 : (List TreeArg)) (a2 : TreeExpr) : Option (Int × Int) := fnO M 112 (Int × Int) (a0, a1, a2, ())
theorem c112 : (∀ {ρ : Type} (ds : List D) (F : D → Option ρ), ((lastR M).o 112 ds).bind F = (da (α := Typer × (List TreeArg) × TreeExpr × Unit) ds).bind (callN (fun x => n112 x.1 x.2.1 x.2.2.1) F)) ∧ ∀ aa, (envOf M aa).S 112 = some (.own ((lastR M).o 112)) := ⟨fun ds F => call_oK h112 ds F, fun _ => rfl⟩
theorem m112 : M.mode 112 = 0 := rfl
noncomputable def cd112 : Code := match Go.Proofs.Tryz.f112.body with | some c => c | none => .skip
theorem pl112 : plT 112 = [(26, [0, 7000, 8000, 9000])] := rfl
/-! (loop.example/smithy/impl.TreeFun).sig -/
theorem h113 : Has M 113 (TreeFun × Unit) (FaceSig) := ⟨fun _ => rfl, fun _ => rfl⟩
noncomputable def n113 (a0 : TreeFun) : Option (FaceSig) := fnO M 113 (FaceSig) (a0, ())
theorem c113 : (∀ {ρ : Type} (ds : List D) (F : D → Option ρ), ((lastR M).o 113 ds).bind F = (da (α := TreeFun × Unit) ds).bind (callN (fun x => n113 x.1) F)) ∧ ∀ aa, (envOf M aa).S 113 = some (.own ((lastR M).o 113)) := ⟨fun ds F => call_oK h113 ds F, fun _ => rfl⟩
theorem m113 : M.mode 113 = 0 := rfl
noncomputable def cd113 : Code := match Go.Proofs.Tryz.f113.body with | some c => c | none => .skip
theorem pl113 : plT 113 = [(1, [0, 5, 1005, 5000, 6000])] := rfl
/-! loop.example/smithy/impl.faceOf$1 -/
theorem h115 : Has M 115 (FaceSig × FaceSig × Unit) (Int) := ⟨fun _ => rfl, fun _ => rfl⟩
noncomputable def n115 (a0 : FaceSig) (a1 : FaceSig) : Option (Int) := fnO M 115 (Int) (a0, a1, ())
theorem c115 : (∀ {ρ : Type} (ds : List D) (F : D → Option ρ), ((lastR M).o 115 ds).bind F = (da (α := FaceSig × FaceSig × Unit) ds).bind (callN (fun x => n115 x.1 x.2.1) F)) ∧ ∀ aa, (envOf M aa).S 115 = some (.own ((lastR M).o 115)) := ⟨fun ds F => call_oK h115 ds F, fun _ => rfl⟩
theorem m115 : M.mode 115 = 0 := rfl
noncomputable def cd115 : Code := match Go.Proofs.Tryz.f115.body with | some c => c | none => .skip
theorem pl115 : plT 115 = [] := rfl
/-! strings.Compare -/
theorem h116 : Has M 116 (ByteArray × ByteArray × Unit) (Int) := ⟨fun _ => rfl, fun _ => rfl⟩
noncomputable def n116 (a0 : ByteArray) (a1 : ByteArray) : Option (Int) := fnO M 116 (Int) (a0, a1, ())
theorem c116 : (∀ {ρ : Type} (ds : List D) (F : D → Option ρ), ((lastR M).o 116 ds).bind F = (da (α := ByteArray × ByteArray × Unit) ds).bind (callN (fun x => n116 x.1 x.2.1) F)) ∧ ∀ aa, (envOf M aa).S 116 = some (.own ((lastR M).o 116)) := ⟨fun ds F => call_oK h116 ds F, fun _ => rfl⟩
theorem m116 : M.mode 116 = 0 := rfl
noncomputable def cd116 : Code := match Go.Proofs.Tryz.f116.body with | some c => c | none => .skip
theorem pl116 : plT 116 = [] := rfl
/-! slices.Contains[[]string,string] -/
theorem h117 : Has M 117 ((List ByteArray) × ByteArray × Unit) (Bool) := ⟨fun _ => rfl, fun _ => rfl⟩
noncomputable def n117 (a0 : (List ByteArray)) (a1 : ByteArray) : Option (Bool) := fnO M 117 (Bool) (a0, a1, ())
theorem c117 : (∀ {ρ : Type} (ds : List D) (F : D → Option ρ), ((lastR M).o 117 ds).bind F = (da (α := (List ByteArray) × ByteArray × Unit) ds).bind (callN (fun x => n117 x.1 x.2.1) F)) ∧ ∀ aa, (envOf M aa).S 117 = some (.own ((lastR M).o 117)) := ⟨fun ds F => call_oK h117 ds F, fun _ => rfl⟩
theorem m117 : M.mode 117 = 0 := rfl
noncomputable def cd117 : Code := match Go.Proofs.Tryz.f117.body with | some c => c | none => .skip
theorem pl117 : plT 117 = [] := rfl
/-! loop.example/smithy/impl.inRange -/
theorem h118 : Has M 118 (Int × Int × Int × Unit) (Bool) := ⟨fun _ => rfl, fun _ => rfl⟩
noncomputable def n118 (a0 : Int) (a1 : Int) (a2 : Int) : Option (Bool) := fnO M 118 (Bool) (a0, a1, a2, ())
theorem c118 : (∀ {ρ : Type} (ds : List D) (F : D → Option ρ), ((lastR M).o 118 ds).bind F = (da (α := Int × Int × Int × Unit) ds).bind (callN (fun x => n118 x.1 x.2.1 x.2.2.1) F)) ∧ ∀ aa, (envOf M aa).S 118 = some (.own ((lastR M).o 118)) := ⟨fun ds F => call_oK h118 ds F, fun _ => rfl⟩
theorem m118 : M.mode 118 = 0 := rfl
noncomputable def cd118 : Code := match Go.Proofs.Tryz.f118.body with | some c => c | none => .skip
theorem pl118 : plT 118 = [] := rfl
/-! loop.example/smithy/impl.intVal -/
theorem h120 : Has M 120 (Int × Unit) (MeanVal) := ⟨fun _ => rfl, fun _ => rfl⟩
noncomputable def n120 (a0 : Int) : Option (MeanVal) := fnO M 120 (MeanVal) (a0, ())
theorem c120 : (∀ {ρ : Type} (ds : List D) (F : D → Option ρ), ((lastR M).o 120 ds).bind F = (da (α := Int × Unit) ds).bind (callN (fun x => n120 x.1) F)) ∧ ∀ aa, (envOf M aa).S 120 = some (.own ((lastR M).o 120)) := ⟨fun ds F => call_oK h120 ds F, fun _ => rfl⟩
theorem m120 : M.mode 120 = 0 := rfl
noncomputable def cd120 : Code := match Go.Proofs.Tryz.f120.body with | some c => c | none => .skip
theorem pl120 : plT 120 = [] := rfl
/-! loop.example/smithy/impl.flagVal -/
theorem h121 : Has M 121 (Bool × Unit) (MeanVal) := ⟨fun _ => rfl, fun _ => rfl⟩
noncomputable def n121 (a0 : Bool) : Option (MeanVal) := fnO M 121 (MeanVal) (a0, ())
theorem c121 : (∀ {ρ : Type} (ds : List D) (F : D → Option ρ), ((lastR M).o 121 ds).bind F = (da (α := Bool × Unit) ds).bind (callN (fun x => n121 x.1) F)) ∧ ∀ aa, (envOf M aa).S 121 = some (.own ((lastR M).o 121)) := ⟨fun ds F => call_oK h121 ds F, fun _ => rfl⟩
theorem m121 : M.mode 121 = 0 := rfl
noncomputable def cd121 : Code := match Go.Proofs.Tryz.f121.body with | some c => c | none => .skip
theorem pl121 : plT 121 = [] := rfl
/-! slices.Backward[[]loop.example/smithy/impl.named,loop.example/smithy/impl.named] -/
theorem h122 : Has M 122 ((List Named) × Unit) (Fv) := ⟨fun _ => rfl, fun _ => rfl⟩
noncomputable def n122 (a0 : (List Named)) : Option (Fv) := fnO M 122 (Fv) (a0, ())
theorem c122 : (∀ {ρ : Type} (ds : List D) (F : D → Option ρ), ((lastR M).o 122 ds).bind F = (da (α := (List Named) × Unit) ds).bind (callN (fun x => n122 x.1) F)) ∧ ∀ aa, (envOf M aa).S 122 = some (.own ((lastR M).o 122)) := ⟨fun ds F => call_oK h122 ds F, fun _ => rfl⟩
theorem m122 : M.mode 122 = 0 := rfl
noncomputable def cd122 : Code := match Go.Proofs.Tryz.f122.body with | some c => c | none => .skip
theorem pl122 : plT 122 = [] := rfl
/-! slices.Clone[[]loop.example/smithy/impl.named,loop.example/smithy/impl.named] -/
theorem h124 : Has M 124 ((List Named) × Unit) ((List Named)) := ⟨fun _ => rfl, fun _ => rfl⟩
noncomputable def n124 (a0 : (List Named)) : Option ((List Named)) := fnO M 124 ((List Named)) (a0, ())
theorem c124 : (∀ {ρ : Type} (ds : List D) (F : D → Option ρ), ((lastR M).o 124 ds).bind F = (da (α := (List Named) × Unit) ds).bind (callN (fun x => n124 x.1) F)) ∧ ∀ aa, (envOf M aa).S 124 = some (.own ((lastR M).o 124)) := ⟨fun ds F => call_oK h124 ds F, fun _ => rfl⟩
theorem m124 : M.mode 124 = 0 := rfl
noncomputable def cd124 : Code := match Go.Proofs.Tryz.f124.body with | some c => c | none => .skip
theorem pl124 : plT 124 = [] := rfl
/-! loop.example/smithy/impl.isTrue -/
theorem h125 : Has M 125 (MeanVal × Unit) (Bool) := ⟨fun _ => rfl, fun _ => rfl⟩
noncomputable def n125 (a0 : MeanVal) : Option (Bool) := fnO M 125 (Bool) (a0, ())
theorem c125 : (∀ {ρ : Type} (ds : List D) (F : D → Option ρ), ((lastR M).o 125 ds).bind F = (da (α := MeanVal × Unit) ds).bind (callN (fun x => n125 x.1) F)) ∧ ∀ aa, (envOf M aa).S 125 = some (.own ((lastR M).o 125)) := ⟨fun ds F => call_oK h125 ds F, fun _ => rfl⟩
theorem m125 : M.mode 125 = 0 := rfl
noncomputable def cd125 : Code := match Go.Proofs.Tryz.f125.body with | some c => c | none => .skip
theorem pl125 : plT 125 = [] := rfl
/-! loop.example/smithy/laws.szTreeArgS -/
theorem h129 : Has M 129 ((List TreeArg) × Int × Unit) (Int) := ⟨fun _ => rfl, fun _ => rfl⟩
noncomputable def n129 (a0 : (List TreeArg)) (a1 : Int) : Option (Int) := fnO M 129 (Int) (a0, a1, ())
theorem c129 : (∀ {ρ : Type} (ds : List D) (F : D → Option ρ), ((lastR M).o 129 ds).bind F = (da (α := (List TreeArg) × Int × Unit) ds).bind (callN (fun x => n129 x.1 x.2.1) F)) ∧ ∀ aa, (envOf M aa).S 129 = some (.own ((lastR M).o 129)) := ⟨fun ds F => call_oK h129 ds F, fun _ => rfl⟩
theorem m129 : M.mode 129 = 0 := rfl
noncomputable def cd129 : Code := match Go.Proofs.Tryz.f129.body with | some c => c | none => .skip
theorem pl129 : plT 129 = [] := rfl
theorem lv129_5 : lvT 129 5 = [0, 1, 5] := rfl
/-! loop.example/smithy/spec.LexName -/
theorem h130 : Has M 130 (ByteArray × Unit) (Bool) := ⟨fun _ => rfl, fun _ => rfl⟩
noncomputable def n130 (a0 : ByteArray) : Option (Bool) := fnO M 130 (Bool) (a0, ())
theorem c130 : (∀ {ρ : Type} (ds : List D) (F : D → Option ρ), ((lastR M).o 130 ds).bind F = (da (α := ByteArray × Unit) ds).bind (callN (fun x => n130 x.1) F)) ∧ ∀ aa, (envOf M aa).S 130 = some (.own ((lastR M).o 130)) := ⟨fun ds F => call_oK h130 ds F, fun _ => rfl⟩
theorem m130 : M.mode 130 = 0 := rfl
noncomputable def cd130 : Code := match Go.Proofs.Tryz.f130.body with | some c => c | none => .skip
theorem pl130 : plT 130 = [] := rfl
theorem lv130_4 : lvT 130 4 = [0, 3] := rfl
/-! loop.example/smithy/spec.TreeType -/
theorem h131 : Has M 131 (Int × Unit) (ByteArray) := ⟨fun _ => rfl, fun _ => rfl⟩
noncomputable def n131 (a0 : Int) : Option (ByteArray) := fnO M 131 (ByteArray) (a0, ())
theorem c131 : (∀ {ρ : Type} (ds : List D) (F : D → Option ρ), ((lastR M).o 131 ds).bind F = (da (α := Int × Unit) ds).bind (callN (fun x => n131 x.1) F)) ∧ ∀ aa, (envOf M aa).S 131 = some (.own ((lastR M).o 131)) := ⟨fun ds F => call_oK h131 ds F, fun _ => rfl⟩
theorem m131 : M.mode 131 = 0 := rfl
noncomputable def cd131 : Code := match Go.Proofs.Tryz.f131.body with | some c => c | none => .skip
theorem pl131 : plT 131 = [] := rfl
/-! loop.example/smithy/spec.l2Node -/
theorem h132 : Has M 132 (TreeExpr × Unit) (Bool) := ⟨fun _ => rfl, fun _ => rfl⟩
noncomputable def n132 (a0 : TreeExpr) : Option (Bool) := fnO M 132 (Bool) (a0, ())
theorem c132 : (∀ {ρ : Type} (ds : List D) (F : D → Option ρ), ((lastR M).o 132 ds).bind F = (da (α := TreeExpr × Unit) ds).bind (callN (fun x => n132 x.1) F)) ∧ ∀ aa, (envOf M aa).S 132 = some (.own ((lastR M).o 132)) := ⟨fun ds F => call_oK h132 ds F, fun _ => rfl⟩
theorem m132 : M.mode 132 = 0 := rfl
noncomputable def cd132 : Code := match Go.Proofs.Tryz.f132.body with | some c => c | none => .skip
theorem pl132 : plT 132 = [] := rfl
/-! loop.example/smithy/spec.l2Prims -/
theorem h133 : Has M 133 (Unit) ((List ByteArray)) := ⟨fun _ => rfl, fun _ => rfl⟩
noncomputable def n133 : Option ((List ByteArray)) := fnO M 133 ((List ByteArray)) (())
theorem c133 : (∀ {ρ : Type} (ds : List D) (F : D → Option ρ), ((lastR M).o 133 ds).bind F = (da (α := Unit) ds).bind (callN (fun x => n133) F)) ∧ ∀ aa, (envOf M aa).S 133 = some (.own ((lastR M).o 133)) := ⟨fun ds F => call_oK h133 ds F, fun _ => rfl⟩
theorem m133 : M.mode 133 = 0 := rfl
noncomputable def cd133 : Code := match Go.Proofs.Tryz.f133.body with | some c => c | none => .skip
theorem pl133 : plT 133 = [] := rfl
/-! loop.example/smithy/spec.l6Fits -/
theorem h134 : Has M 134 (ByteArray × (List MeanVal) × Unit) (Bool) := ⟨fun _ => rfl, fun _ => rfl⟩
noncomputable def n134 (a0 : ByteArray) (a1 : (List MeanVal)) : Option (Bool) := fnO M 134 (Bool) (a0, a1, ())
theorem c134 : (∀ {ρ : Type} (ds : List D) (F : D → Option ρ), ((lastR M).o 134 ds).bind F = (da (α := ByteArray × (List MeanVal) × Unit) ds).bind (callN (fun x => n134 x.1 x.2.1) F)) ∧ ∀ aa, (envOf M aa).S 134 = some (.own ((lastR M).o 134)) := ⟨fun ds F => call_oK h134 ds F, fun _ => rfl⟩
theorem m134 : M.mode 134 = 0 := rfl
noncomputable def cd134 : Code := match Go.Proofs.Tryz.f134.body with | some c => c | none => .skip
theorem pl134 : plT 134 = [] := rfl
theorem lv134_5 : lvT 134 5 = [1, 5, 7] := rfl
/-! loop.example/smithy/spec.l6Prim -/
theorem h135 : Has M 135 (ByteArray × (List MeanVal) × Unit) (MeanVal × Int) := ⟨fun _ => rfl, fun _ => rfl⟩
noncomputable def n135 (a0 : ByteArray) (a1 : (List MeanVal)) : Option (MeanVal × Int) := fnO M 135 (MeanVal × Int) (a0, a1, ())
theorem c135 : (∀ {ρ : Type} (ds : List D) (F : D → Option ρ), ((lastR M).o 135 ds).bind F = (da (α := ByteArray × (List MeanVal) × Unit) ds).bind (callN (fun x => n135 x.1 x.2.1) F)) ∧ ∀ aa, (envOf M aa).S 135 = some (.own ((lastR M).o 135)) := ⟨fun ds F => call_oK h135 ds F, fun _ => rfl⟩
theorem m135 : M.mode 135 = 0 := rfl
noncomputable def cd135 : Code := match Go.Proofs.Tryz.f135.body with | some c => c | none => .skip
theorem pl135 : plT 135 = [(3, [0])] := rfl
/-! loop.example/smithy/spec.l18Written -/
theorem h136 : Has M 136 (MeanVal × Unit) (TreeExpr × Bool) := ⟨fun _ => rfl, fun _ => rfl⟩
noncomputable def n136 (a0 : MeanVal) : Option (TreeExpr × Bool) := fnO M 136 (TreeExpr × Bool) (a0, ())
theorem c136 : (∀ {ρ : Type} (ds : List D) (F : D → Option ρ), ((lastR M).o 136 ds).bind F = (da (α := MeanVal × Unit) ds).bind (callN (fun x => n136 x.1) F)) ∧ ∀ aa, (envOf M aa).S 136 = some (.own ((lastR M).o 136)) := ⟨fun ds F => call_oK h136 ds F, fun _ => rfl⟩
theorem m136 : M.mode 136 = 0 := rfl
noncomputable def cd136 : Code := match Go.Proofs.Tryz.f136.body with | some c => c | none => .skip
theorem pl136 : plT 136 = [(4, [0, 7, 7009])] := rfl
/-! loop.example/smithy/spec.l6Int -/
theorem h137 : Has M 137 (Int × Unit) (MeanVal) := ⟨fun _ => rfl, fun _ => rfl⟩
noncomputable def n137 (a0 : Int) : Option (MeanVal) := fnO M 137 (MeanVal) (a0, ())
theorem c137 : (∀ {ρ : Type} (ds : List D) (F : D → Option ρ), ((lastR M).o 137 ds).bind F = (da (α := Int × Unit) ds).bind (callN (fun x => n137 x.1) F)) ∧ ∀ aa, (envOf M aa).S 137 = some (.own ((lastR M).o 137)) := ⟨fun ds F => call_oK h137 ds F, fun _ => rfl⟩
theorem m137 : M.mode 137 = 0 := rfl
noncomputable def cd137 : Code := match Go.Proofs.Tryz.f137.body with | some c => c | none => .skip
theorem pl137 : plT 137 = [] := rfl
/-! loop.example/smithy/spec.l6Bool -/
theorem h138 : Has M 138 (Bool × Unit) (MeanVal) := ⟨fun _ => rfl, fun _ => rfl⟩
noncomputable def n138 (a0 : Bool) : Option (MeanVal) := fnO M 138 (MeanVal) (a0, ())
theorem c138 : (∀ {ρ : Type} (ds : List D) (F : D → Option ρ), ((lastR M).o 138 ds).bind F = (da (α := Bool × Unit) ds).bind (callN (fun x => n138 x.1) F)) ∧ ∀ aa, (envOf M aa).S 138 = some (.own ((lastR M).o 138)) := ⟨fun ds F => call_oK h138 ds F, fun _ => rfl⟩
theorem m138 : M.mode 138 = 0 := rfl
noncomputable def cd138 : Code := match Go.Proofs.Tryz.f138.body with | some c => c | none => .skip
theorem pl138 : plT 138 = [] := rfl
/-! loop.example/smithy/laws.toTreeArgS -/
theorem h139 : Has M 139 ((List TreeArg) × Unit) ((List TreeArg)) := ⟨fun _ => rfl, fun _ => rfl⟩
noncomputable def n139 (a0 : (List TreeArg)) : Option ((List TreeArg)) := fnO M 139 ((List TreeArg)) (a0, ())
theorem c139 : (∀ {ρ : Type} (ds : List D) (F : D → Option ρ), ((lastR M).o 139 ds).bind F = (da (α := (List TreeArg) × Unit) ds).bind (callN (fun x => n139 x.1) F)) ∧ ∀ aa, (envOf M aa).S 139 = some (.own ((lastR M).o 139)) := ⟨fun ds F => call_oK h139 ds F, fun _ => rfl⟩
theorem m139 : M.mode 139 = 0 := rfl
noncomputable def cd139 : Code := match Go.Proofs.Tryz.f139.body with | some c => c | none => .skip
theorem pl139 : plT 139 = [] := rfl
theorem lv139_3 : lvT 139 3 = [0, 3, 4] := rfl
/-! loop.example/smithy/impl.LexName -/
theorem h140 : Has M 140 (ByteArray × Unit) (Bool) := ⟨fun _ => rfl, fun _ => rfl⟩
noncomputable def n140 (a0 : ByteArray) : Option (Bool) := fnO M 140 (Bool) (a0, ())
theorem c140 : (∀ {ρ : Type} (ds : List D) (F : D → Option ρ), ((lastR M).o 140 ds).bind F = (da (α := ByteArray × Unit) ds).bind (callN (fun x => n140 x.1) F)) ∧ ∀ aa, (envOf M aa).S 140 = some (.own ((lastR M).o 140)) := ⟨fun ds F => call_oK h140 ds F, fun _ => rfl⟩
theorem m140 : M.mode 140 = 0 := rfl
noncomputable def cd140 : Code := match Go.Proofs.Tryz.f140.body with | some c => c | none => .skip
theorem pl140 : plT 140 = [] := rfl
theorem lv140_2 : lvT 140 2 = [0, 5, 6] := rfl
/-! slices.IndexFunc[[]loop.example/smithy/impl.TreeArg,loop.example/smithy/impl.TreeArg] -/
theorem h141 : Has M 141 ((List TreeArg) × Fv × Unit) (Int) := ⟨fun _ => rfl, fun _ => rfl⟩
noncomputable def n141 (a0 : (List TreeArg)) (a1 : Fv) : Option (Int) := fnO M 141 (Int) (a0, a1, ())
theorem c141 : (∀ {ρ : Type} (ds : List D) (F : D → Option ρ), ((lastR M).o 141 ds).bind F = (da (α := (List TreeArg) × Fv × Unit) ds).bind (callN (fun x => n141 x.1 x.2.1) F)) ∧ ∀ aa, (envOf M aa).S 141 = some (.own ((lastR M).o 141)) := ⟨fun ds F => call_oK h141 ds F, fun _ => rfl⟩
theorem m141 : M.mode 141 = 0 := rfl
noncomputable def cd141 : Code := match Go.Proofs.Tryz.f141.body with | some c => c | none => .skip
theorem pl141 : plT 141 = [] := rfl
theorem lv141_2 : lvT 141 2 = [0, 1, 7, 8] := rfl
/-! (loop.example/smithy/impl.TreeExpr).isRight -/
theorem h142 : Has M 142 (TreeExpr × Unit) (Bool) := ⟨fun _ => rfl, fun _ => rfl⟩
noncomputable def n142 (a0 : TreeExpr) : Option (Bool) := fnO M 142 (Bool) (a0, ())
theorem c142 : (∀ {ρ : Type} (ds : List D) (F : D → Option ρ), ((lastR M).o 142 ds).bind F = (da (α := TreeExpr × Unit) ds).bind (callN (fun x => n142 x.1) F)) ∧ ∀ aa, (envOf M aa).S 142 = some (.own ((lastR M).o 142)) := ⟨fun ds F => call_oK h142 ds F, fun _ => rfl⟩
theorem m142 : M.mode 142 = 0 := rfl
noncomputable def cd142 : Code := match Go.Proofs.Tryz.f142.body with | some c => c | none => .skip
theorem pl142 : plT 142 = [] := rfl
/-! loop.example/smithy/impl.reckoned -/
theorem h143 : Has M 143 (TreeExpr × Unit) (TreeExpr × Bool) := ⟨fun _ => rfl, fun _ => rfl⟩
noncomputable def n143 (a0 : TreeExpr) : Option (TreeExpr × Bool) := fnO M 143 (TreeExpr × Bool) (a0, ())
theorem c143 : (∀ {ρ : Type} (ds : List D) (F : D → Option ρ), ((lastR M).o 143 ds).bind F = (da (α := TreeExpr × Unit) ds).bind (callN (fun x => n143 x.1) F)) ∧ ∀ aa, (envOf M aa).S 143 = some (.own ((lastR M).o 143)) := ⟨fun ds F => call_oK h143 ds F, fun _ => rfl⟩
theorem m143 : M.mode 143 = 0 := rfl
noncomputable def cd143 : Code := match Go.Proofs.Tryz.f143.body with | some c => c | none => .skip
theorem pl143 : plT 143 = [] := rfl
theorem lv143_3 : lvT 143 3 = [1, 2, 4, 13, 14, 15] := rfl
/-! loop.example/smithy/laws.eqTreeArgS -/
theorem h144 : Has M 144 ((List TreeArg) × (List TreeArg) × Unit) (Bool) := ⟨fun _ => rfl, fun _ => rfl⟩
noncomputable def n144 (a0 : (List TreeArg)) (a1 : (List TreeArg)) : Option (Bool) := fnO M 144 (Bool) (a0, a1, ())
theorem c144 : (∀ {ρ : Type} (ds : List D) (F : D → Option ρ), ((lastR M).o 144 ds).bind F = (da (α := (List TreeArg) × (List TreeArg) × Unit) ds).bind (callN (fun x => n144 x.1 x.2.1) F)) ∧ ∀ aa, (envOf M aa).S 144 = some (.own ((lastR M).o 144)) := ⟨fun ds F => call_oK h144 ds F, fun _ => rfl⟩
theorem m144 : M.mode 144 = 0 := rfl
noncomputable def cd144 : Code := match Go.Proofs.Tryz.f144.body with | some c => c | none => .skip
theorem pl144 : plT 144 = [] := rfl
theorem lv144_4 : lvT 144 4 = [0, 1, 5] := rfl
/-! loop.example/smithy/spec.l22Loop -/
theorem h147 : Has M 147 (TreeFun × TreeExpr × TreeExpr × Unit) (TreeExpr) := ⟨fun _ => rfl, fun _ => rfl⟩
noncomputable def n147 (a0 : TreeFun) (a1 : TreeExpr) (a2 : TreeExpr) : Option (TreeExpr) := fnO M 147 (TreeExpr) (a0, a1, a2, ())
theorem c147 : (∀ {ρ : Type} (ds : List D) (F : D → Option ρ), ((lastR M).o 147 ds).bind F = (da (α := TreeFun × TreeExpr × TreeExpr × Unit) ds).bind (callN (fun x => n147 x.1 x.2.1 x.2.2.1) F)) ∧ ∀ aa, (envOf M aa).S 147 = some (.own ((lastR M).o 147)) := ⟨fun ds F => call_oK h147 ds F, fun _ => rfl⟩
theorem m147 : M.mode 147 = 0 := rfl
noncomputable def cd147 : Code := match Go.Proofs.Tryz.f147.body with | some c => c | none => .skip
theorem pl147 : plT 147 = [(2, [0, 4, 5, 6, 7, 8, 1004, 1005, 1006, 1007, 1008, 2004, 2005]), (3, [0, 2, 3, 4, 4000, 4002, 4003, 4008, 4009, 5000, 5002, 5003, 6000, 6002, 6003])] := rfl
/-! loop.example/smithy/spec.l4Sig -/
theorem h149 : Has M 149 (FaceSig × Unit) (FaceSig) := ⟨fun _ => rfl, fun _ => rfl⟩
noncomputable def n149 (a0 : FaceSig) : Option (FaceSig) := fnO M 149 (FaceSig) (a0, ())
theorem c149 : (∀ {ρ : Type} (ds : List D) (F : D → Option ρ), ((lastR M).o 149 ds).bind F = (da (α := FaceSig × Unit) ds).bind (callN (fun x => n149 x.1) F)) ∧ ∀ aa, (envOf M aa).S 149 = some (.own ((lastR M).o 149)) := ⟨fun ds F => call_oK h149 ds F, fun _ => rfl⟩
theorem m149 : M.mode 149 = 0 := rfl
noncomputable def cd149 : Code := match Go.Proofs.Tryz.f149.body with | some c => c | none => .skip
theorem pl149 : plT 149 = [] := rfl
/-! slices.IndexFunc[[]loop.example/smithy/impl.TypeFace,loop.example/smithy/impl.TypeFace] -/
theorem h150 : Has M 150 ((List TypeFace) × Fv × Unit) (Int) := ⟨fun _ => rfl, fun _ => rfl⟩
noncomputable def n150 (a0 : (List TypeFace)) (a1 : Fv) : Option (Int) := fnO M 150 (Int) (a0, a1, ())
theorem c150 : (∀ {ρ : Type} (ds : List D) (F : D → Option ρ), ((lastR M).o 150 ds).bind F = (da (α := (List TypeFace) × Fv × Unit) ds).bind (callN (fun x => n150 x.1 x.2.1) F)) ∧ ∀ aa, (envOf M aa).S 150 = some (.own ((lastR M).o 150)) := ⟨fun ds F => call_oK h150 ds F, fun _ => rfl⟩
theorem m150 : M.mode 150 = 0 := rfl
noncomputable def cd150 : Code := match Go.Proofs.Tryz.f150.body with | some c => c | none => .skip
theorem pl150 : plT 150 = [] := rfl
theorem lv150_2 : lvT 150 2 = [0, 1, 7, 8] := rfl
/-! (loop.example/smithy/impl.typer).kids -/
theorem h151 : Has M 151 (Typer × (List TreeArg) × TreeExpr × Unit) ((List Int) × Int) := ⟨fun _ => rfl, fun _ => rfl⟩
noncomputable def n151 (a0 : Typer) (a1 : (List TreeArg)) (a2 : TreeExpr) : Option ((List Int) × Int) := fnO M 151 ((List Int) × Int) (a0, a1, a2, ())
theorem c151 : (∀ {ρ : Type} (ds : List D) (F : D → Option ρ), ((lastR M).o 151 ds).bind F = (da (α := Typer × (List TreeArg) × TreeExpr × Unit) ds).bind (callN (fun x => n151 x.1 x.2.1 x.2.2.1) F)) ∧ ∀ aa, (envOf M aa).S 151 = some (.own ((lastR M).o 151)) := ⟨fun ds F => call_oK h151 ds F, fun _ => rfl⟩
theorem m151 : M.mode 151 = 0 := rfl
noncomputable def cd151 : Code := match Go.Proofs.Tryz.f151.body with | some c => c | none => .skip
theorem pl151 : plT 151 = [(6, [0, 2, 8, 2000, 3000, 4000, 5000, 6000])] := rfl
theorem lv151_3 : lvT 151 3 = [1, 3, 5, 8, 15, 16, 17] := rfl
/-! slices.Clone[[]int,int] -/
theorem h152 : Has M 152 ((List Int) × Unit) ((List Int)) := ⟨fun _ => rfl, fun _ => rfl⟩
noncomputable def n152 (a0 : (List Int)) : Option ((List Int)) := fnO M 152 ((List Int)) (a0, ())
theorem c152 : (∀ {ρ : Type} (ds : List D) (F : D → Option ρ), ((lastR M).o 152 ds).bind F = (da (α := (List Int) × Unit) ds).bind (callN (fun x => n152 x.1) F)) ∧ ∀ aa, (envOf M aa).S 152 = some (.own ((lastR M).o 152)) := ⟨fun ds F => call_oK h152 ds F, fun _ => rfl⟩
theorem m152 : M.mode 152 = 0 := rfl
noncomputable def cd152 : Code := match Go.Proofs.Tryz.f152.body with | some c => c | none => .skip
theorem pl152 : plT 152 = [] := rfl
/-! loop.example/smithy/impl.lastVar -/
theorem h153 : Has M 153 ((List TreeArg) × ByteArray × Unit) (Int) := ⟨fun _ => rfl, fun _ => rfl⟩
noncomputable def n153 (a0 : (List TreeArg)) (a1 : ByteArray) : Option (Int) := fnO M 153 (Int) (a0, a1, ())
theorem c153 : (∀ {ρ : Type} (ds : List D) (F : D → Option ρ), ((lastR M).o 153 ds).bind F = (da (α := (List TreeArg) × ByteArray × Unit) ds).bind (callN (fun x => n153 x.1 x.2.1) F)) ∧ ∀ aa, (envOf M aa).S 153 = some (.own ((lastR M).o 153)) := ⟨fun ds F => call_oK h153 ds F, fun _ => rfl⟩
theorem m153 : M.mode 153 = 0 := rfl
noncomputable def cd153 : Code := match Go.Proofs.Tryz.f153.body with | some c => c | none => .skip
theorem pl153 : plT 153 = [] := rfl
/-! loop.example/smithy/impl.TypePrim -/
theorem h154 : Has M 154 (ByteArray × Unit) ((List Int) × Int) := ⟨fun _ => rfl, fun _ => rfl⟩
noncomputable def n154 (a0 : ByteArray) : Option ((List Int) × Int) := fnO M 154 ((List Int) × Int) (a0, ())
theorem c154 : (∀ {ρ : Type} (ds : List D) (F : D → Option ρ), ((lastR M).o 154 ds).bind F = (da (α := ByteArray × Unit) ds).bind (callN (fun x => n154 x.1) F)) ∧ ∀ aa, (envOf M aa).S 154 = some (.own ((lastR M).o 154)) := ⟨fun ds F => call_oK h154 ds F, fun _ => rfl⟩
theorem m154 : M.mode 154 = 0 := rfl
noncomputable def cd154 : Code := match Go.Proofs.Tryz.f154.body with | some c => c | none => .skip
theorem pl154 : plT 154 = [] := rfl
/-! slices.Repeat[[]int,int] -/
theorem h155 : Has M 155 ((List Int) × Int × Unit) ((List Int)) := ⟨fun _ => rfl, fun _ => rfl⟩
noncomputable def n155 (a0 : (List Int)) (a1 : Int) : Option ((List Int)) := fnO M 155 ((List Int)) (a0, a1, ())
theorem c155 : (∀ {ρ : Type} (ds : List D) (F : D → Option ρ), ((lastR M).o 155 ds).bind F = (da (α := (List Int) × Int × Unit) ds).bind (callN (fun x => n155 x.1 x.2.1) F)) ∧ ∀ aa, (envOf M aa).S 155 = some (.own ((lastR M).o 155)) := ⟨fun ds F => call_oK h155 ds F, fun _ => rfl⟩
theorem m155 : M.mode 155 = 0 := rfl
noncomputable def cd155 : Code := match Go.Proofs.Tryz.f155.body with | some c => c | none => .skip
theorem pl155 : plT 155 = [] := rfl
theorem lv155_8 : lvT 155 8 = [7, 8] := rfl
/-! loop.example/smithy/impl.TypeFind -/
theorem h156 : Has M 156 (TreeMod × (List TypeFace) × ByteArray × ByteArray × Unit) (FaceSig × Bool) := ⟨fun _ => rfl, fun _ => rfl⟩
noncomputable def n156 (a0 : TreeMod) (a1 : (List TypeFace)) (a2 : ByteArray) (a3 : ByteArray) : Option (FaceSig × Bool) := fnO M 156 (FaceSig × Bool) (a0, a1, a2, a3, ())
theorem c156 : (∀ {ρ : Type} (ds : List D) (F : D → Option ρ), ((lastR M).o 156 ds).bind F = (da (α := TreeMod × (List TypeFace) × ByteArray × ByteArray × Unit) ds).bind (callN (fun x => n156 x.1 x.2.1 x.2.2.1 x.2.2.2.1) F)) ∧ ∀ aa, (envOf M aa).S 156 = some (.own ((lastR M).o 156)) := ⟨fun ds F => call_oK h156 ds F, fun _ => rfl⟩
theorem m156 : M.mode 156 = 0 := rfl
noncomputable def cd156 : Code := match Go.Proofs.Tryz.f156.body with | some c => c | none => .skip
theorem pl156 : plT 156 = [] := rfl
/-! slices.Equal[[]int,int] -/
theorem h157 : Has M 157 ((List Int) × (List Int) × Unit) (Bool) := ⟨fun _ => rfl, fun _ => rfl⟩
noncomputable def n157 (a0 : (List Int)) (a1 : (List Int)) : Option (Bool) := fnO M 157 (Bool) (a0, a1, ())
theorem c157 : (∀ {ρ : Type} (ds : List D) (F : D → Option ρ), ((lastR M).o 157 ds).bind F = (da (α := (List Int) × (List Int) × Unit) ds).bind (callN (fun x => n157 x.1 x.2.1) F)) ∧ ∀ aa, (envOf M aa).S 157 = some (.own ((lastR M).o 157)) := ⟨fun ds F => call_oK h157 ds F, fun _ => rfl⟩
theorem m157 : M.mode 157 = 0 := rfl
noncomputable def cd157 : Code := match Go.Proofs.Tryz.f157.body with | some c => c | none => .skip
theorem pl157 : plT 157 = [] := rfl
theorem lv157_4 : lvT 157 4 = [0, 1, 12, 13] := rfl
/-! loop.example/smithy/impl.argTypes -/
theorem h158 : Has M 158 ((List TreeArg) × Unit) ((List Int)) := ⟨fun _ => rfl, fun _ => rfl⟩
noncomputable def n158 (a0 : (List TreeArg)) : Option ((List Int)) := fnO M 158 ((List Int)) (a0, ())
theorem c158 : (∀ {ρ : Type} (ds : List D) (F : D → Option ρ), ((lastR M).o 158 ds).bind F = (da (α := (List TreeArg) × Unit) ds).bind (callN (fun x => n158 x.1) F)) ∧ ∀ aa, (envOf M aa).S 158 = some (.own ((lastR M).o 158)) := ⟨fun ds F => call_oK h158 ds F, fun _ => rfl⟩
theorem m158 : M.mode 158 = 0 := rfl
noncomputable def cd158 : Code := match Go.Proofs.Tryz.f158.body with | some c => c | none => .skip
theorem pl158 : plT 158 = [] := rfl
theorem lv158_3 : lvT 158 3 = [3, 7, 8, 9] := rfl
/-! slices.Index[[]string,string] -/
theorem h162 : Has M 162 ((List ByteArray) × ByteArray × Unit) (Int) := ⟨fun _ => rfl, fun _ => rfl⟩
noncomputable def n162 (a0 : (List ByteArray)) (a1 : ByteArray) : Option (Int) := fnO M 162 (Int) (a0, a1, ())
theorem c162 : (∀ {ρ : Type} (ds : List D) (F : D → Option ρ), ((lastR M).o 162 ds).bind F = (da (α := (List ByteArray) × ByteArray × Unit) ds).bind (callN (fun x => n162 x.1 x.2.1) F)) ∧ ∀ aa, (envOf M aa).S 162 = some (.own ((lastR M).o 162)) := ⟨fun ds F => call_oK h162 ds F, fun _ => rfl⟩
theorem m162 : M.mode 162 = 0 := rfl
noncomputable def cd162 : Code := match Go.Proofs.Tryz.f162.body with | some c => c | none => .skip
theorem pl162 : plT 162 = [] := rfl
theorem lv162_2 : lvT 162 2 = [0, 1, 7, 8] := rfl
/-! loop.example/smithy/impl.rowVal -/
theorem h164 : Has M 164 ((List Int) × Unit) (MeanVal) := ⟨fun _ => rfl, fun _ => rfl⟩
noncomputable def n164 (a0 : (List Int)) : Option (MeanVal) := fnO M 164 (MeanVal) (a0, ())
theorem c164 : (∀ {ρ : Type} (ds : List D) (F : D → Option ρ), ((lastR M).o 164 ds).bind F = (da (α := (List Int) × Unit) ds).bind (callN (fun x => n164 x.1) F)) ∧ ∀ aa, (envOf M aa).S 164 = some (.eat fun x ds => (lastR M).o 164 (x :: ds)) := ⟨fun ds F => call_oK h164 ds F, fun _ => rfl⟩
theorem m164 : M.mode 164 = 3 := rfl
noncomputable def cd164 : Code := match Go.Proofs.Tryz.f164.body with | some c => c | none => .skip
theorem pl164 : plT 164 = [] := rfl
/-! loop.example/smithy/impl.MeanPrim -/
theorem h165 : Has M 165 (ByteArray × (List MeanVal) × Unit) (MeanVal × Int) := ⟨fun _ => rfl, fun _ => rfl⟩
noncomputable def n165 (a0 : ByteArray) (a1 : (List MeanVal)) : Option (MeanVal × Int) := fnO M 165 (MeanVal × Int) (a0, a1, ())
theorem c165 : (∀ {ρ : Type} (ds : List D) (F : D → Option ρ), ((lastR M).o 165 ds).bind F = (da (α := ByteArray × (List MeanVal) × Unit) ds).bind (callN (fun x => n165 x.1 x.2.1) F)) ∧ ∀ aa, (envOf M aa).S 165 = some (.own ((lastR M).o 165)) := ⟨fun ds F => call_oK h165 ds F, fun _ => rfl⟩
theorem m165 : M.mode 165 = 0 := rfl
noncomputable def cd165 : Code := match Go.Proofs.Tryz.f165.body with | some c => c | none => .skip
theorem pl165 : plT 165 = [] := rfl
/-! loop.example/smithy/impl.modAt -/
theorem h166 : Has M 166 ((List MeanMod) × ByteArray × Unit) (TreeMod × Bool) := ⟨fun _ => rfl, fun _ => rfl⟩
noncomputable def n166 (a0 : (List MeanMod)) (a1 : ByteArray) : Option (TreeMod × Bool) := fnO M 166 (TreeMod × Bool) (a0, a1, ())
theorem c166 : (∀ {ρ : Type} (ds : List D) (F : D → Option ρ), ((lastR M).o 166 ds).bind F = (da (α := (List MeanMod) × ByteArray × Unit) ds).bind (callN (fun x => n166 x.1 x.2.1) F)) ∧ ∀ aa, (envOf M aa).S 166 = some (.own ((lastR M).o 166)) := ⟨fun ds F => call_oK h166 ds F, fun _ => rfl⟩
theorem m166 : M.mode 166 = 0 := rfl
noncomputable def cd166 : Code := match Go.Proofs.Tryz.f166.body with | some c => c | none => .skip
theorem pl166 : plT 166 = [] := rfl
/-! loop.example/smithy/impl.funAt -/
theorem h167 : Has M 167 (TreeMod × ByteArray × Unit) (TreeFun × Bool) := ⟨fun _ => rfl, fun _ => rfl⟩
noncomputable def n167 (a0 : TreeMod) (a1 : ByteArray) : Option (TreeFun × Bool) := fnO M 167 (TreeFun × Bool) (a0, a1, ())
theorem c167 : (∀ {ρ : Type} (ds : List D) (F : D → Option ρ), ((lastR M).o 167 ds).bind F = (da (α := TreeMod × ByteArray × Unit) ds).bind (callN (fun x => n167 x.1 x.2.1) F)) ∧ ∀ aa, (envOf M aa).S 167 = some (.own ((lastR M).o 167)) := ⟨fun ds F => call_oK h167 ds F, fun _ => rfl⟩
theorem m167 : M.mode 167 = 0 := rfl
noncomputable def cd167 : Code := match Go.Proofs.Tryz.f167.body with | some c => c | none => .skip
theorem pl167 : plT 167 = [] := rfl
/-! loop.example/smithy/laws.szTreeArg -/
theorem h169 : Has M 169 (TreeArg × Int × Unit) (Int) := ⟨fun _ => rfl, fun _ => rfl⟩
noncomputable def n169 (a0 : TreeArg) (a1 : Int) : Option (Int) := fnO M 169 (Int) (a0, a1, ())
theorem c169 : (∀ {ρ : Type} (ds : List D) (F : D → Option ρ), ((lastR M).o 169 ds).bind F = (da (α := TreeArg × Int × Unit) ds).bind (callN (fun x => n169 x.1 x.2.1) F)) ∧ ∀ aa, (envOf M aa).S 169 = some (.own ((lastR M).o 169)) := ⟨fun ds F => call_oK h169 ds F, fun _ => rfl⟩
theorem m169 : M.mode 169 = 0 := rfl
noncomputable def cd169 : Code := match Go.Proofs.Tryz.f169.body with | some c => c | none => .skip
theorem pl169 : plT 169 = [] := rfl
/-! loop.example/smithy/spec.l1Kept -/
theorem h170 : Has M 170 (ByteArray × Unit) (Bool) := ⟨fun _ => rfl, fun _ => rfl⟩
noncomputable def n170 (a0 : ByteArray) : Option (Bool) := fnO M 170 (Bool) (a0, ())
theorem c170 : (∀ {ρ : Type} (ds : List D) (F : D → Option ρ), ((lastR M).o 170 ds).bind F = (da (α := ByteArray × Unit) ds).bind (callN (fun x => n170 x.1) F)) ∧ ∀ aa, (envOf M aa).S 170 = some (.own ((lastR M).o 170)) := ⟨fun ds F => call_oK h170 ds F, fun _ => rfl⟩
theorem m170 : M.mode 170 = 0 := rfl
noncomputable def cd170 : Code := match Go.Proofs.Tryz.f170.body with | some c => c | none => .skip
theorem pl170 : plT 170 = [] := rfl
theorem lv170_3 : lvT 170 3 = [0, 3, 4] := rfl
/-! loop.example/smithy/spec.l2Plain -/
theorem h171 : Has M 171 (TreeExpr × Bool × Bool × Bool × Unit) (Bool) := ⟨fun _ => rfl, fun _ => rfl⟩
noncomputable def n171 (a0 : TreeExpr) (a1 : Bool) (a2 : Bool) (a3 : Bool) : Option (Bool) := fnO M 171 (Bool) (a0, a1, a2, a3, ())
theorem c171 : (∀ {ρ : Type} (ds : List D) (F : D → Option ρ), ((lastR M).o 171 ds).bind F = (da (α := TreeExpr × Bool × Bool × Bool × Unit) ds).bind (callN (fun x => n171 x.1 x.2.1 x.2.2.1 x.2.2.2.1) F)) ∧ ∀ aa, (envOf M aa).S 171 = some (.own ((lastR M).o 171)) := ⟨fun ds F => call_oK h171 ds F, fun _ => rfl⟩
theorem m171 : M.mode 171 = 0 := rfl
noncomputable def cd171 : Code := match Go.Proofs.Tryz.f171.body with | some c => c | none => .skip
theorem pl171 : plT 171 = [] := rfl
/-! loop.example/smithy/spec.TreeArity -/
theorem h172 : Has M 172 (ByteArray × Unit) (Int) := ⟨fun _ => rfl, fun _ => rfl⟩
noncomputable def n172 (a0 : ByteArray) : Option (Int) := fnO M 172 (Int) (a0, ())
theorem c172 : (∀ {ρ : Type} (ds : List D) (F : D → Option ρ), ((lastR M).o 172 ds).bind F = (da (α := ByteArray × Unit) ds).bind (callN (fun x => n172 x.1) F)) ∧ ∀ aa, (envOf M aa).S 172 = some (.own ((lastR M).o 172)) := ⟨fun ds F => call_oK h172 ds F, fun _ => rfl⟩
theorem m172 : M.mode 172 = 0 := rfl
noncomputable def cd172 : Code := match Go.Proofs.Tryz.f172.body with | some c => c | none => .skip
theorem pl172 : plT 172 = [] := rfl
/-! loop.example/smithy/spec.l6Calc -/
theorem h173 : Has M 173 (Int × Int × Int × Unit) (MeanVal × Int) := ⟨fun _ => rfl, fun _ => rfl⟩
noncomputable def n173 (a0 : Int) (a1 : Int) (a2 : Int) : Option (MeanVal × Int) := fnO M 173 (MeanVal × Int) (a0, a1, a2, ())
theorem c173 : (∀ {ρ : Type} (ds : List D) (F : D → Option ρ), ((lastR M).o 173 ds).bind F = (da (α := Int × Int × Int × Unit) ds).bind (callN (fun x => n173 x.1 x.2.1 x.2.2.1) F)) ∧ ∀ aa, (envOf M aa).S 173 = some (.own ((lastR M).o 173)) := ⟨fun ds F => call_oK h173 ds F, fun _ => rfl⟩
theorem m173 : M.mode 173 = 0 := rfl
noncomputable def cd173 : Code := match Go.Proofs.Tryz.f173.body with | some c => c | none => .skip
theorem pl173 : plT 173 = [] := rfl
/-! loop.example/smithy/spec.l6Rows -/
theorem h174 : Has M 174 (Int × (List MeanVal) × Unit) (MeanVal × Int) := ⟨fun _ => rfl, fun _ => rfl⟩
noncomputable def n174 (a0 : Int) (a1 : (List MeanVal)) : Option (MeanVal × Int) := fnO M 174 (MeanVal × Int) (a0, a1, ())
theorem c174 : (∀ {ρ : Type} (ds : List D) (F : D → Option ρ), ((lastR M).o 174 ds).bind F = (da (α := Int × (List MeanVal) × Unit) ds).bind (callN (fun x => n174 x.1 x.2.1) F)) ∧ ∀ aa, (envOf M aa).S 174 = some (.own ((lastR M).o 174)) := ⟨fun ds F => call_oK h174 ds F, fun _ => rfl⟩
theorem m174 : M.mode 174 = 0 := rfl
noncomputable def cd174 : Code := match Go.Proofs.Tryz.f174.body with | some c => c | none => .skip
theorem pl174 : plT 174 = [(7, [0, 1000, 3000, 3001, 4000, 4001, 5000, 5001, 6000, 6001])] := rfl
/-! loop.example/smithy/laws.toTreeArg -/
theorem h175 : Has M 175 (TreeArg × Unit) (TreeArg) := ⟨fun _ => rfl, fun _ => rfl⟩
noncomputable def n175 (a0 : TreeArg) : Option (TreeArg) := fnO M 175 (TreeArg) (a0, ())
theorem c175 : (∀ {ρ : Type} (ds : List D) (F : D → Option ρ), ((lastR M).o 175 ds).bind F = (da (α := TreeArg × Unit) ds).bind (callN (fun x => n175 x.1) F)) ∧ ∀ aa, (envOf M aa).S 175 = some (.own ((lastR M).o 175)) := ⟨fun ds F => call_oK h175 ds F, fun _ => rfl⟩
theorem m175 : M.mode 175 = 0 := rfl
noncomputable def cd175 : Code := match Go.Proofs.Tryz.f175.body with | some c => c | none => .skip
theorem pl175 : plT 175 = [] := rfl
/-! loop.example/smithy/impl.isOwn -/
theorem h176 : Has M 176 (ByteArray × Unit) (Bool) := ⟨fun _ => rfl, fun _ => rfl⟩
noncomputable def n176 (a0 : ByteArray) : Option (Bool) := fnO M 176 (Bool) (a0, ())
theorem c176 : (∀ {ρ : Type} (ds : List D) (F : D → Option ρ), ((lastR M).o 176 ds).bind F = (da (α := ByteArray × Unit) ds).bind (callN (fun x => n176 x.1) F)) ∧ ∀ aa, (envOf M aa).S 176 = some (.own ((lastR M).o 176)) := ⟨fun ds F => call_oK h176 ds F, fun _ => rfl⟩
theorem m176 : M.mode 176 = 0 := rfl
noncomputable def cd176 : Code := match Go.Proofs.Tryz.f176.body with | some c => c | none => .skip
theorem pl176 : plT 176 = [] := rfl
/-! (loop.example/smithy/impl.TreeExpr).partsOk -/
theorem h177 : Has M 177 (TreeExpr × Unit) (Bool) := ⟨fun _ => rfl, fun _ => rfl⟩
noncomputable def n177 (a0 : TreeExpr) : Option (Bool) := fnO M 177 (Bool) (a0, ())
theorem c177 : (∀ {ρ : Type} (ds : List D) (F : D → Option ρ), ((lastR M).o 177 ds).bind F = (da (α := TreeExpr × Unit) ds).bind (callN (fun x => n177 x.1) F)) ∧ ∀ aa, (envOf M aa).S 177 = some (.own ((lastR M).o 177)) := ⟨fun ds F => call_oK h177 ds F, fun _ => rfl⟩
theorem m177 : M.mode 177 = 0 := rfl
noncomputable def cd177 : Code := match Go.Proofs.Tryz.f177.body with | some c => c | none => .skip
theorem pl177 : plT 177 = [] := rfl
/-! slices.ContainsFunc[[]loop.example/smithy/impl.TreeExpr,loop.example/smithy/impl.TreeExpr] -/
theorem h178 : Has M 178 ((List TreeExpr) × Fv × Unit) (Bool) := ⟨fun _ => rfl, fun _ => rfl⟩
noncomputable def n178 (a0 : (List TreeExpr)) (a1 : Fv) : Option (Bool) := fnO M 178 (Bool) (a0, a1, ())
theorem c178 : (∀ {ρ : Type} (ds : List D) (F : D → Option ρ), ((lastR M).o 178 ds).bind F = (da (α := (List TreeExpr) × Fv × Unit) ds).bind (callN (fun x => n178 x.1 x.2.1) F)) ∧ ∀ aa, (envOf M aa).S 178 = some (.own ((lastR M).o 178)) := ⟨fun ds F => call_oK h178 ds F, fun _ => rfl⟩
theorem m178 : M.mode 178 = 0 := rfl
noncomputable def cd178 : Code := match Go.Proofs.Tryz.f178.body with | some c => c | none => .skip
theorem pl178 : plT 178 = [] := rfl
/-! (loop.example/smithy/impl.TreeExpr).isRight$1 -/
theorem h179 : Has M 179 (TreeExpr × Unit) (Bool) := ⟨fun _ => rfl, fun _ => rfl⟩
noncomputable def n179 (a0 : TreeExpr) : Option (Bool) := fnO M 179 (Bool) (a0, ())
theorem c179 : (∀ {ρ : Type} (ds : List D) (F : D → Option ρ), ((lastR M).o 179 ds).bind F = (da (α := TreeExpr × Unit) ds).bind (callN (fun x => n179 x.1) F)) ∧ ∀ aa, (envOf M aa).S 179 = some (.own ((lastR M).o 179)) := ⟨fun ds F => call_oK h179 ds F, fun _ => rfl⟩
theorem m179 : M.mode 179 = 0 := rfl
noncomputable def cd179 : Code := match Go.Proofs.Tryz.f179.body with | some c => c | none => .skip
theorem pl179 : plT 179 = [] := rfl
/-! loop.example/smithy/impl.known -/
theorem h180 : Has M 180 (TreeExpr × Unit) (MeanVal × Bool) := ⟨fun _ => rfl, fun _ => rfl⟩
noncomputable def n180 (a0 : TreeExpr) : Option (MeanVal × Bool) := fnO M 180 (MeanVal × Bool) (a0, ())
theorem c180 : (∀ {ρ : Type} (ds : List D) (F : D → Option ρ), ((lastR M).o 180 ds).bind F = (da (α := TreeExpr × Unit) ds).bind (callN (fun x => n180 x.1) F)) ∧ ∀ aa, (envOf M aa).S 180 = some (.own ((lastR M).o 180)) := ⟨fun ds F => call_oK h180 ds F, fun _ => rfl⟩
theorem m180 : M.mode 180 = 0 := rfl
noncomputable def cd180 : Code := match Go.Proofs.Tryz.f180.body with | some c => c | none => .skip
theorem pl180 : plT 180 = [] := rfl
/-! loop.example/smithy/impl.literal -/
theorem h181 : Has M 181 (MeanVal × Unit) (TreeExpr × Bool) := ⟨fun _ => rfl, fun _ => rfl⟩
noncomputable def n181 (a0 : MeanVal) : Option (TreeExpr × Bool) := fnO M 181 (TreeExpr × Bool) (a0, ())
theorem c181 : (∀ {ρ : Type} (ds : List D) (F : D → Option ρ), ((lastR M).o 181 ds).bind F = (da (α := MeanVal × Unit) ds).bind (callN (fun x => n181 x.1) F)) ∧ ∀ aa, (envOf M aa).S 181 = some (.own ((lastR M).o 181)) := ⟨fun ds F => call_oK h181 ds F, fun _ => rfl⟩
theorem m181 : M.mode 181 = 0 := rfl
noncomputable def cd181 : Code := match Go.Proofs.Tryz.f181.body with | some c => c | none => .skip
theorem pl181 : plT 181 = [(4, [0, 7, 7009])] := rfl
/-! loop.example/smithy/laws.eqTreeArg -/
theorem h182 : Has M 182 (TreeArg × TreeArg × Unit) (Bool) := ⟨fun _ => rfl, fun _ => rfl⟩
noncomputable def n182 (a0 : TreeArg) (a1 : TreeArg) : Option (Bool) := fnO M 182 (Bool) (a0, a1, ())
theorem c182 : (∀ {ρ : Type} (ds : List D) (F : D → Option ρ), ((lastR M).o 182 ds).bind F = (da (α := TreeArg × TreeArg × Unit) ds).bind (callN (fun x => n182 x.1 x.2.1) F)) ∧ ∀ aa, (envOf M aa).S 182 = some (.own ((lastR M).o 182)) := ⟨fun ds F => call_oK h182 ds F, fun _ => rfl⟩
theorem m182 : M.mode 182 = 0 := rfl
noncomputable def cd182 : Code := match Go.Proofs.Tryz.f182.body with | some c => c | none => .skip
theorem pl182 : plT 182 = [] := rfl
/-! slices.Clone[[]loop.example/smithy/impl.TreeArg,loop.example/smithy/impl.TreeArg] -/
theorem h185 : Has M 185 ((List TreeArg) × Unit) ((List TreeArg)) := ⟨fun _ => rfl, fun _ => rfl⟩
noncomputable def n185 (a0 : (List TreeArg)) : Option ((List TreeArg)) := fnO M 185 ((List TreeArg)) (a0, ())
theorem c185 : (∀ {ρ : Type} (ds : List D) (F : D → Option ρ), ((lastR M).o 185 ds).bind F = (da (α := (List TreeArg) × Unit) ds).bind (callN (fun x => n185 x.1) F)) ∧ ∀ aa, (envOf M aa).S 185 = some (.own ((lastR M).o 185)) := ⟨fun ds F => call_oK h185 ds F, fun _ => rfl⟩
theorem m185 : M.mode 185 = 0 := rfl
noncomputable def cd185 : Code := match Go.Proofs.Tryz.f185.body with | some c => c | none => .skip
theorem pl185 : plT 185 = [] := rfl
/-! slices.Backward[[]loop.example/smithy/impl.TreeArg,loop.example/smithy/impl.TreeArg] -/
theorem h186 : Has M 186 ((List TreeArg) × Unit) (Fv) := ⟨fun _ => rfl, fun _ => rfl⟩
noncomputable def n186 (a0 : (List TreeArg)) : Option (Fv) := fnO M 186 (Fv) (a0, ())
theorem c186 : (∀ {ρ : Type} (ds : List D) (F : D → Option ρ), ((lastR M).o 186 ds).bind F = (da (α := (List TreeArg) × Unit) ds).bind (callN (fun x => n186 x.1) F)) ∧ ∀ aa, (envOf M aa).S 186 = some (.own ((lastR M).o 186)) := ⟨fun ds F => call_oK h186 ds F, fun _ => rfl⟩
theorem m186 : M.mode 186 = 0 := rfl
noncomputable def cd186 : Code := match Go.Proofs.Tryz.f186.body with | some c => c | none => .skip
theorem pl186 : plT 186 = [] := rfl
/-! slices.IndexFunc[[]loop.example/smithy/impl.TreeFun,loop.example/smithy/impl.TreeFun] -/
theorem h188 : Has M 188 ((List TreeFun) × Fv × Unit) (Int) := ⟨fun _ => rfl, fun _ => rfl⟩
noncomputable def n188 (a0 : (List TreeFun)) (a1 : Fv) : Option (Int) := fnO M 188 (Int) (a0, a1, ())
theorem c188 : (∀ {ρ : Type} (ds : List D) (F : D → Option ρ), ((lastR M).o 188 ds).bind F = (da (α := (List TreeFun) × Fv × Unit) ds).bind (callN (fun x => n188 x.1 x.2.1) F)) ∧ ∀ aa, (envOf M aa).S 188 = some (.own ((lastR M).o 188)) := ⟨fun ds F => call_oK h188 ds F, fun _ => rfl⟩
theorem m188 : M.mode 188 = 0 := rfl
noncomputable def cd188 : Code := match Go.Proofs.Tryz.f188.body with | some c => c | none => .skip
theorem pl188 : plT 188 = [] := rfl
theorem lv188_2 : lvT 188 2 = [0, 1, 7, 8] := rfl
/-! loop.example/smithy/impl.TypeFind$1 -/
theorem h189 : Has M 189 (TreeFun × Fv × Unit) (Bool) := ⟨fun _ => rfl, fun _ => rfl⟩
noncomputable def n189 (a0 : TreeFun) (a1 : Fv) : Option (Bool) := fnO M 189 (Bool) (a0, a1, ())
theorem c189 : (∀ {ρ : Type} (ds : List D) (F : D → Option ρ), ((lastR M).o 189 ds).bind F = (da (α := TreeFun × Fv × Unit) ds).bind (callN (fun x => n189 x.1 x.2.1) F)) ∧ ∀ aa, (envOf M aa).S 189 = some (.own ((lastR M).o 189)) := ⟨fun ds F => call_oK h189 ds F, fun _ => rfl⟩
theorem m189 : M.mode 189 = 0 := rfl
noncomputable def cd189 : Code := match Go.Proofs.Tryz.f189.body with | some c => c | none => .skip
theorem pl189 : plT 189 = [] := rfl
/-! loop.example/smithy/impl.TypeFind$2 -/
theorem h190 : Has M 190 (TypeFace × Fv × Unit) (Bool) := ⟨fun _ => rfl, fun _ => rfl⟩
noncomputable def n190 (a0 : TypeFace) (a1 : Fv) : Option (Bool) := fnO M 190 (Bool) (a0, a1, ())
theorem c190 : (∀ {ρ : Type} (ds : List D) (F : D → Option ρ), ((lastR M).o 190 ds).bind F = (da (α := TypeFace × Fv × Unit) ds).bind (callN (fun x => n190 x.1 x.2.1) F)) ∧ ∀ aa, (envOf M aa).S 190 = some (.own ((lastR M).o 190)) := ⟨fun ds F => call_oK h190 ds F, fun _ => rfl⟩
theorem m190 : M.mode 190 = 0 := rfl
noncomputable def cd190 : Code := match Go.Proofs.Tryz.f190.body with | some c => c | none => .skip
theorem pl190 : plT 190 = [] := rfl
/-! slices.IndexFunc[[]loop.example/smithy/impl.FaceSig,loop.example/smithy/impl.FaceSig] -/
theorem h191 : Has M 191 ((List FaceSig) × Fv × Unit) (Int) := ⟨fun _ => rfl, fun _ => rfl⟩
noncomputable def n191 (a0 : (List FaceSig)) (a1 : Fv) : Option (Int) := fnO M 191 (Int) (a0, a1, ())
theorem c191 : (∀ {ρ : Type} (ds : List D) (F : D → Option ρ), ((lastR M).o 191 ds).bind F = (da (α := (List FaceSig) × Fv × Unit) ds).bind (callN (fun x => n191 x.1 x.2.1) F)) ∧ ∀ aa, (envOf M aa).S 191 = some (.own ((lastR M).o 191)) := ⟨fun ds F => call_oK h191 ds F, fun _ => rfl⟩
theorem m191 : M.mode 191 = 0 := rfl
noncomputable def cd191 : Code := match Go.Proofs.Tryz.f191.body with | some c => c | none => .skip
theorem pl191 : plT 191 = [] := rfl
theorem lv191_2 : lvT 191 2 = [0, 1, 7, 8] := rfl
/-! loop.example/smithy/impl.TypeFind$3 -/
theorem h192 : Has M 192 (FaceSig × Fv × Unit) (Bool) := ⟨fun _ => rfl, fun _ => rfl⟩
noncomputable def n192 (a0 : FaceSig) (a1 : Fv) : Option (Bool) := fnO M 192 (Bool) (a0, a1, ())
theorem c192 : (∀ {ρ : Type} (ds : List D) (F : D → Option ρ), ((lastR M).o 192 ds).bind F = (da (α := FaceSig × Fv × Unit) ds).bind (callN (fun x => n192 x.1 x.2.1) F)) ∧ ∀ aa, (envOf M aa).S 192 = some (.own ((lastR M).o 192)) := ⟨fun ds F => call_oK h192 ds F, fun _ => rfl⟩
theorem m192 : M.mode 192 = 0 := rfl
noncomputable def cd192 : Code := match Go.Proofs.Tryz.f192.body with | some c => c | none => .skip
theorem pl192 : plT 192 = [] := rfl
/-! loop.example/smithy/impl.cloneSig -/
theorem h193 : Has M 193 (FaceSig × Unit) (FaceSig) := ⟨fun _ => rfl, fun _ => rfl⟩
noncomputable def n193 (a0 : FaceSig) : Option (FaceSig) := fnO M 193 (FaceSig) (a0, ())
theorem c193 : (∀ {ρ : Type} (ds : List D) (F : D → Option ρ), ((lastR M).o 193 ds).bind F = (da (α := FaceSig × Unit) ds).bind (callN (fun x => n193 x.1) F)) ∧ ∀ aa, (envOf M aa).S 193 = some (.own ((lastR M).o 193)) := ⟨fun ds F => call_oK h193 ds F, fun _ => rfl⟩
theorem m193 : M.mode 193 = 0 := rfl
noncomputable def cd193 : Code := match Go.Proofs.Tryz.f193.body with | some c => c | none => .skip
theorem pl193 : plT 193 = [] := rfl
/-! slices.choosePivotCmpFunc[loop.example/smithy/impl.FaceSig] -/
theorem h197 : Has M 197 ((List FaceSig) × Int × Int × Fv × Unit) (Int × Int) := ⟨fun _ => rfl, fun _ => rfl⟩
noncomputable def n197 (a0 : (List FaceSig)) (a1 : Int) (a2 : Int) (a3 : Fv) : Option (Int × Int) := fnO M 197 (Int × Int) (a0, a1, a2, a3, ())
theorem c197 : (∀ {ρ : Type} (ds : List D) (F : D → Option ρ), ((lastR M).o 197 ds).bind F = (da (α := (List FaceSig) × Int × Int × Fv × Unit) ds).bind (callN (fun x => n197 x.1 x.2.1 x.2.2.1 x.2.2.2.1) F)) ∧ ∀ aa, (envOf M aa).S 197 = some (.own ((lastR M).o 197)) := ⟨fun ds F => call_oK h197 ds F, fun _ => rfl⟩
theorem m197 : M.mode 197 = 0 := rfl
noncomputable def cd197 : Code := match Go.Proofs.Tryz.f197.body with | some c => c | none => .skip
theorem pl197 : plT 197 = [] := rfl
/-! slices.partialInsertionSortCmpFunc[loop.example/smithy/impl.FaceSig] -/
theorem h199 : Has M 199 ((List FaceSig) × Int × Int × Fv × Unit) (Bool) := ⟨fun _ => rfl, fun _ => rfl⟩
noncomputable def n199 (a0 : (List FaceSig)) (a1 : Int) (a2 : Int) (a3 : Fv) : Option (Bool) := fnO M 199 (Bool) (a0, a1, a2, a3, ())
theorem c199 : (∀ {ρ : Type} (ds : List D) (F : D → Option ρ), ((lastR M).o 199 ds).bind F = (da (α := (List FaceSig) × Int × Int × Fv × Unit) ds).bind (callN (fun x => n199 x.1 x.2.1 x.2.2.1 x.2.2.2.1) F)) ∧ ∀ aa, (envOf M aa).S 199 = some (.own ((lastR M).o 199)) := ⟨fun ds F => call_oK h199 ds F, fun _ => rfl⟩
theorem m199 : M.mode 199 = 0 := rfl
noncomputable def cd199 : Code := match Go.Proofs.Tryz.f199.body with | some c => c | none => .skip
theorem pl199 : plT 199 = [(11, [0, 2016, 3016, 4016]), (17, [0, 2016, 3016, 4016]), (23, [0, 2016, 3016, 4016])] := rfl
theorem lv199_3 : lvT 199 3 = [0, 1, 2, 3, 9, 10] := rfl
theorem lv199_5 : lvT 199 5 = [0, 1, 2, 3, 9, 10] := rfl
theorem lv199_14 : lvT 199 14 = [0, 1, 2, 3, 9, 10, 11] := rfl
theorem lv199_20 : lvT 199 20 = [0, 1, 2, 3, 9, 10, 12] := rfl
/-! slices.partitionEqualCmpFunc[loop.example/smithy/impl.FaceSig] -/
theorem h200 : Has M 200 ((List FaceSig) × Int × Int × Int × Fv × Unit) (Int) := ⟨fun _ => rfl, fun _ => rfl⟩
noncomputable def n200 (a0 : (List FaceSig)) (a1 : Int) (a2 : Int) (a3 : Int) (a4 : Fv) : Option (Int) := fnO M 200 (Int) (a0, a1, a2, a3, a4, ())
theorem c200 : (∀ {ρ : Type} (ds : List D) (F : D → Option ρ), ((lastR M).o 200 ds).bind F = (da (α := (List FaceSig) × Int × Int × Int × Fv × Unit) ds).bind (callN (fun x => n200 x.1 x.2.1 x.2.2.1 x.2.2.2.1 x.2.2.2.2.1) F)) ∧ ∀ aa, (envOf M aa).S 200 = some (.own ((lastR M).o 200)) := ⟨fun ds F => call_oK h200 ds F, fun _ => rfl⟩
theorem m200 : M.mode 200 = 0 := rfl
noncomputable def cd200 : Code := match Go.Proofs.Tryz.f200.body with | some c => c | none => .skip
theorem pl200 : plT 200 = [(1, [0, 2014, 3014]), (8, [0, 2014, 3014])] := rfl
theorem lv200_1 : lvT 200 1 = [0, 1, 4, 11, 12] := rfl
theorem lv200_3 : lvT 200 3 = [0, 1, 4, 11, 12] := rfl
theorem lv200_5 : lvT 200 5 = [0, 1, 4, 11, 12] := rfl
/-! slices.partitionCmpFunc[loop.example/smithy/impl.FaceSig] -/
theorem h201 : Has M 201 ((List FaceSig) × Int × Int × Int × Fv × Unit) (Int × Bool) := ⟨fun _ => rfl, fun _ => rfl⟩
noncomputable def n201 (a0 : (List FaceSig)) (a1 : Int) (a2 : Int) (a3 : Int) (a4 : Fv) : Option (Int × Bool) := fnO M 201 (Int × Bool) (a0, a1, a2, a3, a4, ())
theorem c201 : (∀ {ρ : Type} (ds : List D) (F : D → Option ρ), ((lastR M).o 201 ds).bind F = (da (α := (List FaceSig) × Int × Int × Int × Fv × Unit) ds).bind (callN (fun x => n201 x.1 x.2.1 x.2.2.1 x.2.2.2.1 x.2.2.2.2.1) F)) ∧ ∀ aa, (envOf M aa).S 201 = some (.own ((lastR M).o 201)) := ⟨fun ds F => call_oK h201 ds F, fun _ => rfl⟩
theorem m201 : M.mode 201 = 0 := rfl
noncomputable def cd201 : Code := match Go.Proofs.Tryz.f201.body with | some c => c | none => .skip
theorem pl201 : plT 201 = [(1, [0, 2014, 3014]), (8, [0, 2014, 3014]), (10, [0, 2014, 3014]), (18, [0, 2014, 3014]), (21, [0, 2014, 3014])] := rfl
theorem lv201_3 : lvT 201 3 = [0, 1, 4, 12, 13] := rfl
theorem lv201_5 : lvT 201 5 = [0, 1, 4, 12, 13] := rfl
theorem lv201_13 : lvT 201 13 = [0, 1, 4, 12, 13] := rfl
theorem lv201_15 : lvT 201 15 = [0, 1, 4, 12, 13] := rfl
/-! loop.example/smithy/impl.kindsOf -/
theorem h205 : Has M 205 ((List MeanVal) × Unit) ((List Int)) := ⟨fun _ => rfl, fun _ => rfl⟩
noncomputable def n205 (a0 : (List MeanVal)) : Option ((List Int)) := fnO M 205 ((List Int)) (a0, ())
theorem c205 : (∀ {ρ : Type} (ds : List D) (F : D → Option ρ), ((lastR M).o 205 ds).bind F = (da (α := (List MeanVal) × Unit) ds).bind (callN (fun x => n205 x.1) F)) ∧ ∀ aa, (envOf M aa).S 205 = some (.shared ((lastR M).o 205)) := ⟨fun ds F => call_oK h205 ds F, fun _ => rfl⟩
theorem m205 : M.mode 205 = 1 := rfl
noncomputable def cd205 : Code := match Go.Proofs.Tryz.f205.body with | some c => c | none => .skip
theorem pl205 : plT 205 = [] := rfl
theorem lv205_3 : lvT 205 3 = [3, 7, 8, 9] := rfl
/-! loop.example/smithy/impl.prim -/
theorem h206 : Has M 206 (ByteArray × (List MeanVal) × Unit) (MeanVal × Int) := ⟨fun _ => rfl, fun _ => rfl⟩
noncomputable def n206 (a0 : ByteArray) (a1 : (List MeanVal)) : Option (MeanVal × Int) := fnO M 206 (MeanVal × Int) (a0, a1, ())
theorem c206 : (∀ {ρ : Type} (ds : List D) (F : D → Option ρ), ((lastR M).o 206 ds).bind F = (da (α := ByteArray × (List MeanVal) × Unit) ds).bind (callN (fun x => n206 x.1 x.2.1) F)) ∧ ∀ aa, (envOf M aa).S 206 = some (.own ((lastR M).o 206)) := ⟨fun ds F => call_oK h206 ds F, fun _ => rfl⟩
theorem m206 : M.mode 206 = 0 := rfl
noncomputable def cd206 : Code := match Go.Proofs.Tryz.f206.body with | some c => c | none => .skip
theorem pl206 : plT 206 = [(14, [7, 999999]), (28, [0])] := rfl
/-! slices.IndexFunc[[]loop.example/smithy/impl.MeanMod,loop.example/smithy/impl.MeanMod] -/
theorem h207 : Has M 207 ((List MeanMod) × Fv × Unit) (Int) := ⟨fun _ => rfl, fun _ => rfl⟩
noncomputable def n207 (a0 : (List MeanMod)) (a1 : Fv) : Option (Int) := fnO M 207 (Int) (a0, a1, ())
theorem c207 : (∀ {ρ : Type} (ds : List D) (F : D → Option ρ), ((lastR M).o 207 ds).bind F = (da (α := (List MeanMod) × Fv × Unit) ds).bind (callN (fun x => n207 x.1 x.2.1) F)) ∧ ∀ aa, (envOf M aa).S 207 = some (.own ((lastR M).o 207)) := ⟨fun ds F => call_oK h207 ds F, fun _ => rfl⟩
theorem m207 : M.mode 207 = 0 := rfl
noncomputable def cd207 : Code := match Go.Proofs.Tryz.f207.body with | some c => c | none => .skip
theorem pl207 : plT 207 = [] := rfl
theorem lv207_2 : lvT 207 2 = [0, 1, 7, 8] := rfl
/-! loop.example/smithy/impl.modAt$1 -/
theorem h208 : Has M 208 (MeanMod × Fv × Unit) (Bool) := ⟨fun _ => rfl, fun _ => rfl⟩
noncomputable def n208 (a0 : MeanMod) (a1 : Fv) : Option (Bool) := fnO M 208 (Bool) (a0, a1, ())
theorem c208 : (∀ {ρ : Type} (ds : List D) (F : D → Option ρ), ((lastR M).o 208 ds).bind F = (da (α := MeanMod × Fv × Unit) ds).bind (callN (fun x => n208 x.1 x.2.1) F)) ∧ ∀ aa, (envOf M aa).S 208 = some (.own ((lastR M).o 208)) := ⟨fun ds F => call_oK h208 ds F, fun _ => rfl⟩
theorem m208 : M.mode 208 = 0 := rfl
noncomputable def cd208 : Code := match Go.Proofs.Tryz.f208.body with | some c => c | none => .skip
theorem pl208 : plT 208 = [] := rfl
/-! loop.example/smithy/impl.funAt$1 -/
theorem h209 : Has M 209 (TreeFun × Fv × Unit) (Bool) := ⟨fun _ => rfl, fun _ => rfl⟩
noncomputable def n209 (a0 : TreeFun) (a1 : Fv) : Option (Bool) := fnO M 209 (Bool) (a0, a1, ())
theorem c209 : (∀ {ρ : Type} (ds : List D) (F : D → Option ρ), ((lastR M).o 209 ds).bind F = (da (α := TreeFun × Fv × Unit) ds).bind (callN (fun x => n209 x.1 x.2.1) F)) ∧ ∀ aa, (envOf M aa).S 209 = some (.own ((lastR M).o 209)) := ⟨fun ds F => call_oK h209 ds F, fun _ => rfl⟩
theorem m209 : M.mode 209 = 0 := rfl
noncomputable def cd209 : Code := match Go.Proofs.Tryz.f209.body with | some c => c | none => .skip
theorem pl209 : plT 209 = [] := rfl
/-! loop.example/smithy/spec.l6Row -/
theorem h210 : Has M 210 ((List Int) × Unit) (MeanVal) := ⟨fun _ => rfl, fun _ => rfl⟩
noncomputable def n210 (a0 : (List Int)) : Option (MeanVal) := fnO M 210 (MeanVal) (a0, ())
theorem c210 : (∀ {ρ : Type} (ds : List D) (F : D → Option ρ), ((lastR M).o 210 ds).bind F = (da (α := (List Int) × Unit) ds).bind (callN (fun x => n210 x.1) F)) ∧ ∀ aa, (envOf M aa).S 210 = some (.own ((lastR M).o 210)) := ⟨fun ds F => call_oK h210 ds F, fun _ => rfl⟩
theorem m210 : M.mode 210 = 0 := rfl
noncomputable def cd210 : Code := match Go.Proofs.Tryz.f210.body with | some c => c | none => .skip
theorem pl210 : plT 210 = [] := rfl
/-! loop.example/smithy/impl.isShort -/
theorem h211 : Has M 211 (Int × Unit) (Bool) := ⟨fun _ => rfl, fun _ => rfl⟩
noncomputable def n211 (a0 : Int) : Option (Bool) := fnO M 211 (Bool) (a0, ())
theorem c211 : (∀ {ρ : Type} (ds : List D) (F : D → Option ρ), ((lastR M).o 211 ds).bind F = (da (α := Int × Unit) ds).bind (callN (fun x => n211 x.1) F)) ∧ ∀ aa, (envOf M aa).S 211 = some (.own ((lastR M).o 211)) := ⟨fun ds F => call_oK h211 ds F, fun _ => rfl⟩
theorem m211 : M.mode 211 = 0 := rfl
noncomputable def cd211 : Code := match Go.Proofs.Tryz.f211.body with | some c => c | none => .skip
theorem pl211 : plT 211 = [] := rfl
/-! loop.example/smithy/impl.TreeArity -/
theorem h212 : Has M 212 (ByteArray × Unit) (Int) := ⟨fun _ => rfl, fun _ => rfl⟩
noncomputable def n212 (a0 : ByteArray) : Option (Int) := fnO M 212 (Int) (a0, ())
theorem c212 : (∀ {ρ : Type} (ds : List D) (F : D → Option ρ), ((lastR M).o 212 ds).bind F = (da (α := ByteArray × Unit) ds).bind (callN (fun x => n212 x.1) F)) ∧ ∀ aa, (envOf M aa).S 212 = some (.own ((lastR M).o 212)) := ⟨fun ds F => call_oK h212 ds F, fun _ => rfl⟩
theorem m212 : M.mode 212 = 0 := rfl
noncomputable def cd212 : Code := match Go.Proofs.Tryz.f212.body with | some c => c | none => .skip
theorem pl212 : plT 212 = [] := rfl
/-! slices.IndexFunc[[]loop.example/smithy/impl.TreeExpr,loop.example/smithy/impl.TreeExpr] -/
theorem h213 : Has M 213 ((List TreeExpr) × Fv × Unit) (Int) := ⟨fun _ => rfl, fun _ => rfl⟩
noncomputable def n213 (a0 : (List TreeExpr)) (a1 : Fv) : Option (Int) := fnO M 213 (Int) (a0, a1, ())
theorem c213 : (∀ {ρ : Type} (ds : List D) (F : D → Option ρ), ((lastR M).o 213 ds).bind F = (da (α := (List TreeExpr) × Fv × Unit) ds).bind (callN (fun x => n213 x.1 x.2.1) F)) ∧ ∀ aa, (envOf M aa).S 213 = some (.own ((lastR M).o 213)) := ⟨fun ds F => call_oK h213 ds F, fun _ => rfl⟩
theorem m213 : M.mode 213 = 0 := rfl
noncomputable def cd213 : Code := match Go.Proofs.Tryz.f213.body with | some c => c | none => .skip
theorem pl213 : plT 213 = [] := rfl
theorem lv213_2 : lvT 213 2 = [0, 1, 7, 8] := rfl
/-! slices.Concat[[]int,int] -/
theorem h222 : Has M 222 ((List (List Int)) × Unit) ((List Int)) := ⟨fun _ => rfl, fun _ => rfl⟩
noncomputable def n222 (a0 : (List (List Int))) : Option ((List Int)) := fnO M 222 ((List Int)) (a0, ())
theorem c222 : (∀ {ρ : Type} (ds : List D) (F : D → Option ρ), ((lastR M).o 222 ds).bind F = (da (α := (List (List Int)) × Unit) ds).bind (callN (fun x => n222 x.1) F)) ∧ ∀ aa, (envOf M aa).S 222 = some (.own ((lastR M).o 222)) := ⟨fun ds F => call_oK h222 ds F, fun _ => rfl⟩
theorem m222 : M.mode 222 = 0 := rfl
noncomputable def cd222 : Code := match Go.Proofs.Tryz.f222.body with | some c => c | none => .skip
theorem pl222 : plT 222 = [] := rfl
theorem lv222_3 : lvT 222 3 = [0, 3, 9, 10, 11] := rfl
theorem lv222_11 : lvT 222 11 = [6, 25, 26, 27] := rfl
/-! loop.example/smithy/impl.isPlace -/
theorem h223 : Has M 223 (Int × Int × Unit) (Bool) := ⟨fun _ => rfl, fun _ => rfl⟩
noncomputable def n223 (a0 : Int) (a1 : Int) : Option (Bool) := fnO M 223 (Bool) (a0, a1, ())
theorem c223 : (∀ {ρ : Type} (ds : List D) (F : D → Option ρ), ((lastR M).o 223 ds).bind F = (da (α := Int × Int × Unit) ds).bind (callN (fun x => n223 x.1 x.2.1) F)) ∧ ∀ aa, (envOf M aa).S 223 = some (.own ((lastR M).o 223)) := ⟨fun ds F => call_oK h223 ds F, fun _ => rfl⟩
theorem m223 : M.mode 223 = 0 := rfl
noncomputable def cd223 : Code := match Go.Proofs.Tryz.f223.body with | some c => c | none => .skip
theorem pl223 : plT 223 = [] := rfl
/-! loop.example/smithy/impl.arith -/
theorem h224 : Has M 224 (ByteArray × Int × Int × Unit) (MeanVal × Int) := ⟨fun _ => rfl, fun _ => rfl⟩
noncomputable def n224 (a0 : ByteArray) (a1 : Int) (a2 : Int) : Option (MeanVal × Int) := fnO M 224 (MeanVal × Int) (a0, a1, a2, ())
theorem c224 : (∀ {ρ : Type} (ds : List D) (F : D → Option ρ), ((lastR M).o 224 ds).bind F = (da (α := ByteArray × Int × Int × Unit) ds).bind (callN (fun x => n224 x.1 x.2.1 x.2.2.1) F)) ∧ ∀ aa, (envOf M aa).S 224 = some (.own ((lastR M).o 224)) := ⟨fun ds F => call_oK h224 ds F, fun _ => rfl⟩
theorem m224 : M.mode 224 = 0 := rfl
noncomputable def cd224 : Code := match Go.Proofs.Tryz.f224.body with | some c => c | none => .skip
theorem pl224 : plT 224 = [] := rfl
/-! slices.Grow[[]int,int] -/
theorem h226 : Has M 226 ((List Int) × Int × Unit) ((List Int)) := ⟨fun _ => rfl, fun _ => rfl⟩
noncomputable def n226 (a0 : (List Int)) (a1 : Int) : Option ((List Int)) := fnO M 226 ((List Int)) (a0, a1, ())
theorem c226 : (∀ {ρ : Type} (ds : List D) (F : D → Option ρ), ((lastR M).o 226 ds).bind F = (da (α := (List Int) × Int × Unit) ds).bind (callN (fun x => n226 x.1 x.2.1) F)) ∧ ∀ aa, (envOf M aa).S 226 = some (.own ((lastR M).o 226)) := ⟨fun ds F => call_oK h226 ds F, fun _ => rfl⟩
theorem m226 : M.mode 226 = 0 := rfl
noncomputable def cd226 : Code := match Go.Proofs.Tryz.f226.body with | some c => c | none => .skip
theorem pl226 : plT 226 = [] := rfl
end Go.Fs.Se
