/- Proved: for every input the law FnExactFoldGain answers true and its argument reads behind the call as it read before (Rows.FnExactFoldGainSaid), without conditions of its own. -/
import Derived.Test.YtbgbnmghhmfihaaRows
import Derived.Test.YtbgbnmghhmfihaaLawGp23
set_option linter.unusedVariables false
set_option linter.unusedSimpArgs false
set_option linter.constructorNameAsVariable false
set_option linter.unusedSectionVars false
set_option linter.defProp false
set_option linter.unusedVariables false
namespace Go.Proofs.Ytbgbnmghhmfihaa.LawG
open Go.ChangeShapes Go.WideShapes Go.ChangeAt Go.RowKit Go.Fs Go.Fs.Se

theorem own : ownKnob Try.prog.godebug = none := by kernel_rfl
theorem laidOut : laidOutB Try.prog = true := by kernel_rfl

theorem shape3 : HS Try.prog 3 [.i] := .i _ Try.underlying3
theorem shape9 : HS Try.prog 9 [.s] := .s _ Try.underlying9
theorem cells3 : Try.prog.cellsOf 3 = ([.i] : List Sh).length := by kernel_rfl
theorem cells9 : Try.prog.cellsOf 9 = ([.s] : List Sh).length := by kernel_rfl
theorem cells46 : Try.prog.cellsOf 46 = ([.t] : List Sh).length := by kernel_rfl
set_option maxRecDepth 100000 in
theorem shape46 : HS Try.prog 46 [.t] := .t _ 48 _ Try.underlying46 (by kernel_rfl) (of_decide_eq_true (by kernel_rfl)) Try.underlying48
  (.cons _ _ _ _ [.i] _ rfl cells3 shape3 (.cons _ _ _ _ [.i] _ rfl cells3 shape3 (.cons _ _ _ _ [.s] _ rfl cells9 shape9 (.cons _ _ _ _ [.s] _ rfl cells9 shape9 (HSF.self (P := Try.prog) { name := "Kids", type := 46, offset := 4, embedded := false, tag := "", pkgPath := "", byteOffset := 48 } [] _ [] rfl cells46 (.nil _ _))))))
set_option maxRecDepth 100000 in
theorem shape48 : HS Try.prog 48 treeS := .st _ _ _ Try.underlying48 (by kernel_rfl)
  (.cons _ _ _ _ [.i] _ rfl cells3 shape3 (.cons _ _ _ _ [.i] _ rfl cells3 shape3 (.cons _ _ _ _ [.s] _ rfl cells9 shape9 (.cons _ _ _ _ [.s] _ rfl cells9 shape9 (.cons _ _ _ _ [.t] _ rfl cells46 shape46 (.nil _ _))))))

theorem cells4 : Try.prog.cellsOf 4 = ([.b] : List Sh).length := by kernel_rfl
theorem shape4 : HS Try.prog 4 [.b] := .b _ Try.underlying4
theorem cells48 : Try.prog.cellsOf 48 = treeS.length := by kernel_rfl
set_option maxRecDepth 100000 in
theorem shape58 : HS Try.prog 58 [.l [.s]] := .l _ 9 _ Try.underlying58 (by kernel_rfl) (of_decide_eq_true (by kernel_rfl)) (by decide) shape9
theorem cells58 : Try.prog.cellsOf 58 = ([.l [.s]] : List Sh).length := by kernel_rfl
set_option maxRecDepth 100000 in
theorem shape183 : HS Try.prog 183 argS := .st _ _ _ Try.underlying183 (by kernel_rfl)
  (.cons _ _ _ _ [.s] _ rfl cells9 shape9 (.cons _ _ _ _ [.i] _ rfl cells3 shape3 (.nil _ _)))
theorem cells135 : Try.prog.cellsOf 135 = ([.l argS] : List Sh).length := by kernel_rfl
set_option maxRecDepth 100000 in
theorem shape135 : HS Try.prog 135 [.l argS] := .l _ 183 _ Try.underlying135 (by kernel_rfl) (of_decide_eq_true (by kernel_rfl)) (by decide) shape183
set_option maxRecDepth 100000 in
theorem shape137 : HS Try.prog 137 funS := .st _ _ _ Try.underlying137 (by kernel_rfl)
  (.cons _ _ _ _ [.s] _ rfl cells9 shape9 (.cons _ _ _ _ [.b] _ rfl cells4 shape4 (.cons _ _ _ _ [.l argS] _ rfl cells135 shape135 (.cons _ _ _ _ [.i] _ rfl cells3 shape3 (.cons _ _ _ _ treeS _ rfl cells48 shape48 (.nil _ _))))))
theorem cells59 : Try.prog.cellsOf 59 = ([.l funS] : List Sh).length := by kernel_rfl
set_option maxRecDepth 100000 in
theorem shape59 : HS Try.prog 59 [.l funS] := .l _ 137 _ Try.underlying59 (by kernel_rfl) (of_decide_eq_true (by kernel_rfl)) (by decide) shape137
set_option maxRecDepth 100000 in
theorem shape61 : HS Try.prog 61 modS := .st _ _ _ Try.underlying61 (by kernel_rfl)
  (.cons _ _ _ _ [.l [.s]] _ rfl cells58 shape58 (.cons _ _ _ _ [.l funS] _ rfl cells59 shape59 (.cons _ _ _ _ [.t] _ rfl cells46 shape46 (.nil _ _))))

set_option maxRecDepth 100000 in
theorem lifted (os : Os) (started : os.Started) (H : Type) (enc : TypeId × Value → H) :
    ReturnsInHanded {} Try.checked os 7 .any (Rows.fnExactFoldGainSpec.pre6 enc Try.prog Try.f7 Rows.fnExactFoldGainRow.domain false) (Rows.fnExactFoldGainSpec.post enc Try.prog Try.f7 false true false false) := by
  refine returnsInHanded_of_change_sized (C := Try.checked) own started (by kernel_rfl) Try.func7
    (ChangeSpec.witness6 (enc := enc) (C := Try.checked) false ⟨#[], #[.agg #[.slice none 0 0, .slice none 0 0, .slice none 0 0]], []⟩ 8 (by kernel_rfl) (by kernel_rfl) (by kernel_rfl) (by kernel_rfl)) ?_
  intro W base args ds gs before hval0 hW hcnd hsz0 _
  have hsz : (DataW.weightsEach Try.prog (Try.f7.params.toList ++ Rows.fnExactFoldGainSpec.plain.varTypes Try.prog) (ds ++ gs)).all (· ≤ reachBytes) = true := hsz0
  have hval : ∀ (j : Nat) t v, Try.f7.params[j]? = some t → args[j]? = some v → Value.okWide Try.prog W .any base t v := hval0
  have hW' := hW
  obtain ⟨p, q, hA0, hV, rfl, hfz, hnd⟩ := hW
  have hA : DataW.TrodAll enc Try.prog W 0 (fun _ => true) true Try.f7.params.toList args.toList ds p := hA0
  rw [Try.params7] at hA hval hsz
  obtain ⟨v0, vs0, d0, ds0, p0, q0, hargs, rfl, rfl, h0, r0⟩ := trodAll_cons hA
  obtain ⟨rfl, rfl, rfl⟩ := trodAll_nil r0
  obtain rfl : args = #[v0] := by cases args; simp_all
  obtain ⟨rfl, rfl⟩ := trodVars_none hV
  have k0 := h0
  have lt0 : ∀ x ∈ p0, x.block < W.heap.size := by obtain ⟨m, hm⟩ := k0; exact DataW.trod_lt m _ _ _ hm
  have hw0 : (d0.weights Try.prog 61).all (· ≤ reachBytes) = true := by
    refine List.all_eq_true.2 fun n hn => List.all_eq_true.1 hsz n (DataW.weights_mem_each (j := 0) rfl rfl n hn)
  obtain ⟨xs, S, t1, t2, t3, t4⟩ := arg_struct shape61 (okWide_struct Try.underlying61 (hval 0 61 v0 rfl rfl)) h0 hw0
  refine (calls_of_fnOK (gain_row t3 t4) Try.call7 (.d v0 _ S [] [] [] [] t1 t2 .nil)).mono fun e W' ⟨v, he, hp⟩ => ?_
  subst he
  have bel := hp.below
  obtain rfl := hp.bool
  exact ⟨_, rfl, _, _, _, [], _, [], hW', trodAll_mk1 (shut_bool Try.underlying4 _), (trodAll_cons_mk (Below.trod laidOut (by kernel_rfl) (of_decide_eq_true (by kernel_rfl)) k0 bel lt0) trodAll_mk0), rfl, bel.frame _, fun h => by cases h⟩

theorem over : Rows.fnExactFoldGainRow.holds Try.pinned (OpenSpec.ofChange Rows.fnExactFoldGainSpec) :=
  OpenClaim.holds_of_wide 7 Try.f7 rfl rfl rfl rfl rfl rfl rfl ⟨rfl, rfl, rfl, rfl, rfl⟩ rfl rfl rfl rfl rfl (by kernel_rfl) Try.func7 (by kernel_rfl)
    (of_decide_eq_true (by kernel_rfl)) (by unfold Func.isWrapper; first | (rw [if_pos (by decide +kernel)]; kernel_rfl) | (rw [if_neg (by decide +kernel)]; exact ⟨rfl, rfl⟩))
    (fun os started H enc _ => lifted os started H enc)
end Go.Proofs.Ytbgbnmghhmfihaa.LawG
namespace Go.Proofs.Ytbgbnmghhmfihaa
/-- The row, under a short name, for the claim. -/
theorem fnExactFoldGain_holds : Rows.FnExactFoldGainSaid := LawG.over
#print axioms fnExactFoldGain_holds
end Go.Proofs.Ytbgbnmghhmfihaa
