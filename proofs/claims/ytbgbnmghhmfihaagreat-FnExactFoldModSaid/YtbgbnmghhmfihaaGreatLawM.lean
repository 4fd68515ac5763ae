/- Proved: for every input the law FnExactFoldMod answers true and its argument reads behind the call as it read before (Rows.FnExactFoldModSaid), without conditions of its own. -/
import Derived.Test.YtbgbnmghhmfihaaGreatRows
import Derived.Test.YtbgbnmghhmfihaaGreatLawMp25
set_option linter.unusedVariables false
set_option linter.unusedSimpArgs false
set_option linter.constructorNameAsVariable false
set_option linter.unusedSectionVars false
set_option linter.defProp false
set_option linter.unusedVariables false
namespace Go.Proofs.YtbgbnmghhmfihaaGreat.LawM
open Go.ChangeShapes Go.WideShapes Go.ChangeAt Go.RowKit Go.Fs Go.Fs.Se

theorem own : ownKnob Tryz.prog.godebug = none := by kernel_rfl
theorem laidOut : laidOutB Tryz.prog = true := by kernel_rfl

theorem shape3 : HS Tryz.prog 3 [.i] := .i _ Tryz.underlying3
theorem shape9 : HS Tryz.prog 9 [.s] := .s _ Tryz.underlying9
theorem cells3 : Tryz.prog.cellsOf 3 = ([.i] : List Sh).length := by kernel_rfl
theorem cells9 : Tryz.prog.cellsOf 9 = ([.s] : List Sh).length := by kernel_rfl
theorem cells24 : Tryz.prog.cellsOf 24 = ([.t] : List Sh).length := by kernel_rfl
set_option maxRecDepth 100000 in
theorem shape24 : HS Tryz.prog 24 [.t] := .t _ 114 _ Tryz.underlying24 (by kernel_rfl) (of_decide_eq_true (by kernel_rfl)) Tryz.underlying114
  (.cons _ _ _ _ [.i] _ rfl cells3 shape3 (.cons _ _ _ _ [.i] _ rfl cells3 shape3 (.cons _ _ _ _ [.s] _ rfl cells9 shape9 (.cons _ _ _ _ [.s] _ rfl cells9 shape9 (HSF.self (P := Tryz.prog) { name := "Kids", type := 24, offset := 4, embedded := false, tag := "", pkgPath := "", byteOffset := 48 } [] _ [] rfl cells24 (.nil _ _))))))
set_option maxRecDepth 100000 in
theorem shape114 : HS Tryz.prog 114 treeS := .st _ _ _ Tryz.underlying114 (by kernel_rfl)
  (.cons _ _ _ _ [.i] _ rfl cells3 shape3 (.cons _ _ _ _ [.i] _ rfl cells3 shape3 (.cons _ _ _ _ [.s] _ rfl cells9 shape9 (.cons _ _ _ _ [.s] _ rfl cells9 shape9 (.cons _ _ _ _ [.t] _ rfl cells24 shape24 (.nil _ _))))))

theorem cells4 : Tryz.prog.cellsOf 4 = ([.b] : List Sh).length := by kernel_rfl
theorem shape4 : HS Tryz.prog 4 [.b] := .b _ Tryz.underlying4
theorem cells114 : Tryz.prog.cellsOf 114 = treeS.length := by kernel_rfl
set_option maxRecDepth 100000 in
theorem shape22 : HS Tryz.prog 22 [.l [.s]] := .l _ 9 _ Tryz.underlying22 (by kernel_rfl) (of_decide_eq_true (by kernel_rfl)) (by decide) shape9
theorem cells22 : Tryz.prog.cellsOf 22 = ([.l [.s]] : List Sh).length := by kernel_rfl
set_option maxRecDepth 100000 in
theorem shape219 : HS Tryz.prog 219 argS := .st _ _ _ Tryz.underlying219 (by kernel_rfl)
  (.cons _ _ _ _ [.s] _ rfl cells9 shape9 (.cons _ _ _ _ [.i] _ rfl cells3 shape3 (.nil _ _)))
theorem cells112 : Tryz.prog.cellsOf 112 = ([.l argS] : List Sh).length := by kernel_rfl
set_option maxRecDepth 100000 in
theorem shape112 : HS Tryz.prog 112 [.l argS] := .l _ 219 _ Tryz.underlying112 (by kernel_rfl) (of_decide_eq_true (by kernel_rfl)) (by decide) shape219
set_option maxRecDepth 100000 in
theorem shape116 : HS Tryz.prog 116 funS := .st _ _ _ Tryz.underlying116 (by kernel_rfl)
  (.cons _ _ _ _ [.s] _ rfl cells9 shape9 (.cons _ _ _ _ [.b] _ rfl cells4 shape4 (.cons _ _ _ _ [.l argS] _ rfl cells112 shape112 (.cons _ _ _ _ [.i] _ rfl cells3 shape3 (.cons _ _ _ _ treeS _ rfl cells114 shape114 (.nil _ _))))))
theorem cells23 : Tryz.prog.cellsOf 23 = ([.l funS] : List Sh).length := by kernel_rfl
set_option maxRecDepth 100000 in
theorem shape23 : HS Tryz.prog 23 [.l funS] := .l _ 116 _ Tryz.underlying23 (by kernel_rfl) (of_decide_eq_true (by kernel_rfl)) (by decide) shape116
set_option maxRecDepth 100000 in
theorem shape26 : HS Tryz.prog 26 modS := .st _ _ _ Tryz.underlying26 (by kernel_rfl)
  (.cons _ _ _ _ [.l [.s]] _ rfl cells22 shape22 (.cons _ _ _ _ [.l funS] _ rfl cells23 shape23 (.cons _ _ _ _ [.t] _ rfl cells24 shape24 (.nil _ _))))

set_option maxRecDepth 100000 in
theorem lifted (os : Os) (started : os.Started) (H : Type) (enc : TypeId × Value → H) :
    ReturnsInHanded {} Tryz.checked os 3 .any (Rows.fnExactFoldModSpec.pre6 enc Tryz.prog Tryz.f3 Rows.fnExactFoldModRow.domain false) (Rows.fnExactFoldModSpec.post enc Tryz.prog Tryz.f3 false true false false) := by
  refine returnsInHanded_of_change_sized (C := Tryz.checked) own started (by kernel_rfl) Tryz.func3
    (ChangeSpec.witness6 (enc := enc) (C := Tryz.checked) false ⟨#[], #[.agg #[.slice none 0 0, .slice none 0 0, .slice none 0 0]], []⟩ 8 (by kernel_rfl) (by kernel_rfl) (by kernel_rfl) (by kernel_rfl)) ?_
  intro W base args ds gs before hval0 hW hcnd hsz0 _
  have hsz : (DataW.weightsEach Tryz.prog (Tryz.f3.params.toList ++ Rows.fnExactFoldModSpec.plain.varTypes Tryz.prog) (ds ++ gs)).all (· ≤ reachBytes) = true := hsz0
  have hval : ∀ (j : Nat) t v, Tryz.f3.params[j]? = some t → args[j]? = some v → Value.okWide Tryz.prog W .any base t v := hval0
  have hW' := hW
  obtain ⟨p, q, hA0, hV, rfl, hfz, hnd⟩ := hW
  have hA : DataW.TrodAll enc Tryz.prog W 0 (fun _ => true) true Tryz.f3.params.toList args.toList ds p := hA0
  rw [Tryz.params3] at hA hval hsz
  obtain ⟨v0, vs0, d0, ds0, p0, q0, hargs, rfl, rfl, h0, r0⟩ := trodAll_cons hA
  obtain ⟨rfl, rfl, rfl⟩ := trodAll_nil r0
  obtain rfl : args = #[v0] := by cases args; simp_all
  obtain ⟨rfl, rfl⟩ := trodVars_none hV
  have k0 := h0
  have lt0 : ∀ x ∈ p0, x.block < W.heap.size := by obtain ⟨m, hm⟩ := k0; exact DataW.trod_lt m _ _ _ hm
  have hw0 : (d0.weights Tryz.prog 26).all (· ≤ reachBytes) = true := by
    refine List.all_eq_true.2 fun n hn => List.all_eq_true.1 hsz n (DataW.weights_mem_each (j := 0) rfl rfl n hn)
  obtain ⟨xs, S, t1, t2, t3, t4⟩ := arg_struct shape26 (okWide_struct Tryz.underlying26 (hval 0 26 v0 rfl rfl)) h0 hw0
  refine (calls_of_fnOK (mod_row t3 t4) Tryz.call3 (.d v0 _ S [] [] [] [] t1 t2 .nil)).mono fun e W' ⟨v, he, hp⟩ => ?_
  subst he
  have bel := hp.below
  obtain rfl := hp.bool
  exact ⟨_, rfl, _, _, _, [], _, [], hW', trodAll_mk1 (shut_bool Tryz.underlying4 _), (trodAll_cons_mk (Below.trod laidOut (by kernel_rfl) (of_decide_eq_true (by kernel_rfl)) k0 bel lt0) trodAll_mk0), rfl, bel.frame _, fun h => by cases h⟩

theorem over : Rows.fnExactFoldModRow.holds Tryz.pinned (OpenSpec.ofChange Rows.fnExactFoldModSpec) :=
  OpenClaim.holds_of_wide 3 Tryz.f3 rfl rfl rfl rfl rfl rfl rfl ⟨rfl, rfl, rfl, rfl, rfl⟩ rfl rfl rfl rfl rfl (by kernel_rfl) Tryz.func3 (by kernel_rfl)
    (of_decide_eq_true (by kernel_rfl)) (by unfold Func.isWrapper; first | (rw [if_pos (by decide +kernel)]; kernel_rfl) | (rw [if_neg (by decide +kernel)]; exact ⟨rfl, rfl⟩))
    (fun os started H enc _ => lifted os started H enc)
end Go.Proofs.YtbgbnmghhmfihaaGreat.LawM
namespace Go.Proofs.YtbgbnmghhmfihaaGreat
/-- The row, under a short name, for the claim. -/
theorem fnExactFoldMod_holds : Rows.FnExactFoldModSaid := LawM.over
#print axioms fnExactFoldMod_holds
end Go.Proofs.YtbgbnmghhmfihaaGreat
