/- Proved: for every input the law FnExactShakeImage answers true and its argument reads behind the call as it read before (Rows.FnExactShakeImageSaid), without conditions of its own. -/
import Derived.Test.YtbgbnmghhmfihaaRows
import Derived.Test.YtbgbnmghhmfihaaLawIp21
set_option linter.unusedVariables false
namespace Go.Proofs.Ytbgbnmghhmfihaa.LawI
open Go.ChangeShapes Go.WideShapes Go.ChangeAt Go.RowKit Go.Fs Go.Fs.Sr

theorem own : ownKnob Try.prog.godebug = none := by kernel_rfl
theorem laidOut : laidOutB Try.prog = true := by kernel_rfl

theorem shape3 : HS Try.prog 3 [.i] := .i _ Try.underlying3
theorem shape9 : HS Try.prog 9 [.s] := .s _ Try.underlying9
theorem cells3 : Try.prog.cellsOf 3 = ([.i] : List Sh).length := by kernel_rfl
theorem cells9 : Try.prog.cellsOf 9 = ([.s] : List Sh).length := by kernel_rfl
theorem cells31 : Try.prog.cellsOf 31 = ([.l [.i]] : List Sh).length := by kernel_rfl
theorem cells109 : Try.prog.cellsOf 109 = ([.l ins2] : List Sh).length := by kernel_rfl
theorem cells30 : Try.prog.cellsOf 30 = ([.l lfun] : List Sh).length := by kernel_rfl
theorem shape31 : HS Try.prog 31 [.l [.i]] := .l _ 3 _ Try.underlying31 (by kernel_rfl) (of_decide_eq_true (by kernel_rfl)) (by decide) shape3
theorem shape174 : HS Try.prog 174 ins2 := .st _ _ _ Try.underlying174 (by kernel_rfl)
  (.cons _ _ _ _ [.i] _ rfl cells3 shape3 (.cons _ _ _ _ [.i] _ rfl cells3 shape3 (.nil _ _)))
theorem shape109 : HS Try.prog 109 [.l ins2] := .l _ 174 _ Try.underlying109 (by kernel_rfl) (of_decide_eq_true (by kernel_rfl)) (by decide) shape174
theorem shape111 : HS Try.prog 111 lfun := .st _ _ _ Try.underlying111 (by kernel_rfl)
  (.cons _ _ _ _ [.s] _ rfl cells9 shape9 (.cons _ _ _ _ [.s] _ rfl cells9 shape9 (.cons _ _ _ _ [.l [.i]] _ rfl cells31 shape31 (.cons _ _ _ _ [.i] _ rfl cells3 shape3 (.cons _ _ _ _ [.i] _ rfl cells3 shape3 (.cons _ _ _ _ [.l ins2] _ rfl cells109 shape109 (.nil _ _)))))))
theorem shape30 : HS Try.prog 30 [.l lfun] := .l _ 111 _ Try.underlying30 (by kernel_rfl) (of_decide_eq_true (by kernel_rfl)) (by decide) shape111
theorem shape33 : HS Try.prog 33 limg := .st _ _ _ Try.underlying33 (by kernel_rfl)
  (.cons _ _ _ _ [.l lfun] _ rfl cells30 shape30 (.cons _ _ _ _ [.l [.i]] _ rfl cells31 shape31 (.nil _ _)))

set_option maxRecDepth 100000 in
theorem lifted (os : Os) (started : os.Started) (H : Type) (enc : TypeId × Value → H) :
    ReturnsInHanded {} Try.checked os 5 .any (Rows.fnExactShakeImageSpec.pre6 enc Try.prog Try.f5 Rows.fnExactShakeImageRow.domain false) (Rows.fnExactShakeImageSpec.post enc Try.prog Try.f5 false true false false) := by
  refine returnsInHanded_of_change_sized (C := Try.checked) own started (by kernel_rfl) Try.func5
    (ChangeSpec.witness6 (enc := enc) (C := Try.checked) false ⟨#[], #[.agg #[.slice none 0 0, .slice none 0 0]], []⟩ 8 (by kernel_rfl) (by kernel_rfl) (by kernel_rfl) (by kernel_rfl)) ?_
  intro W base args ds gs before hval0 hW hcnd hsz0 _
  have hsz : (DataW.weightsEach Try.prog (Try.f5.params.toList ++ Rows.fnExactShakeImageSpec.plain.varTypes Try.prog) (ds ++ gs)).all (· ≤ reachBytes) = true := hsz0
  have hval : ∀ (j : Nat) t v, Try.f5.params[j]? = some t → args[j]? = some v → Value.okWide Try.prog W .any base t v := hval0
  have hW' := hW
  obtain ⟨p, q, hA0, hV, rfl, hfz, hnd⟩ := hW
  have hA : DataW.TrodAll enc Try.prog W 0 (fun _ => true) true Try.f5.params.toList args.toList ds p := hA0
  rw [Try.params5] at hA hval hsz
  obtain ⟨v0, vs0, d0, ds0, p0, q0, hargs, rfl, rfl, h0, r0⟩ := trodAll_cons hA
  obtain ⟨rfl, rfl, rfl⟩ := trodAll_nil r0
  obtain rfl : args = #[v0] := by cases args; simp_all
  obtain ⟨rfl, rfl⟩ := trodVars_none hV
  have k0 := h0
  have lt0 : ∀ x ∈ p0, x.block < W.heap.size := by obtain ⟨m, hm⟩ := k0; exact DataW.trod_lt m _ _ _ hm
  have hw0 : (d0.weights Try.prog 33).all (· ≤ reachBytes) = true := by
    refine List.all_eq_true.2 fun n hn => List.all_eq_true.1 hsz n (DataW.weights_mem_each (j := 0) rfl rfl n hn)
  obtain ⟨xs, S, t1, t2, t3, t4⟩ := arg_struct shape33 (okWide_struct Try.underlying33 (hval 0 33 v0 rfl rfl)) h0 hw0
  refine (calls_of_fnOK (TopI_ok xs t3 t4) Try.call5 (.d v0 _ S [] [] [] [] t1 t2 .nil)).mono fun e W' ⟨v, he, hp⟩ => ?_
  subst he
  have bel := hp.below
  obtain rfl := hp.bool
  exact ⟨_, rfl, _, _, _, [], _, [], hW', trodAll_mk1 (shut_bool Try.underlying4 _), (trodAll_cons_mk (Below.trod laidOut (by kernel_rfl) (of_decide_eq_true (by kernel_rfl)) k0 bel lt0) trodAll_mk0), rfl, bel.frame _, fun h => by cases h⟩

theorem over : Rows.fnExactShakeImageRow.holds Try.pinned (OpenSpec.ofChange Rows.fnExactShakeImageSpec) :=
  OpenClaim.holds_of_wide 5 Try.f5 rfl rfl rfl rfl rfl rfl rfl ⟨rfl, rfl, rfl, rfl, rfl⟩ rfl rfl rfl rfl rfl (by kernel_rfl) Try.func5 (by kernel_rfl)
    (of_decide_eq_true (by kernel_rfl)) (by unfold Func.isWrapper; first | (rw [if_pos (by decide +kernel)]; kernel_rfl) | (rw [if_neg (by decide +kernel)]; exact ⟨rfl, rfl⟩))
    (fun os started H enc _ => lifted os started H enc)
end Go.Proofs.Ytbgbnmghhmfihaa.LawI
namespace Go.Proofs.Ytbgbnmghhmfihaa
/-- The row, under a short name, for the claim. -/
theorem fnExactShakeImage_holds : Rows.FnExactShakeImageSaid := LawI.over
#print axioms fnExactShakeImage_holds
end Go.Proofs.Ytbgbnmghhmfihaa
