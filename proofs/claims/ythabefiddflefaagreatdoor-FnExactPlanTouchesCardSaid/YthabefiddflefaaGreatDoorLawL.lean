/- Proved: for every input the law FnExactPlanTouches answers true, and what it reads reads behind the call as before, tied to the program's text. No conditions of its own. -/
import Derived.Test.YthabefiddflefaaGreatDoorP14
set_option linter.unusedVariables false
set_option linter.unusedSimpArgs false
set_option linter.constructorNameAsVariable false
set_option linter.unusedSectionVars false
set_option linter.defProp false
namespace Go
variable {H : Type} {enc : TypeId × Value → H}
theorem handed_and_shaped {a : Assume} {C : Checked} {os : Os} {f : FuncId} {fn : Func} {s : ChangeSpec} {conds : List PathCond} {apart fresh handsOn again : Bool} {X : World → Array Value → Prop}
 (hX : ∀ (w w' : World) (args : Array Value), w.heap = w'.heap → X w args → X w' args)
 (own : ownKnob C.prog.godebug = none) (started : os.Started) (noInit : C.prog.inits.idxOf? f = none) (hfn : C.prog.funcs[f]? = some fn)
 (witness : ∃ (w : World) (tape : Tape) (i : Input), w.os = os ∧ (w.forCall tape i).Shaped C.prog ∧ i.vars = [] ∧ Input.okWide C.prog (w.forCall tape i) .any w.heap.size f i ∧
   ((s.pre enc C.prog fn conds apart (w.forCall tape i).memory i.args ∧ X (w.forCall tape i).memory i.args) ∧ sizedMet enc C.prog fn (OpenSpec.ofChange s) apart (w.forCall tape i).memory i.args) ∧ a.holds C.prog (lone (Frame.enter C.prog f i.args .normal) [] (w.forCall tape i)))
 (contract : ∀ (W : World) (base : Nat) (args : Array Value) (ds gs : List (DataW H)) (before : List MemPlace),
   (∀ (j : Nat) t v, fn.params[j]? = some t → args[j]? = some v → Value.okWide C.prog W .any base t v) →
   DataW.Whole enc C.prog fn.params.toList s.vars apart W args.toList ds gs before →
   (DataW.weightsEach C.prog (fn.params.toList ++ s.plain.varTypes C.prog) (ds ++ gs)).all (· ≤ reachBytes) = true →
   X W args → W.ShapedOpen C.prog →
   Calls C.prog f args W fun e W' => ∃ v, e = .returned v ∧ s.post enc C.prog fn apart fresh handsOn again W args v W') :
 ReturnsInHanded a C os f .any (fun w args => (s.pre enc C.prog fn conds apart w args ∧ X w args) ∧ sizedMet enc C.prog fn (OpenSpec.ofChange s) apart w args) (s.post enc C.prog fn apart fresh handsOn again) := by
 refine returnsInHanded_of_calls own started noInit witness ?_
 intro w tape i _ hsh _ hok hpre hholds
 obtain ⟨_, _, _, fn', hfn', _, _, _, _, hval⟩ := hok
 have e : fn' = fn := Option.some.inj (hfn'.symm.trans hfn)
 subst e
 obtain ⟨⟨⟨ds, gs, before, hw, hc⟩, hx⟩, hz⟩ := hpre
 have hw' := DataW.Whole.of_heap (w' := w.forCall tape i) (by rfl) hw
 refine (contract (w.forCall tape i) w.heap.size i.args ds gs before hval hw' (hz.weights hw) (hX _ _ _ (by rfl) hx) hsh).mono fun e W' ⟨v, he, hp⟩ => ?_
 subst he
 exact ChangeSpec.post_blind hp
end Go
namespace Go.Proofs.YthabefiddflefaaGreatDoor.LawT
open Go.ChangeShapes Go.WideShapes Go.ChangeAt Go.RowKit Go.Fs Go.Fs.Se
theorem one_var {H : Type} {enc : TypeId × Value → H} {P : Program} {w : World} {sp : Nat → Bool} {a : String} {gs : List (DataW H)} {ps : List MemPlace} (h : DataW.TrodVars enc P w sp [a] gs ps) : ∃ g1, gs = [g1] := by
 match gs, h with
 | [], h => exact h.elim
 | [g1], _ => exact ⟨g1, rfl⟩
 | g1 :: g2 :: r, h =>
  obtain ⟨_, _, _, _, _, _, _, _, _, _, h, _⟩ := h
  exact h.elim
theorem srcs_of : ∀ {xs : List (List D)}, shLL [.s, .s] xs = true → okLL xs = true → ∃ l : List WholeSrc, xs = l.map Cel.cel ∧ ∀ s ∈ l, s.name.size ≤ 140737488355328 ∧ s.text.size ≤ 140737488355328
 | [], _, _ => ⟨[], rfl, fun s hs => by cases hs⟩
 | x :: xs, h, k => by
  simp only [shLL, Bool.and_eq_true] at h
  rw [okLL_cons] at k
  obtain ⟨l, h1, h2⟩ := srcs_of h.2 k.2
  obtain ⟨d1, r1, rfl, a1, b1⟩ := shL_cons h.1
  obtain ⟨d2, r2, rfl, a2, b2⟩ := shL_cons b1
  obtain rfl := shL_nil b2
  obtain ⟨s1, rfl⟩ := shD_s a1
  obtain ⟨s2, rfl⟩ := shD_s a2
  have k1 := k.1
  simp only [okL_cons, okD_s, okL_nil, and_true] at k1
  refine ⟨⟨s1, s2⟩ :: l, by rw [List.map_cons, ← h1]; rfl, fun s hs => ?_⟩
  rcases List.mem_cons.1 hs with rfl | hs
  ·exact k1
  ·exact h2 s hs
theorem shape9 : HS Tryz.prog 9 [.s] := .s _ Tryz.underlying9
theorem cells9 : Tryz.prog.cellsOf 9 = ([.s] : List Sh).length := by kernel_rfl
set_option maxRecDepth 100000 in
theorem shape35 : HS Tryz.prog 35 [.s, .s] := .st _ _ _ Tryz.underlying35 (by kernel_rfl)
 (.cons _ _ _ _ [.s] _ rfl cells9 shape9 (.cons _ _ _ _ [.s] _ rfl cells9 shape9 (.nil _ _)))
set_option maxRecDepth 100000 in
theorem shape22 : HS Tryz.prog 22 [.l [.s, .s]] := .l _ 35 _ Tryz.underlying22 (by kernel_rfl) (of_decide_eq_true (by kernel_rfl)) (by decide) shape35
set_option maxRecDepth 100000 in
theorem lifted (os : Os) (started : os.Started) (H : Type) (enc : TypeId × Value → H) :
 ReturnsInHanded {} Tryz.checked os 3 .any (fun w args => (Rows.fnExactPlanTouchesSpec.pre enc Tryz.prog Tryz.f3 Rows.fnExactPlanTouchesRow.domain false w args ∧ laidMetH Tryz.prog Rows.fnExactPlanTouchesRow.laid w) ∧ sizedMet enc Tryz.prog Tryz.f3 (OpenSpec.ofChange Rows.fnExactPlanTouchesSpec) false w args)
  (Rows.fnExactPlanTouchesSpec.post enc Tryz.prog Tryz.f3 false true false false) := by
 refine handed_and_shaped (C := Tryz.checked) (X := fun w _ => laidMetH Tryz.prog Rows.fnExactPlanTouchesRow.laid w) (fun _ _ _ hh h => h.of_heap hh) own started (by kernel_rfl) Tryz.func3
  (ChangeSpec.witness_shaped (enc := enc) (C := Tryz.checked) (os := os) (X := fun w _ => laidMetH Tryz.prog Rows.fnExactPlanTouchesRow.laid w) false (World.laidAll Tryz.prog os Rows.fnExactPlanTouchesRow.laid) #[.slice none 0 0, .string ByteArray.empty] 8 (World.laidAll_os _ _ _)
    (World.shaped_of_ZipB (by kernel_rfl) (by kernel_rfl)) (by kernel_rfl) (by kernel_rfl) (by kernel_rfl)
    (by rw [MakeChecks.laidMetH_plain _ _ _ (by kernel_rfl)]; exact laidMet_laidAll _ (by kernel_rfl) (by kernel_rfl))) ?_
 intro W base args ds gs before hval0 hW hsz0 hL hsh
 have hsz : (DataW.weightsEach Tryz.prog (Tryz.f3.params.toList ++ Rows.fnExactPlanTouchesSpec.plain.varTypes Tryz.prog) (ds ++ gs)).all (· ≤ reachBytes) = true := hsz0
 have hval : ∀ (j : Nat) t v, Tryz.f3.params[j]? = some t → args[j]? = some v → Value.okWide Tryz.prog W .any base t v := hval0
 have hW' := hW
 obtain ⟨p, q, hA0, hV, rfl, _, _⟩ := hW
 have hA : DataW.TrodAll enc Tryz.prog W 0 (fun _ => true) true Tryz.f3.params.toList args.toList ds p := hA0
 rw [Tryz.params3] at hA hval hsz
 obtain ⟨v0, v1, d0, d1, p0, p1, rfl, rfl, rfl, h0, h1⟩ := trodAll_two hA
 obtain ⟨s, rfl, rfl, rfl, hs1⟩ := Go.ChangeMaps.open_string Tryz.underlying9 (hval 1 9 v1 rfl rfl) h1
 have k0 := h0
 have lt0 : ∀ x ∈ p0, x.block < W.heap.size := by obtain ⟨m, hm⟩ := k0; exact DataW.trod_lt m _ _ _ hm
 have hw0 : (d0.weights Tryz.prog 22).all (· ≤ reachBytes) = true := by
  refine List.all_eq_true.2 fun n hn => List.all_eq_true.1 hsz n (DataW.weights_mem_each (j := 0) rfl rfl n hn)
 obtain ⟨xs, S, t1, t2, t3, t4, t5⟩ := arg_slice shape22 (okWide_slice Tryz.underlying22 (hval 0 22 v0 rfl rfl)) h0 hw0
 obtain ⟨l, rfl, hl⟩ := srcs_of t3 t4
 rw [List.length_map] at t5
 obtain ⟨g1, rfl⟩ := one_var hV
 have hk := kn_laid hL hsh
 refine (calls_of_fnOK (touches_row l s hl t5) Tryz.call3 (Sd := _) hk (.d v0 _ S _ _ _ _ t1 t2 (.d (.string s) _ [] [] [] [] [] (.s s) (flat_one rfl) .nil))).mono fun e W' ⟨v, he, hp⟩ => ?_
 subst he
 have bel := hp.below
 obtain rfl := hp.bool
 exact ⟨_, rfl, _, _, _, [], _, q, hW', trodAll_mk1 (shut_bool Tryz.underlying4 _), trodAll_mk2 (Below.trod laidOut (by kernel_rfl) (of_decide_eq_true (by kernel_rfl)) k0 bel lt0) (Go.ChangeMaps.shut_string Tryz.underlying9 hs1), Below.trodVars laidOut bel (by kernel_rfl) hV, bel.frame _, fun h => by cases h⟩
theorem over : Rows.FnExactPlanTouchesSaid :=
 OpenClaim.holds_of_wide 3 Tryz.f3 rfl rfl rfl rfl rfl rfl rfl ⟨rfl, rfl, rfl, rfl, rfl⟩ rfl rfl rfl rfl rfl (by kernel_rfl) Tryz.func3 (by kernel_rfl)
  (of_decide_eq_true (by kernel_rfl)) (by unfold Func.isWrapper; first | (rw [if_pos (by decide +kernel)]; kernel_rfl) | (rw [if_neg (by decide +kernel)]; exact ⟨rfl, rfl⟩))
  (fun os started H enc _ => lifted os started H enc)
theorem card : Rows.FnExactPlanTouchesCardSaid :=
 Claim7.holds_tied_plain_at .later [] [.data, .data, .data, .sentinel, .sentinel, .widerDeep] true (true, "5bc35ceffc753e9fe6a5f378a5fc25f3e9dcced07480f24326377a1c12042781") true
  over (fun _ h => by cases h) (by kernel_rfl) (fun _ h => by cases h) fnExactPlanTouches_row_tie rfl ⟨rfl, rfl⟩ (by kernel_rfl) rfl
  (fun f fn hf hfn => by
    obtain rfl : f = 3 := Option.some.inj ((show Tryz.prog.funcNamed "loop.example/smithy/laws.FnExactPlanTouches" = some 3 by kernel_rfl).symm.trans hf) |>.symm
    obtain rfl : fn = Tryz.f3 := (Option.some.inj (Tryz.func3.symm.trans hfn)).symm
    exact ⟨by kernel_rfl, fun j t ht => by
     rw [Tryz.params3] at ht
     rcases j with _ | _ | j
     ·obtain rfl : t = 22 := by simpa using ht.symm
      exact (show Tryz.prog.wantsStandIn 22 = false by kernel_rfl)
     ·obtain rfl : t = 9 := by simpa using ht.symm
      exact (show Tryz.prog.wantsStandIn 9 = false by kernel_rfl)
     ·simp at ht⟩)
  (by kernel_rfl)
end Go.Proofs.YthabefiddflefaaGreatDoor.LawT
namespace Go.Proofs.YthabefiddflefaaGreatDoor
theorem fnExactPlanTouches_card : Rows.FnExactPlanTouchesCardSaid := LawT.card
#print axioms fnExactPlanTouches_card
end Go.Proofs.YthabefiddflefaaGreatDoor
