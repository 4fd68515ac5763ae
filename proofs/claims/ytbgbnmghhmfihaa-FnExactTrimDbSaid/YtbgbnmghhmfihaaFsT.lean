/- A part of the proof: an evaluator of the program's code over plain data, proved sound, or a function's walk by it. No conditions beyond those in the theorems. -/
import Derived.Test.YtbgbnmghhmfihaaFsS
set_option linter.unusedVariables false
set_option linter.constructorNameAsVariable false
namespace Go.Fs
open Go.RowKit

section rel
variable {P : Program} {T : Tab} {B : Ctx} {G : Nat → GI} {s : St} {a : Act} {w w' : World}

theorem inAV_d {H : Nat → Option Ob} {Av : Nat → Prop} {v : Value} {x : D} {S : List Nat} (h : Tr w false v x S) (hf : Flat v) (hS : ∀ b ∈ S, ¬ Av b) : AVR w G H Av v (inAV (.d x)) := by
  by_cases hg : ∃ ds, x = .g ds
  · obtain ⟨ds, rfl⟩ := hg
    cases h with
    | g cs _ _ hs => exact .g _ _ (hs.avrl hf hS)
  · have hx : ∀ ds, x ≠ .g ds := fun ds e => hg ⟨ds, e⟩
    have e : inAV (.d x) = .d x := by cases x <;> first | rfl | exact absurd rfl (hx _)
    rw [e]
    refine .d _ _ S ?_ h hS
    have : v.cells = #[v] := by
      cases h with
      | g cs ds S h => exact absurd rfl (hx _)
      | _ => rfl
    exact hf v (by rw [this]; simp)

theorem argsD : ∀ {vs : List Value} {ins : List In} {Sd M : List Nat} (h : ArgsR w vs ins Sd M), ins.all In.isD = true →
    M = [] ∧ ∀ {G : Nat → GI} {H : Nat → Option Ob} {Av : Nat → Prop}, (∀ b ∈ Sd, ¬ Av b) → AVRL w G H Av vs (ins.map inAV)
  | _, _, _, _, .nil, _ => ⟨rfl, fun _ => .nil⟩
  | _, _, _, _, .d v x S vs ins Sd M h hf hs, hi => by
    simp only [List.all_cons, Bool.and_eq_true] at hi
    obtain ⟨rfl, k⟩ := argsD hs hi.2
    exact ⟨rfl, fun hS => .cons _ _ _ _ (inAV_d h hf fun b hb => hS b (by simp [hb])) (k fun b hb => hS b (by simp [hb]))⟩
  | _, _, _, _, .io v x S vs ins Sd M h hf hs, hi => by simp [In.isD] at hi

theorem args_len : ∀ {vs : List Value} {ins : List In} {Sd M : List Nat} (h : ArgsR w vs ins Sd M), vs.length = ins.length
  | _, _, _, _, .nil => rfl
  | _, _, _, _, .d _ _ _ _ _ _ _ _ _ hs => by simp [args_len hs]
  | _, _, _, _, .io _ _ _ _ _ _ _ _ _ hs => by simp [args_len hs]

theorem oneAV_ok {H : Nat → Option Ob} {Av : Nat → Prop} {own : Bool} {v : Value} {x : D} {S : List Nat} (h : Tr w own v x S) (hf : Flat v) {avs : List AV} (ha : AVRL w G H Av v.cells.toList avs) : AVR w G H Av v (oneAV x avs) := by
  have hl := (cells_tr h hf).length
  cases h with
  | g cs ds S h =>
    have h1 := ha.length
    simp only [oneAV]
    rw [List.take_of_length_le (by rw [← h1, hl]; exact Nat.le_refl _)]
    exact .g _ _ ha
  | t vs ds S h =>
    have := hf (.tuple vs) (by simp [Value.cells])
    simp [Value.oneCell'] at this
  | _ =>
    simp only [Value.cells] at ha
    cases ha with
    | cons _ _ _ _ h _ => exact h

/-- A function begins. -/
theorem enter_rel {ins : List In} (hi : insOK ins = true) {n : Nat} {args : List Value} {Sd M : List Nat} (ha : ArgsR w args ins Sd M) (hM : M.Nodup) (hd : ∀ b ∈ M, b ∉ Sd) (hn : ins.length ≤ n) :
    ∃ B G, RelG B G (inSt n ins) { tmps := args.toArray ++ Array.replicate (n - args.toArray.size) undef, defers := [] } w ∧ B.base = w.heap.size ∧ B.w0 = w ∧ (∀ b, B.F b ↔ (b < w.heap.size ∧ b ∉ Sd ∧ b ∉ M)) ∧ (∀ b, B.M b ↔ b ∈ M) ∧ B.aa = ancA ins ∧ (∀ x rest, ins = .io x :: rest → ∃ vs, args = B.av :: vs ∧ Flat B.av) := by
  have hlen := args_len ha
  have mk : ∀ (G : Nat → GI) (av : Value), AVRL w G (inHeap ins) (Ban (fun b => b < w.heap.size ∧ b ∉ Sd ∧ b ∉ M) G (inHeap ins)) args (ins.map inAV) →
      (∀ k o, inHeap ins k = some o → ObR w G (inHeap ins) (Ban (fun b => b < w.heap.size ∧ b ∉ Sd ∧ b ∉ M) G (inHeap ins)) (G k) o) → (∀ k, (ownOf (G k) (inHeap ins k)).Nodup) →
      (∀ k k' b, b ∈ ownOf (G k) (inHeap ins k) → b ∈ ownOf (G k') (inHeap ins k') → k = k') → (∀ k b, b ∈ ownOf (G k) (inHeap ins k) → b ∈ M) →
      AVR w G (inHeap ins) (Ban (fun b => b < w.heap.size ∧ b ∉ Sd ∧ b ∉ M) G (inHeap ins)) av (ancA ins) →
      RelG { base := w.heap.size, w0 := w, F := fun b => b < w.heap.size ∧ b ∉ Sd ∧ b ∉ M, M := fun b => b ∈ M, av := av, aa := ancA ins } G (inSt n ins)
        { tmps := args.toArray ++ Array.replicate (n - args.toArray.size) undef, defers := [] } w := by
    intro G av h1 h2 h3 h4 h5 h6
    refine ⟨h2, fun t => ?_, ?_, rfl, h3, h4, fun k b hb => .inr (h5 k b hb), .refl w, fun _ _ _ => rfl, fun b hb => ⟨hb.1, hb.2.2⟩, Nat.le_refl _, h6⟩
    · show AVR w G (inHeap ins) _ _ ((ins.map inAV).getD t .x)
      rcases Nat.lt_or_ge t args.length with ht | ht
      · have e1 : args[t]? = some args[t] := List.getElem?_eq_getElem ht
        have e2 : (ins.map inAV)[t]? = some ((ins.map inAV)[t]'(by rw [List.length_map]; omega)) := List.getElem?_eq_getElem _
        have := h1.get e1 e2
        have e3 : (args.toArray ++ Array.replicate (n - args.toArray.size) undef).getD t undef = args[t] := by
          rw [Array.getD_eq_getD_getElem?, Array.getElem?_append_left (by simpa using ht)]
          simp [e1]
        rw [e3, List.getD_eq_getElem?_getD, e2]
        exact this
      · rw [List.getD_eq_getElem?_getD, List.getElem?_eq_none (by rw [List.length_map]; omega)]
        exact .x _
    · simp [inSt]; omega
  have avR : ∀ {G : Nat → GI} {H : Nat → Option Ob}, (∀ k b, b ∈ ownOf (G k) (H k) → b ∈ M) → ∀ b ∈ Sd, ¬ Ban (fun b => b < w.heap.size ∧ b ∉ Sd ∧ b ∉ M) G H b := by
    rintro G H ho b hb (⟨k, hm⟩ | hF)
    · exact hd b (ho k b hm) hb
    · exact hF.2.1 hb
  have plain : ins.all In.isD = true → inHeap ins = (fun _ => none) → ancA ins = .x → (∀ x rest, ins ≠ .io x :: rest) →
      ∃ B G, RelG B G (inSt n ins) { tmps := args.toArray ++ Array.replicate (n - args.toArray.size) undef, defers := [] } w ∧ B.base = w.heap.size ∧ B.w0 = w ∧ (∀ b, B.F b ↔ (b < w.heap.size ∧ b ∉ Sd ∧ b ∉ M)) ∧ (∀ b, B.M b ↔ b ∈ M) ∧ B.aa = ancA ins ∧ (∀ x rest, ins = .io x :: rest → ∃ vs, args = B.av :: vs ∧ Flat B.av) := by
    intro h1 h2 h3 h4
    obtain ⟨_, k⟩ := argsD ha h1
    refine ⟨_, fun _ => default, mk (fun _ => default) undef (k (avR (by rw [h2]; simp [ownOf]))) ?_ ?_ ?_ ?_ (by rw [h3]; exact .x _), rfl, rfl, fun _ => Iff.rfl, fun _ => Iff.rfl, rfl, fun x rest e => absurd e (h4 x rest)⟩
    · rw [h2]; intro k o ho; cases ho
    · rw [h2]; intro k; simp [ownOf]
    · rw [h2]; intro k k' b hb; simp [ownOf] at hb
    · rw [h2]; intro k b hb; simp [ownOf] at hb
  cases ha with
  | nil => exact plain rfl rfl rfl (by intros; simp)
  | d v x S vs ins Sd' M' h hf hs => exact plain (by simpa [insOK] using hi) rfl rfl (by intros; simp)
  | io v x S vs ins' Sd' M' h hf hs =>
    obtain ⟨rfl, k⟩ := argsD hs (by simpa [insOK] using hi)
    rw [List.append_nil] at hM mk avR hd
    have hcells := cells_tr h hf
    obtain ⟨L, e1, e2, e3, e4⟩ := adEnts hcells hM hf keyIn
    have hH : inHeap (.io x :: ins') = ovr (L.map fun x => (x.1, x.2.2)) fun _ => none := by rw [e1]; rfl
    have inG : ∀ x ∈ L, ovG (L.map fun x => (x.1, x.2.1)) (fun _ => default) x.1 = x.2.1 := fun x hx => ovG_in e3.keys hx
    have inH : ∀ x' ∈ L, inHeap (.io x :: ins') x'.1 = some x'.2.2 := fun x' hx => by rw [hH]; exact ovr_in e3.keys hx
    have outH : ∀ k, k ∉ L.map (·.1) → inHeap (.io x :: ins') k = none := fun k hk => by rw [hH]; exact ovr_out hk
    have hmem : ∀ k, inHeap (.io x :: ins') k ≠ none → ∃ y ∈ L, y.1 = k := fun k hk => by
      by_cases hm : k ∈ L.map (·.1)
      · simpa using hm
      · exact absurd (outH k hm) hk
    have hown : ∀ k b, b ∈ ownOf (ovG (L.map fun x => (x.1, x.2.1)) (fun _ => default) k) (inHeap (.io x :: ins') k) → ∃ y ∈ L, y.1 = k ∧ b ∈ ownOf y.2.1 (some y.2.2) := fun k b hb => by
      have : inHeap (.io x :: ins') k ≠ none := fun e => by rw [e] at hb; simp [ownOf] at hb
      obtain ⟨y, hy, rfl⟩ := hmem k this
      rw [inG y hy, inH y hy] at hb
      exact ⟨y, hy, rfl, hb⟩
    have hS : ∀ k b, b ∈ ownOf (ovG (L.map fun x => (x.1, x.2.1)) (fun _ => default) k) (inHeap (.io x :: ins') k) → b ∈ S := fun k b hb => by
      obtain ⟨y, hy, _, hm⟩ := hown k b hb
      exact e3.sub y hy b hm
    have hav : AVR w (ovG (L.map fun x => (x.1, x.2.1)) (fun _ => default)) (inHeap (.io x :: ins')) (Ban (fun b => b < w.heap.size ∧ b ∉ Sd ∧ b ∉ S) (ovG (L.map fun x => (x.1, x.2.1)) (fun _ => default)) (inHeap (.io x :: ins'))) v (inAV (.io x)) := by
      refine oneAV_ok h hf (e4 _ _ _ (fun y hy => ⟨inG y hy, inH y hy⟩) ?_)
      rintro b hb (⟨k, hm⟩ | hF)
      · obtain ⟨y, hy, _, hm⟩ := hown k b hm
        exact ⟨y, hy, hm⟩
      · exact absurd hb hF.2.2
    rw [List.append_nil]
    refine ⟨_, _, mk (ovG (L.map fun x => (x.1, x.2.1)) (fun _ => default)) v (.cons _ _ _ _ hav (k (avR hS))) ?_ ?_ ?_ hS hav, rfl, rfl, fun _ => Iff.rfl, fun _ => Iff.rfl, rfl, fun x rest e => ⟨vs, rfl, hf⟩⟩
    · intro k o ho
      obtain ⟨y, hy, rfl⟩ := hmem k (by rw [ho]; simp)
      rw [inH y hy] at ho
      cases ho
      rw [inG y hy]
      obtain ⟨sz, xs, ve, e, hR⟩ := e3.row y hy
      rw [e]
      exact hR _
    · intro k
      by_cases hk : inHeap (.io x :: ins') k = none
      · rw [hk]; simp [ownOf]
      · obtain ⟨y, hy, rfl⟩ := hmem k hk
        rw [inG y hy, inH y hy]
        exact e3.nd y hy
    · intro k k' b hb hb'
      obtain ⟨y, hy, rfl, hm⟩ := hown k b hb
      obtain ⟨y', hy', rfl, hm'⟩ := hown k' b hb'
      exact e3.dis y hy y' hy' b hm hm'

theorem loadAt_as {ty : TypeId} {pv v : Value} (h : (Instr.loadAt ty pv).run P w = .ok v w) : (do loadVar ty (← asAddr pv) : Sem Value).run P w = .ok v w := by
  unfold Instr.loadAt at h
  cases pv with
  | pointer o =>
    cases o with
    | none => simp [Instr.sureAddr] at h
    | some ad => simpa [Instr.sureAddr, asAddr] using h
  | _ => simp [Instr.sureAddr] at h

theorem run_resL (hT : T.ok P = true) {a : Act} (h : RelG B G s a w) (f : ResultVar → Sem Value) (hf1 : ∀ t, f (.tmp t) = pure (a.tmps.getD t undef)) (hf2 : ∀ t ty, f (.cell t ty) = do loadVar ty (← asAddr (a.tmps.getD t undef))) :
    ∀ {rs : List ResultVar} {avs : List AV}, resL T s rs = some avs → ∃ us, (rs.mapM f).run P w = .ok us w ∧ AVRL w G s.heap (Ban B.F G s.heap) us avs
  | [], avs, hm => by
    simp only [resL, Option.some.injEq] at hm
    subst hm
    exact ⟨[], rfl, .nil⟩
  | .tmp t :: rs, avs, hm => by
    simp only [resL, Option.map_eq_some_iff] at hm
    obtain ⟨as, hm, rfl⟩ := hm
    obtain ⟨us, h1, h2⟩ := run_resL hT h f hf1 hf2 hm
    refine ⟨a.tmps.getD t undef :: us, ?_, .cons _ _ _ _ (h.env t) h2⟩
    rw [List.mapM_cons, hf1]
    simp only [pure_bind, Sem.run_bind, h1, Result.andThen_ok]
    rfl
  | .cell t ty :: rs, avs, hm => by
    simp only [resL, Option.bind_eq_some_iff, Option.map_eq_some_iff] at hm
    obtain ⟨av, hl, as, hm, rfl⟩ := hm
    obtain ⟨us, h1, h2⟩ := run_resL hT h f hf1 hf2 hm
    obtain ⟨v, h3, h4⟩ := opLoad_ok hT h (h.env t) hl
    refine ⟨v :: us, ?_, .cons _ _ _ _ h4 h2⟩
    rw [List.mapM_cons, hf2]
    rw [Sem.run_bind, loadAt_as h3]
    simp only [Sem.run_bind, h1, Result.andThen_ok]
    rfl

theorem run_resG (hT : T.ok P = true) {a : Act} (h : RelG B G s a w) {rs : Array ResultVar} {avs : List AV} (hm : resL T s rs.toList = some avs) (f : ResultVar → Sem Value) (hf1 : ∀ t, f (.tmp t) = pure (a.tmps.getD t undef)) (hf2 : ∀ t ty, f (.cell t ty) = do loadVar ty (← asAddr (a.tmps.getD t undef))) :
    ∃ us v, (do let vs ← rs.mapM f; pure (if h : vs.size = 1 then vs[0] else .tuple vs) : Sem Value).run P w = .ok v w ∧ AVRL w G s.heap (Ban B.F G s.heap) us avs ∧ ((∃ u, us = [u] ∧ v = u) ∨ (us.length ≠ 1 ∧ v = .tuple us.toArray)) := by
  obtain ⟨us, h1, h2⟩ := run_resL hT h f hf1 hf2 hm
  have h3 : (rs.mapM f).run P w = .ok us.toArray w := by
    rw [Array.mapM_eq_mapM_toList, Sem.run_map, h1]
    rfl
  rw [Sem.run_bind, h3, Result.andThen_ok]
  by_cases hl : us.length = 1
  · obtain ⟨u, rfl⟩ := List.length_eq_one_iff.1 hl
    exact ⟨_, _, rfl, h2, .inl ⟨u, rfl, rfl⟩⟩
  · refine ⟨us, _, rfl, h2, .inr ⟨hl, ?_⟩⟩
    rw [dif_neg (by simpa using hl)]

theorem run_results (hT : T.ok P = true) {a : Act} (h : RelG B G s a w) {fn : Func} {avs : List AV} (hm : resL T s fn.results.toList = some avs) :
    ∃ us v, (results fn a.tmps).run P w = .ok v w ∧ AVRL w G s.heap (Ban B.F G s.heap) us avs ∧ ((∃ u, us = [u] ∧ v = u) ∨ (us.length ≠ 1 ∧ v = .tuple us.toArray)) := by
  unfold results
  exact run_resG hT h hm _ (fun _ => rfl) (fun _ _ => rfl)
end rel
end Go.Fs
