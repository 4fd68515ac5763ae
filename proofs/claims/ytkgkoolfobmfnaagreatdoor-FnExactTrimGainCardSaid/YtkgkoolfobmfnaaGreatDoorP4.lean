/- A part of the proof: an evaluator of the program's code over plain data, proved sound; the equations of its functions; what they compute. No conditions beyond those in the theorems. -/
import Derived.Test.YtkgkoolfobmfnaaGreatDoorP3
set_option linter.unusedVariables false
set_option linter.unusedSimpArgs false
set_option linter.constructorNameAsVariable false
set_option linter.unusedSectionVars false
set_option linter.defProp false
namespace Go.Fs
open Go.RowKit

section rel
variable {P : Program} {T : Tab} {B : Ctx} {G : Nat → GI} {s : St} {a : Act} {w w' : World}

theorem inAV_d {H : Nat → Option Ob} {Av : Nat → Prop} {v : Value} {x : D} {S : List Nat} (h : Tr w false v x S) (hf : Flat v) (hS : ∀ b ∈ S, ¬ Av b) : AVR w G H Av v (inAV (.d x)) := by
  by_cases hg : ∃ ds, x = .g ds
  · obtain ⟨ds, rfl⟩ := hg
    cases h with
    | g cs _ _ hs => exact .g _ _ (hs.avrl hf hS)
  · have hx : ∀ ds, x ≠ .g ds := fun ds e => hg ⟨ds, e⟩
    have e : inAV (.d x) = .d x := by cases x <;> first | rfl | exact absurd rfl (hx _)
    rw [e]
    refine .d _ _ S ?_ h hS
    have : v.cells = #[v] := by
      cases h with
      | g cs ds S h => exact absurd rfl (hx _)
      | _ => rfl
    exact hf v (by rw [this]; simp)

theorem argsD : ∀ {vs : List Value} {ins : List In} {Sd M : List Nat} (h : ArgsR w vs ins Sd M), ins.all In.isD = true →
    M = [] ∧ ∀ {G : Nat → GI} {H : Nat → Option Ob} {Av : Nat → Prop}, (∀ b ∈ Sd, ¬ Av b) → AVRL w G H Av vs (ins.map inAV)
  | _, _, _, _, .nil, _ => ⟨rfl, fun _ => .nil⟩
  | _, _, _, _, .d v x S vs ins Sd M h hf hs, hi => by
    simp only [List.all_cons, Bool.and_eq_true] at hi
    obtain ⟨rfl, k⟩ := argsD hs hi.2
    exact ⟨rfl, fun hS => .cons _ _ _ _ (inAV_d h hf fun b hb => hS b (by simp [hb])) (k fun b hb => hS b (by simp [hb]))⟩
  | _, _, _, _, .io v x S vs ins Sd M h hf hs, hi => by simp [In.isD] at hi

theorem args_len : ∀ {vs : List Value} {ins : List In} {Sd M : List Nat} (h : ArgsR w vs ins Sd M), vs.length = ins.length
  | _, _, _, _, .nil => rfl
  | _, _, _, _, .d _ _ _ _ _ _ _ _ _ hs => by simp [args_len hs]
  | _, _, _, _, .io _ _ _ _ _ _ _ _ _ hs => by simp [args_len hs]

theorem oneAV_ok {H : Nat → Option Ob} {Av : Nat → Prop} {own : Bool} {v : Value} {x : D} {S : List Nat} (h : Tr w own v x S) (hf : Flat v) {avs : List AV} (ha : AVRL w G H Av v.cells.toList avs) : AVR w G H Av v (oneAV x avs) := by
  have hl := (cells_tr h hf).length
  cases h with
  | g cs ds S h =>
    have h1 := ha.length
    simp only [oneAV]
    rw [List.take_of_length_le (by rw [← h1, hl]; exact Nat.le_refl _)]
    exact .g _ _ ha
  | t vs ds S h =>
    have := hf (.tuple vs) (by simp [Value.cells])
    simp [Value.oneCell'] at this
  | _ =>
    simp only [Value.cells] at ha
    cases ha with
    | cons _ _ _ _ h _ => exact h

/-- What is handed over, as objects. -/
theorem ioIn_ents {v : Value} {x : D} {S : List Nat} (h : Tr w true v x S) (hf : Flat v) (hM : S.Nodup) (ins : List In) : ∃ L : List (Nat × GI × Ob),
    inHeap (.io x :: ins) = ovr (L.map fun x => (x.1, x.2.2)) (fun _ => none) ∧ (L.map (·.1)).Nodup ∧ (∀ y ∈ L, ∀ b ∈ ownOf y.2.1 (some y.2.2), b ∈ S) ∧ (∀ y ∈ L, (ownOf y.2.1 (some y.2.2)).Nodup) ∧
    (∀ y ∈ L, ∀ z ∈ L, ∀ b, b ∈ ownOf y.2.1 (some y.2.2) → b ∈ ownOf z.2.1 (some z.2.2) → y.1 = z.1) ∧
    ∀ (G : Nat → GI) (H : Nat → Option Ob) (Av : Nat → Prop), (∀ y ∈ L, G y.1 = y.2.1 ∧ H y.1 = some y.2.2) → (∀ b ∈ S, Av b → ∃ y ∈ L, b ∈ ownOf y.2.1 (some y.2.2)) →
      AVR w G H Av v (inAV (.io x)) ∧ ∀ y ∈ L, ObR w G H Av y.2.1 y.2.2 := by
  by_cases hp : ∃ ds, x = .p ds
  · obtain ⟨ds, rfl⟩ := hp
    cases h with
    | p g o cur e fr vs _ S hg hv h1 ho hs =>
    obtain ⟨rfl, rfl, hsz⟩ := ho rfl
    obtain ⟨n1, n2⟩ := List.nodup_cons.1 hM
    obtain rfl : vs = cur.toList := by
      refine List.ext_getElem? fun j => ?_
      rcases Nat.lt_or_ge j vs.length with hj | hj
      · have := hv j _ (List.getElem?_eq_getElem hj)
        rw [List.getElem?_eq_getElem hj, ← this]
        simp
      · rw [List.getElem?_eq_none hj, List.getElem?_eq_none (by simpa [hsz] using hj)]
    obtain ⟨L, e1, e2, e3, e4⟩ := adEnts hs n2 h1 (keyIn + 1)
    have hb0 : ∀ cs, ownOf ⟨g, 0, 0, [], []⟩ (some (.box cs)) = [g] := fun _ => rfl
    refine ⟨(keyIn, ⟨g, 0, 0, [], []⟩, .box (adCells (keyIn + 1) ds)) :: L, by simp [inHeap, e1], ?_, ?_, ?_, ?_, ?_⟩
    · refine List.nodup_cons.2 ⟨fun hm => ?_, e3.keys⟩
      obtain ⟨y, hy, e⟩ := List.mem_map.1 hm
      have := e2 y hy
      simp only at e
      omega
    · intro y hy b hb
      rcases List.mem_cons.1 hy with rfl | hy
      · rw [hb0] at hb; simp at hb; simp [hb]
      · exact List.mem_cons_of_mem _ (e3.sub y hy b hb)
    · intro y hy
      rcases List.mem_cons.1 hy with rfl | hy
      · rw [hb0]; simp
      · exact e3.nd y hy
    · intro y hy z hz b hb hb'
      rcases List.mem_cons.1 hy with rfl | hy1 <;> rcases List.mem_cons.1 hz with rfl | hz1
      · rfl
      · rw [hb0] at hb; simp at hb; subst hb; exact absurd (e3.sub z hz1 _ hb') n1
      · rw [hb0] at hb'; simp at hb'; subst hb'; exact absurd (e3.sub y hy1 _ hb) n1
      · exact e3.dis y hy1 z hz1 b hb hb'
    · intro G H Av hL hA
      obtain ⟨g1, g2⟩ := hL (keyIn, ⟨g, 0, 0, [], []⟩, .box (adCells (keyIn + 1) ds)) (by simp)
      have g1 : G keyIn = ⟨g, 0, 0, [], []⟩ := g1
      have g2 : H keyIn = some (.box (adCells (keyIn + 1) ds)) := g2
      have hcs := e4 G H Av (fun y hy => hL y (by simp [hy])) fun b hb ha => by
        obtain ⟨y, hy, hm⟩ := hA b (by simp [hb]) ha
        rcases List.mem_cons.1 hy with rfl | hy
        · rw [hb0] at hm; simp at hm; subst hm; exact absurd hb n1
        · exact ⟨y, hy, hm⟩
      refine ⟨?_, fun y hy => ?_⟩
      · have := AVR.a (w := w) (G := G) (H := H) (Av := Av) keyIn 0 _ g2
        rw [g1] at this
        exact this
      · rcases List.mem_cons.1 hy with rfl | hy
        · exact ⟨⟨cur, e, hg, hcs, h1⟩⟩
        · obtain ⟨sz, xs, ve, e, hR⟩ := e3.row y hy
          rw [e]
          exact hR _
  · have hx : ∀ ds, x ≠ .p ds := fun ds e => hp ⟨ds, e⟩
    have hcells := cells_tr h hf
    obtain ⟨L, e1, e2, e3, e4⟩ := adEnts hcells hM hf keyIn
    have hI : inHeap (.io x :: ins) = ovr (adObs keyIn (cellsD x)) fun _ => none := by cases x <;> first | rfl | exact absurd rfl (hx _)
    have hV : inAV (.io x) = oneAV x (adCells keyIn (cellsD x)) := by cases x <;> first | rfl | exact absurd rfl (hx _)
    refine ⟨L, by rw [hI, e1], e3.keys, e3.sub, e3.nd, e3.dis, fun G H Av hL hA => ⟨?_, fun y hy => ?_⟩⟩
    · rw [hV]
      exact oneAV_ok h hf (e4 _ _ _ hL hA)
    · obtain ⟨sz, xs, ve, e, hR⟩ := e3.row y hy
      rw [e]
      exact hR _

/-- A function begins. -/
theorem enter_rel {ins : List In} (hi : insOK ins = true) {n : Nat} {args : List Value} {Sd M : List Nat} (hkn : KnW w (· ∈ M)) (ha : ArgsR w args ins Sd M) (hM : M.Nodup) (hd : ∀ b ∈ M, b ∉ Sd) (hn : ins.length ≤ n) :
    ∃ B G, RelG B G (inSt n ins) { tmps := args.toArray ++ Array.replicate (n - args.toArray.size) undef, defers := [] } w ∧ B.base = w.heap.size ∧ B.w0 = w ∧ (∀ b, B.F b ↔ (nG ≤ b ∧ b < w.heap.size ∧ b ∉ Sd ∧ b ∉ M)) ∧ (∀ b, B.M b ↔ b ∈ M) ∧ B.aa = ancA ins ∧ (∀ x rest, ins = .io x :: rest → ∃ vs, args = B.av :: vs ∧ Flat B.av) := by
  have hlen := args_len ha
  have mk : ∀ (G : Nat → GI) (av : Value), AVRL w G (inHeap ins) (Ban (fun b => nG ≤ b ∧ b < w.heap.size ∧ b ∉ Sd ∧ b ∉ M) G (inHeap ins)) args (ins.map inAV) →
      (∀ k o, inHeap ins k = some o → ObR w G (inHeap ins) (Ban (fun b => nG ≤ b ∧ b < w.heap.size ∧ b ∉ Sd ∧ b ∉ M) G (inHeap ins)) (G k) o) → (∀ k, (ownOf (G k) (inHeap ins k)).Nodup) →
      (∀ k k' b, b ∈ ownOf (G k) (inHeap ins k) → b ∈ ownOf (G k') (inHeap ins k') → k = k') → (∀ k b, b ∈ ownOf (G k) (inHeap ins k) → b ∈ M) →
      AVR w G (inHeap ins) (Ban (fun b => nG ≤ b ∧ b < w.heap.size ∧ b ∉ Sd ∧ b ∉ M) G (inHeap ins)) av (ancA ins) →
      RelG { base := w.heap.size, w0 := w, F := fun b => nG ≤ b ∧ b < w.heap.size ∧ b ∉ Sd ∧ b ∉ M, M := fun b => b ∈ M, av := av, aa := ancA ins, kn := hkn, kb := hkn.size, kF := fun b hb => hb.1 } G (inSt n ins)
        { tmps := args.toArray ++ Array.replicate (n - args.toArray.size) undef, defers := [] } w := by
    intro G av h1 h2 h3 h4 h5 h6
    refine ⟨h2, fun t => ?_, ?_, rfl, h3, h4, fun k b hb => .inr (h5 k b hb), .refl w, fun _ _ _ => rfl, fun b hb => ⟨hb.2.1, hb.2.2.2⟩, Nat.le_refl _, h6⟩
    · show AVR w G (inHeap ins) _ _ ((ins.map inAV).getD t .x)
      rcases Nat.lt_or_ge t args.length with ht | ht
      · have e1 : args[t]? = some args[t] := List.getElem?_eq_getElem ht
        have e2 : (ins.map inAV)[t]? = some ((ins.map inAV)[t]'(by rw [List.length_map]; omega)) := List.getElem?_eq_getElem _
        have := h1.get e1 e2
        have e3 : (args.toArray ++ Array.replicate (n - args.toArray.size) undef).getD t undef = args[t] := by
          rw [Array.getD_eq_getD_getElem?, Array.getElem?_append_left (by simpa using ht)]
          simp [e1]
        rw [e3, List.getD_eq_getElem?_getD, e2]
        exact this
      · rw [List.getD_eq_getElem?_getD, List.getElem?_eq_none (by rw [List.length_map]; omega)]
        exact .x _
    · simp [inSt]; omega
  have avR : ∀ {G : Nat → GI} {H : Nat → Option Ob}, (∀ k b, b ∈ ownOf (G k) (H k) → b ∈ M) → ∀ b ∈ Sd, ¬ Ban (fun b => nG ≤ b ∧ b < w.heap.size ∧ b ∉ Sd ∧ b ∉ M) G H b := by
    rintro G H ho b hb (⟨k, hm⟩ | hF)
    · exact hd b (ho k b hm) hb
    · exact hF.2.2.1 hb
  have plain : ins.all In.isD = true → inHeap ins = (fun _ => none) → ancA ins = .x → (∀ x rest, ins ≠ .io x :: rest) →
      ∃ B G, RelG B G (inSt n ins) { tmps := args.toArray ++ Array.replicate (n - args.toArray.size) undef, defers := [] } w ∧ B.base = w.heap.size ∧ B.w0 = w ∧ (∀ b, B.F b ↔ (nG ≤ b ∧ b < w.heap.size ∧ b ∉ Sd ∧ b ∉ M)) ∧ (∀ b, B.M b ↔ b ∈ M) ∧ B.aa = ancA ins ∧ (∀ x rest, ins = .io x :: rest → ∃ vs, args = B.av :: vs ∧ Flat B.av) := by
    intro h1 h2 h3 h4
    obtain ⟨_, k⟩ := argsD ha h1
    refine ⟨_, fun _ => default, mk (fun _ => default) undef (k (avR (by rw [h2]; simp [ownOf]))) ?_ ?_ ?_ ?_ (by rw [h3]; exact .x _), rfl, rfl, fun _ => Iff.rfl, fun _ => Iff.rfl, rfl, fun x rest e => absurd e (h4 x rest)⟩
    · rw [h2]; intro k o ho; cases ho
    · rw [h2]; intro k; simp [ownOf]
    · rw [h2]; intro k k' b hb; simp [ownOf] at hb
    · rw [h2]; intro k b hb; simp [ownOf] at hb
  generalize hMe : M = M0 at ha
  cases ha with
  | nil => subst hMe; exact plain rfl rfl rfl (by intros; simp)
  | d v x S vs ins Sd' M' h hf hs => subst hMe; exact plain (by simpa [insOK] using hi) rfl rfl (by intros; simp)
  | io v x S vs ins' Sd' M' h hf hs =>
    obtain ⟨rfl, k⟩ := argsD hs (by simpa [insOK] using hi)
    rw [List.append_nil] at hMe
    subst hMe
    rw [List.append_nil]
    obtain ⟨L, hH, e3, eS, eN, eD, e4⟩ := ioIn_ents h hf hM ins'
    have inG : ∀ x ∈ L, ovG (L.map fun x => (x.1, x.2.1)) (fun _ => default) x.1 = x.2.1 := fun x hx => ovG_in e3 hx
    have inH : ∀ x' ∈ L, inHeap (.io x :: ins') x'.1 = some x'.2.2 := fun x' hx => by rw [hH]; exact ovr_in e3 hx
    have outH : ∀ k, k ∉ L.map (·.1) → inHeap (.io x :: ins') k = none := fun k hk => by rw [hH]; exact ovr_out hk
    have hmem : ∀ k, inHeap (.io x :: ins') k ≠ none → ∃ y ∈ L, y.1 = k := fun k hk => by
      by_cases hm : k ∈ L.map (·.1)
      · simpa using hm
      · exact absurd (outH k hm) hk
    have hown : ∀ k b, b ∈ ownOf (ovG (L.map fun x => (x.1, x.2.1)) (fun _ => default) k) (inHeap (.io x :: ins') k) → ∃ y ∈ L, y.1 = k ∧ b ∈ ownOf y.2.1 (some y.2.2) := fun k b hb => by
      have : inHeap (.io x :: ins') k ≠ none := fun e => by rw [e] at hb; simp [ownOf] at hb
      obtain ⟨y, hy, rfl⟩ := hmem k this
      rw [inG y hy, inH y hy] at hb
      exact ⟨y, hy, rfl, hb⟩
    have hS : ∀ k b, b ∈ ownOf (ovG (L.map fun x => (x.1, x.2.1)) (fun _ => default) k) (inHeap (.io x :: ins') k) → b ∈ M := fun k b hb => by
      obtain ⟨y, hy, _, hm⟩ := hown k b hb
      exact eS y hy b hm
    obtain ⟨hav, hob⟩ := e4 (ovG (L.map fun x => (x.1, x.2.1)) (fun _ => default)) (inHeap (.io x :: ins')) (Ban (fun b => nG ≤ b ∧ b < w.heap.size ∧ b ∉ Sd ∧ b ∉ M) (ovG (L.map fun x => (x.1, x.2.1)) (fun _ => default)) (inHeap (.io x :: ins'))) (fun y hy => ⟨inG y hy, inH y hy⟩) (by
      rintro b hb (⟨k, hm⟩ | hF)
      · obtain ⟨y, hy, _, hm⟩ := hown k b hm
        exact ⟨y, hy, hm⟩
      · exact absurd hb hF.2.2.2)
    refine ⟨_, _, mk (ovG (L.map fun x => (x.1, x.2.1)) (fun _ => default)) v (.cons _ _ _ _ hav (k (avR hS))) ?_ ?_ ?_ hS hav, rfl, rfl, fun _ => Iff.rfl, fun _ => Iff.rfl, rfl, fun x rest e => ⟨vs, rfl, hf⟩⟩
    · intro k o ho
      obtain ⟨y, hy, rfl⟩ := hmem k (by rw [ho]; simp)
      rw [inH y hy] at ho
      cases ho
      rw [inG y hy]
      exact hob y hy
    · intro k
      by_cases hk : inHeap (.io x :: ins') k = none
      · rw [hk]; simp [ownOf]
      · obtain ⟨y, hy, rfl⟩ := hmem k hk
        rw [inG y hy, inH y hy]
        exact eN y hy
    · intro k k' b hb hb'
      obtain ⟨y, hy, rfl, hm⟩ := hown k b hb
      obtain ⟨y', hy', rfl, hm'⟩ := hown k' b hb'
      exact eD y hy y' hy' b hm hm'

theorem loadAt_as {ty : TypeId} {pv v : Value} (h : (Instr.loadAt ty pv).run P w = .ok v w) : (do loadVar ty (← asAddr pv) : Sem Value).run P w = .ok v w := by
  unfold Instr.loadAt at h
  cases pv with
  | pointer o =>
    cases o with
    | none => simp [Instr.sureAddr] at h
    | some ad => simpa [Instr.sureAddr, asAddr] using h
  | _ => simp [Instr.sureAddr] at h

theorem run_resL (hT : T.ok P = true) {a : Act} (h : RelG B G s a w) (f : ResultVar → Sem Value) (hf1 : ∀ t, f (.tmp t) = pure (a.tmps.getD t undef)) (hf2 : ∀ t ty, f (.cell t ty) = do loadVar ty (← asAddr (a.tmps.getD t undef))) :
    ∀ {rs : List ResultVar} {avs : List AV}, resL T s rs = some avs → ∃ us, (rs.mapM f).run P w = .ok us w ∧ AVRL w G s.heap (Ban B.F G s.heap) us avs
  | [], avs, hm => by
    simp only [resL, Option.some.injEq] at hm
    subst hm
    exact ⟨[], rfl, .nil⟩
  | .tmp t :: rs, avs, hm => by
    simp only [resL, Option.map_eq_some_iff] at hm
    obtain ⟨as, hm, rfl⟩ := hm
    obtain ⟨us, h1, h2⟩ := run_resL hT h f hf1 hf2 hm
    refine ⟨a.tmps.getD t undef :: us, ?_, .cons _ _ _ _ (h.env t) h2⟩
    rw [List.mapM_cons, hf1]
    simp only [pure_bind, Sem.run_bind, h1, Result.andThen_ok]
    rfl
  | .cell t ty :: rs, avs, hm => by
    simp only [resL, Option.bind_eq_some_iff, Option.map_eq_some_iff] at hm
    obtain ⟨av, hl, as, hm, rfl⟩ := hm
    obtain ⟨us, h1, h2⟩ := run_resL hT h f hf1 hf2 hm
    obtain ⟨v, h3, h4⟩ := opLoad_ok hT h (h.env t) hl
    refine ⟨v :: us, ?_, .cons _ _ _ _ h4 h2⟩
    rw [List.mapM_cons, hf2]
    rw [Sem.run_bind, loadAt_as h3]
    simp only [Sem.run_bind, h1, Result.andThen_ok]
    rfl

theorem run_resG (hT : T.ok P = true) {a : Act} (h : RelG B G s a w) {rs : Array ResultVar} {avs : List AV} (hm : resL T s rs.toList = some avs) (f : ResultVar → Sem Value) (hf1 : ∀ t, f (.tmp t) = pure (a.tmps.getD t undef)) (hf2 : ∀ t ty, f (.cell t ty) = do loadVar ty (← asAddr (a.tmps.getD t undef))) :
    ∃ us v, (do let vs ← rs.mapM f; pure (if h : vs.size = 1 then vs[0] else .tuple vs) : Sem Value).run P w = .ok v w ∧ AVRL w G s.heap (Ban B.F G s.heap) us avs ∧ ((∃ u, us = [u] ∧ v = u) ∨ (us.length ≠ 1 ∧ v = .tuple us.toArray)) := by
  obtain ⟨us, h1, h2⟩ := run_resL hT h f hf1 hf2 hm
  have h3 : (rs.mapM f).run P w = .ok us.toArray w := by
    rw [Array.mapM_eq_mapM_toList, Sem.run_map, h1]
    rfl
  rw [Sem.run_bind, h3, Result.andThen_ok]
  by_cases hl : us.length = 1
  · obtain ⟨u, rfl⟩ := List.length_eq_one_iff.1 hl
    exact ⟨_, _, rfl, h2, .inl ⟨u, rfl, rfl⟩⟩
  · refine ⟨us, _, rfl, h2, .inr ⟨hl, ?_⟩⟩
    rw [dif_neg (by simpa using hl)]

theorem run_results (hT : T.ok P = true) {a : Act} (h : RelG B G s a w) {fn : Func} {avs : List AV} (hm : resL T s fn.results.toList = some avs) :
    ∃ us v, (results fn a.tmps).run P w = .ok v w ∧ AVRL w G s.heap (Ban B.F G s.heap) us avs ∧ ((∃ u, us = [u] ∧ v = u) ∨ (us.length ≠ 1 ∧ v = .tuple us.toArray)) := by
  unfold results
  exact run_resG hT h hm _ (fun _ => rfl) (fun _ _ => rfl)
end rel
end Go.Fs
namespace Go.Fs
open Go.RowKit

def EndQ (T : Tab) (B : Ctx) (rs : List ResultVar) (out : Ret) : Exit → Act → World → Prop := fun e a w => (e = .normal ∨ e = .ret) ∧ ∃ G s, RelG B G s a w ∧ outR T s B.aa rs = some out

section rel
variable {P : Program} {T : Tab} {B : Ctx} {G : Nat → GI} {s : St} {a : Act} {w w' : World}

theorem leave_ok (hT : T.ok P = true) (h : RelG B G s a w') {fn : Func} {rs : List ResultVar} (hr : fn.results.toList = rs) {out : Ret} (ho : outR T s B.aa rs = some out) {args : List Value} {Sd M : List Nat}
    (hbase : B.base = w.heap.size) (hw0 : B.w0 = w) (hF : ∀ b, B.F b ↔ (nG ≤ b ∧ b < w.heap.size ∧ b ∉ Sd ∧ b ∉ M)) (hM : ∀ b, B.M b ↔ b ∈ M) (hav : B.aa ≠ .x → ∃ vs, args = B.av :: vs) :
    ∃ v, (results fn a.tmps).run P w' = .ok v w' ∧ Post w args Sd M out v w' := by
  simp only [outR, Option.bind_eq_some_iff] at ho
  obtain ⟨as0, m0, ⟨avs, H1⟩, m1, ⟨ds, f, H2⟩, m2, ho⟩ := ho
  obtain ⟨us, v, hv, hus, hvs⟩ := run_results hT h (hr ▸ m0)
  refine ⟨v, hv, ?_⟩
  obtain ⟨e1, v1, l1⟩ := demAll_ok h hus m1
  obtain ⟨M2, S, t2, o2, n2, w2⟩ := moveVs_ok (s := { s with heap := H1 }) e1.rel v1 m2
  have hlen : ds.length = us.length := by rw [← t2.length]
  -- the answer
  have hret : ∀ {fl : Bool} {S : List Nat}, TrL w' fl us ds S → ∃ S', Tr w' fl v (packD ds) S' ∧ (∀ b, b ∈ S' ↔ b ∈ S) ∧ (S.Nodup → S'.Nodup) := by
    intro fl S ht
    rcases hvs with ⟨t, rfl, rfl⟩ | ⟨h1, rfl⟩
    · cases ht with
      | cons _ d S1 _ ds1 S2 ht hts =>
        cases hts
        exact ⟨S1, ht, by simp, by simp⟩
    · have : packD ds = .t ds := by
        match ds, hlen with
        | [], _ => rfl
        | [d], hl => exact absurd hl.symm h1
        | _ :: _ :: _, _ => rfl
      rw [this]
      exact ⟨S, .t _ _ _ (by simpa using ht), fun _ => Iff.rfl, fun h => h⟩
  have hfl : RetFlat v := by
    rcases hvs with ⟨t, rfl, rfl⟩ | ⟨_, rfl⟩
    · exact .inl (o2 _ (by simp))
    · exact .inr ⟨_, rfl, by simpa using o2⟩
  have hge : ∀ b, Own G H1 b → w.heap.size ≤ b ∨ b ∈ M := fun b ⟨k, hk⟩ => by
    have := e1.rel.ge k b hk
    rw [hbase] at this
    exact this.imp id (hM b).1
  have hrest : Rest w w' := hw0 ▸ h.rest
  have hkeep : ∀ b, b < w.heap.size → b ∉ M → w'.heap[b]? = w.heap[b]? := fun b hb hn => by
    rw [← hw0]
    exact h.below b (hbase ▸ hb) fun hm => hn ((hM b).1 hm)
  have hnF : ∀ {b : Nat}, ¬ B.F b → w.heap.size ≤ b ∨ b ∈ Sd ∨ b ∈ M ∨ b < nG := fun {b} hn => by
    rcases Nat.lt_or_ge b w.heap.size with h1 | h1
    · by_cases h2 : b ∈ Sd
      · exact .inr (.inl h2)
      · by_cases h3 : b ∈ M
        · exact .inr (.inr (.inl h3))
        · rcases Nat.lt_or_ge b nG with h4 | h4
          · exact .inr (.inr (.inr h4))
          · exact absurd ((hF b).2 ⟨h4, h1, h2, h3⟩) hn
    · exact .inl h1
  split at ho
  · rename_i haa
    simp only [Option.some.injEq] at ho
    subst ho
    obtain ⟨S', r1, r2, r3⟩ := hret t2
    refine ⟨hrest, hkeep, S', [], r1, hfl, rfl, List.nodup_nil, by simp, by simp, fun hf => ?_, fun b hb => hnF fun hf => n2 b ((r2 b).1 hb) (.inr hf)⟩
    obtain ⟨q1, q2⟩ := w2 hf
    exact ⟨r3 q1, fun b hb => hge b (q2 b ((r2 b).1 hb))⟩
  · rename_i haa
    split at ho
    case isFalse => cases ho
    rename_i hf
    have hf : f = true := hf
    subst hf
    simp only [Option.bind_eq_some_iff] at ho
    obtain ⟨⟨x', f', H3⟩, m3, ho⟩ := ho
    split at ho
    case isFalse => cases ho
    rename_i hf'
    have hf' : f' = true := hf'
    subst hf'
    simp only [Option.some.injEq] at ho
    subst ho
    obtain ⟨S', r1, r2, r3⟩ := hret t2
    obtain ⟨M3, S3, t3, o3, n3, w3⟩ := moveV_ok (s := { s with heap := H2 }) M2.rel (M2.avr (e1.rel.anc)) m3
    obtain ⟨q1, q2⟩ := w2 rfl
    obtain ⟨q3, q4⟩ := w3 rfl
    obtain ⟨vs, hargs⟩ := hav haa
    refine ⟨hrest, hkeep, S', S3, r1, hfl, ⟨_, vs, hargs, t3⟩, q3, fun b hb => hge b (M2.own b (q4 b hb)), fun b hb hb3 => ?_, fun _ => ⟨r3 q1, fun b hb => hge b (q2 b ((r2 b).1 hb))⟩, fun b hb => hnF fun hf => n2 b ((r2 b).1 hb) (.inr hf)⟩
    exact n2 b ((r2 b).1 hb) (.inl (q4 b hb3))

theorem fnOK_of (hT : T.ok P = true) {f : FuncId} {fn : Func} {c : Code} (hf : P.funcs[f]? = some fn) (hb : fn.body = some c) (hnm : (fn.name == "runtime.NumGoroutine") = false) {rs : List ResultVar} (hres : fn.results.toList = rs)
    {ins : List In} (hi : insOK ins = true) (hn : ins.length ≤ fn.ntmps) {out : Ret} (hbody : ∀ B G a w, RelG B G (inSt fn.ntmps ins) a w → B.aa = ancA ins → c.wp P (EndQ T B rs out) a w) : FnOK P f ins out := by
  intro w args Sd M hkn ha hM hd
  obtain ⟨B, G, hrel, h1, h2, h3, h4, h5, h6⟩ := enter_rel hi hkn ha hM hd hn
  refine .inl ⟨?_, ?_⟩
  · have : ¬ fn.name = "runtime.NumGoroutine" := by simpa using hnm
    simp [callFunc, hf, hb, this]
  · refine calls_of_wp hf hb (wp_mono (hbody B G _ w hrel h5) fun e a' w' he => ?_)
    obtain ⟨he, G', s', hr, ho⟩ := he
    obtain ⟨v, hv, hp⟩ := leave_ok hT (w := w) (args := args) (Sd := Sd) (M := M) hr hres ho h1 h2 h3 h4 (fun hx => by
      cases ins with
      | nil => rw [h5] at hx; exact absurd rfl hx
      | cons i rest =>
        cases i with
        | d x => rw [h5] at hx; exact absurd rfl hx
        | io x => obtain ⟨vs, e, _⟩ := h6 x rest rfl; exact ⟨vs, e⟩)
    rcases he with rfl | rfl
    · exact ⟨hr.defers, v, hv, hp⟩
    · exact ⟨hr.defers, v, hv, hp⟩
end rel
end Go.Fs
namespace Go.Fs
open Go.RowKit

mutual
def mapA (ren : List (Nat × Nat)) : AV → AV
  | .d x => .d x
  | .z n => .z n
  | .r k => match ren.lookup k with | some k' => .r k' | none => .x
  | .a k o => match ren.lookup k with | some k' => .a k' o | none => .x
  | .e k i o => match ren.lookup k with | some k' => .e k' i o | none => .x
  | .m k ve i o => match ren.lookup k with | some k' => .m k' ve i o | none => .x
  | .q cs o => .q cs o
  | .g cs => .g (mapL ren cs)
  | .f fn caps => .f fn (mapL ren caps)
  | .t vs => .t (mapL ren vs)
  | .mp k => match ren.lookup k with | some k' => .mp k' | none => .x
  | .x => .x
  | .nl => .nl
  | .bp k => match ren.lookup k with | some k' => .bp k' | none => .x
def mapL (ren : List (Nat × Nat)) : List AV → List AV
  | [] => []
  | a :: as => mapA ren a :: mapL ren as
end
def mapOb (ren : List (Nat × Nat)) : Ob → Ob
  | .row sz xs dp fz ve => .row sz xs dp fz ve
  | .box cs => .box (mapL ren cs)
  | .map kv => .map kv
  | .bld s => .bld s
  | .dead => .dead
def oldK (ren : List (Nat × Nat)) (k' : Nat) : Option Nat := (ren.map fun x => (x.2, x.1)).lookup k'
def wkH (ren : List (Nat × Nat)) (H : Nat → Option Ob) : Nat → Option Ob := fun k' => match oldK ren k' with
  | some k => match H k with
    | some o => some (mapOb ren o)
    | none => none
  | none => none
def wk (live : List Nat) (ren : List (Nat × Nat)) (s : St) : St :=
  { n := s.n, env := fun t => if live.contains t then mapA ren (s.env t) else .x, heap := wkH ren s.heap }
def nodupB : List Nat → Bool
  | [] => true
  | x :: xs => !xs.contains x && nodupB xs
def renOK (ren : List (Nat × Nat)) : Bool := nodupB (ren.map (·.1)) && nodupB (ren.map (·.2))
def wkG (ren : List (Nat × Nat)) (G : Nat → GI) : Nat → GI := fun k' => match oldK ren k' with
  | some k => G k
  | none => default

theorem nodupB_ok : ∀ {l : List Nat}, nodupB l = true → l.Nodup
  | [], _ => List.nodup_nil
  | x :: xs, h => by
    simp only [nodupB, Bool.and_eq_true, Bool.not_eq_true', List.contains_eq_mem] at h
    exact List.nodup_cons.2 ⟨by simpa using h.1, nodupB_ok h.2⟩

section rel
variable {P : Program} {T : Tab} {B : Ctx} {G : Nat → GI} {s : St} {a : Act} {w w' : World} {ren : List (Nat × Nat)}

theorem oldK_of (h : renOK ren = true) {k k' : Nat} (hk : ren.lookup k = some k') : oldK ren k' = some k := by
  simp only [renOK, Bool.and_eq_true] at h
  refine lookup_of_mem ?_ ?_
  · rw [List.map_map]; exact nodupB_ok h.2
  · exact List.mem_map.2 ⟨(k, k'), lookup_mem hk, rfl⟩
theorem of_oldK (h : renOK ren = true) {k k' : Nat} (hk : oldK ren k' = some k) : ren.lookup k = some k' := by
  simp only [renOK, Bool.and_eq_true] at h
  refine lookup_of_mem (nodupB_ok h.1) ?_
  obtain ⟨x, hx, e⟩ := List.mem_map.1 (lookup_mem hk)
  cases e
  exact hx
theorem wkH_of (h : renOK ren = true) {H : Nat → Option Ob} {k k' : Nat} (hk : ren.lookup k = some k') {o : Ob} (ho : H k = some o) : wkH ren H k' = some (mapOb ren o) := by
  simp [wkH, oldK_of h hk, ho]
theorem wkG_of (h : renOK ren = true) {k k' : Nat} (hk : ren.lookup k = some k') : wkG ren G k' = G k := by
  simp [wkG, oldK_of h hk]
theorem wkH_inv {H : Nat → Option Ob} {k' : Nat} {o : Ob} (ho : wkH ren H k' = some o) : ∃ k o', oldK ren k' = some k ∧ H k = some o' ∧ o = mapOb ren o' := by
  unfold wkH at ho
  split at ho
  case h_2 => cases ho
  rename_i k hk
  split at ho
  case h_2 => cases ho
  rename_i o' ho'
  cases ho
  exact ⟨k, o', hk, ho', rfl⟩
theorem ownOf_map (g : GI) (o : Ob) : ownOf g (some (mapOb ren o)) = ownOf g (some o) := by cases o <;> rfl
theorem own_wk {H : Nat → Option Ob} {k' b : Nat} (hb : b ∈ ownOf (wkG ren G k') (wkH ren H k')) : ∃ k, oldK ren k' = some k ∧ b ∈ ownOf (G k) (H k) := by
  cases ho : wkH ren H k' with
  | none => rw [ho] at hb; simp [ownOf] at hb
  | some o =>
    obtain ⟨k, o', h1, h2, rfl⟩ := wkH_inv ho
    rw [ho, ownOf_map] at hb
    have : wkG ren G k' = G k := by simp [wkG, h1]
    rw [this] at hb
    exact ⟨k, h1, by rw [h2]; exact hb⟩

theorem AVR.wk_both (hr : renOK ren = true) {H : Nat → Option Ob} {Av Av' : Nat → Prop} (hA : ∀ b, Av' b → Av b) :
    (∀ {v : Value} {av : AV}, AVR w G H Av v av → AVR w (wkG ren G) (wkH ren H) Av' v (mapA ren av)) ∧ (∀ {vs : List Value} {as : List AV}, AVRL w G H Av vs as → AVRL w (wkG ren G) (wkH ren H) Av' vs (mapL ren as)) := by
  have key : ∀ {v : Value} {av : AV}, AVR w G H Av v av → AVR w (wkG ren G) (wkH ren H) Av' v (mapA ren av) := by
    intro v av h
    have look : ∀ (k : Nat) {f : Nat → AV} {v : Value}, (∀ k', ren.lookup k = some k' → wkG ren G k' = G k → AVR w (wkG ren G) (wkH ren H) Av' v (f k')) → AVR w (wkG ren G) (wkH ren H) Av' v (match ren.lookup k with | some k' => f k' | none => .x) := by
      intro k f v hf
      cases e : ren.lookup k with
      | none => exact .x _
      | some k' => exact hf k' e (wkG_of hr e)
    refine AVR.rec (w := w) (G := G) (H := H) (Av := Av) (motive_1 := fun v av _ => AVR w (wkG ren G) (wkH ren H) Av' v (mapA ren av)) (motive_2 := fun vs as _ => AVRL w (wkG ren G) (wkH ren H) Av' vs (mapL ren as))
      ?_ ?_ ?_ ?_ ?_ ?_ ?_ ?_ ?_ ?_ ?_ ?_ ?_ ?_ ?_ ?_ ?_ ?_ ?_ ?_ ?_ ?_ h
    · intro v x S h1 h hS
      exact .d v x S h1 h fun b hb hn => hS b hb (hA b hn)
    · intro sz; exact .z sz
    · intro k sz xs dp fz ve a hk ha
      refine look k fun k' e eg => ?_
      rw [← eg]
      exact .r k' sz xs dp fz ve a (wkH_of hr e hk) (by rw [eg]; exact ha)
    · intro k v hk
      exact look k fun k' e eg => .rd k' v (wkH_of hr e hk)
    · intro k o cs hk
      refine look k (f := fun k' => .a k' o) fun k' e eg => ?_
      rw [← eg]
      exact .a k' o _ (wkH_of hr e hk)
    · intro k o v hk
      exact look k (f := fun k' => .a k' o) fun k' e eg => .ad k' o v (wkH_of hr e hk)
    · intro k i o sz xs dp fz ve hk hi
      refine look k (f := fun k' => .e k' i o) fun k' e eg => ?_
      rw [← eg]
      exact .e k' i o sz xs dp fz ve (wkH_of hr e hk) hi
    · intro k i o v hk
      exact look k (f := fun k' => .e k' i o) fun k' e eg => .ed k' i o v (wkH_of hr e hk)
    · intro k i o sz xs dp fz ve v z ys hk hj hv h1
      exact look k (f := fun k' => .m k' ve i o) fun k' e eg => .m k' i o sz xs dp fz ve v z ys (wkH_of hr e hk) hj (by rw [eg]; exact hv) h1
    · intro k i o sz xs dp fz ve ve1 v hk hlt
      exact look k (f := fun k' => .m k' ve i o) fun k' e eg => .mo k' i o sz xs dp fz ve ve1 v (wkH_of hr e hk) hlt
    · intro k ve i o v hk
      exact look k (f := fun k' => .m k' ve i o) fun k' e eg => .md k' ve i o v (wkH_of hr e hk)
    · intro g base o cur el fr vs cs S hg hv h1 h hb hS
      exact .q g base o cur el fr vs cs S hg hv h1 h (fun hn => hb (hA _ hn)) fun b hb hn => hS b hb (hA b hn)
    · intro cs as _ ih; exact .g cs _ ih
    · intro fn cs as _ ih; exact .f fn cs _ ih
    · intro vs as _ ih; exact .t vs _ ih
    · intro k kv hk
      refine look k (f := fun k' => .mp k') fun k' e eg => ?_
      rw [← eg]
      exact .mp k' _ (wkH_of hr e hk)
    · intro k v hk
      exact look k (f := fun k' => .mp k') fun k' e eg => .mpd k' v (wkH_of hr e hk)
    · intro k s hk
      refine look k (f := fun k' => .bp k') fun k' e eg => ?_
      rw [← eg]
      exact .bp k' _ (wkH_of hr e hk)
    · intro k v hk
      exact look k (f := fun k' => .bp k') fun k' e eg => .bpd k' v (wkH_of hr e hk)
    · intro v; exact .x v
    · exact .nil
    · intro v av vs as _ _ ih ihs; exact .cons v _ vs _ ih ihs
  refine ⟨key, fun {vs as} h => ?_⟩
  have := key (.t vs.toArray as (by simpa using h))
  cases this with
  | t _ _ h => simpa using h

theorem RelG.wk (h : RelG B G s a w) (live : List Nat) (hr : renOK ren = true) (ha : mapA ren B.aa = B.aa) : RelG B (wkG ren G) (wk live ren s) a w := by
  have hA : ∀ b, Ban B.F (wkG ren G) (wkH ren s.heap) b → Ban B.F G s.heap b := by
    rintro b (⟨k, hk⟩ | hf)
    · obtain ⟨k0, _, hm⟩ := own_wk hk
      exact .inl ⟨k0, hm⟩
    · exact .inr hf
  have hav := AVR.wk_both (w := w) (G := G) (H := s.heap) (ren := ren) hr hA
  refine ⟨?_, fun t => ?_, h.size, h.defers, fun k => ?_, fun k k' b hb hb' => ?_, fun k b hb => ?_, h.rest, h.below, h.ban, h.base, ?_⟩
  · intro k' o ho
    obtain ⟨k, o', h1, h2, rfl⟩ := wkH_inv ho
    have hg : wkG ren G k' = G k := by simp [wkG, h1]
    rw [hg]
    have hob := h.obj k o' h2
    cases o' with
    | row sz xs dp fz ve =>
      obtain ⟨c1, c2, c3, c4, c5, c6, c7, c8, c9, c10⟩ := hob
      exact ⟨c1, c2, c3, c4, c5, c6, c7, c8, fun hd b hb hn => c9 hd b hb (hA b hn), fun hf hp hn => c10 hf hp (hA _ hn)⟩
    | box cs =>
      obtain ⟨cur, e, c1, c2, c3⟩ := hob
      exact ⟨cur, e, c1, hav.2 c2, c3⟩
    | map kv => exact hob
    | bld s => exact hob
    | dead => trivial
  · show AVR w _ _ _ _ (if live.contains t then mapA ren (s.env t) else .x)
    split
    · exact hav.1 (h.env t)
    · exact .x _
  · show (ownOf (wkG ren G k) (wkH ren s.heap k)).Nodup
    cases ho : wkH ren s.heap k with
    | none => simp [ownOf]
    | some o =>
      obtain ⟨k0, o', h1, h2, rfl⟩ := wkH_inv ho
      have hg : wkG ren G k = G k0 := by simp [wkG, h1]
      rw [hg, ownOf_map, ← h2]
      exact h.nodup k0
  · obtain ⟨k1, e1, m1⟩ := own_wk hb
    obtain ⟨k2, e2, m2⟩ := own_wk hb'
    have := h.disj k1 k2 b m1 m2
    subst this
    have a1 := of_oldK hr e1
    have a2 := of_oldK hr e2
    rw [a1] at a2
    exact Option.some.inj a2
  · obtain ⟨k1, _, m1⟩ := own_wk hb
    exact h.ge k1 b m1
  · have := hav.1 h.anc
    rw [ha] at this
    exact this
end rel
end Go.Fs
namespace Go.Fs
open Go.RowKit

section rel
variable {P : Program} {T : Tab} {B : Ctx} {G : Nat → GI} {s : St} {a : Act} {w w' : World}

theorem call_nest (h : RelG B G s a w) {f : FuncId} {k ve i o sz : Nat} {xs : List (List D)} (hk : s.heap k = some (.row sz xs true false ve)) (hi : i < xs.length) (ho : o < sz)
    {v : Value} (hv : AVR w G s.heap (Ban B.F G s.heap) v (.m k ve i o)) {rest : List AV} {vs : List Value} (hrest : AVRL w G s.heap (Ban B.F G s.heap) vs rest) {ds : List D} (hb : borL s.heap rest = some ds)
    (hdis : k ∉ rest.flatMap (keyA s.heap)) {ret y : D} (hf : FnOK P f (.io ((xs.getD i []).getD o .u) :: ds.map .d) { ret := ret, io := some y })
    {key : Nat} (hfree : ∀ x ∈ adObs key (partsD ret), s.heap x.1 = none) :
    Does P f (v :: vs).toArray w fun u w' => ∃ G', RelG B G' { s with heap := ovr ((k, .row sz (setCell xs i o y) true false (ve + 1)) :: adObs key (partsD ret)) s.heap } a w' ∧
      AVR w' G' (ovr ((k, .row sz (setCell xs i o y) true false (ve + 1)) :: adObs key (partsD ret)) s.heap) (Ban B.F G' (ovr ((k, .row sz (setCell xs i o y) true false (ve + 1)) :: adObs key (partsD ret)) s.heap)) u (retAV ret (adCells key (partsD ret))) := by
  have hR : RowR w (Ban B.F G s.heap) (G k) sz xs true false := h.obj k _ hk
  have hc : (G k).cap ≠ 0 := by have := hR.cap; omega
  have hownk : ∀ b, b ∈ ownOf (G k) (s.heap k) ↔ b = (G k).blk ∨ b ∈ (G k).sub := fun b => by rw [hk]; simp [ownOf, hc]
  have hnd := h.nodup k
  rw [hk] at hnd
  have hnd : (G k).blk ∉ (G k).sub ∧ (G k).sub.Nodup := by simpa [ownOf, hc] using hnd
  -- the list handed over
  have hcell := cell_get hR.uni hi ho
  obtain ⟨v', S1, Sm, S2, e1, t1, eS, back⟩ := hR.tr.at hcell
  obtain ⟨rfl, h1⟩ : v' = v ∧ v.oneCell' = true := by
    cases hv with
    | m _ _ _ sz' xs' dp fz _ _ z ys hk' hj hv' h1 =>
      rw [hk] at hk'; cases hk'
      rw [e1] at hv'
      exact ⟨Option.some.inj hv', h1⟩
    | mo _ _ _ sz' xs' dp fz _ ve' _ hk' hlt => rw [hk] at hk'; cases hk'; omega
    | md _ _ _ _ _ hk' => rw [hk] at hk'; cases hk'
  have hsub : ∀ b, b ∈ (G k).sub ↔ b ∈ S1 ∨ b ∈ Sm ∨ b ∈ S2 := fun b => by rw [eS]; simp
  have hnS := hnd.2
  rw [eS] at hnS
  obtain ⟨n1, n2, n3⟩ := List.nodup_append.1 hnS
  obtain ⟨n4, n5, n6⟩ := List.nodup_append.1 n2
  obtain ⟨Sd, u1, u2⟩ := borL_ok h hrest hb
  refine (hf w _ Sd (Sm ++ []) (h.knW fun b hb => ⟨k, (hownk b).2 (.inr ((hsub b).2 (.inr (.inl (by simpa using hb)))))⟩) (.io v' _ Sm vs _ Sd [] t1 (flat_one h1) u1) (by simpa using n4) fun b hb hbd => ?_).mono fun u w' hp => ?_
  · have hb : b ∈ Sm := by simpa using hb
    exact hdis ((u2 b hbd).2 k ((hownk b).2 (.inr ((hsub b).2 (.inr (.inl hb))))))
  obtain ⟨hr, hkeep, S', Si, r1, r2, r3, r4, r5, r6, r7, _⟩ := hp
  obtain ⟨r7, r8⟩ := r7 rfl
  obtain ⟨v1, vs1, e, ht⟩ := r3
  simp only [List.cons.injEq] at e
  obtain ⟨rfl, rfl⟩ := e
  simp only [List.append_nil] at hkeep r5 r8
  have hlt : ∀ b, b ∈ ownOf (G k) (s.heap k) → b < w.heap.size := fun b hb => h.own_lt ⟨k, hb⟩
  have hblk : (G k).blk < w.heap.size := hlt _ ((hownk _).2 (.inl rfl))
  have hSub : ∀ b ∈ (G k).sub, b < w.heap.size := fun b hb => hlt _ ((hownk _).2 (.inr hb))
  have hblkm : (G k).blk ∉ Sm := fun hb => hnd.1 ((hsub _).2 (.inr (.inl hb)))
  have hS1m : ∀ b ∈ S1, b ∉ Sm := fun b hb hb' => n3 b hb b (by simp [hb']) rfl
  have hS2m : ∀ b ∈ S2, b ∉ Sm := fun b hb hb' => n6 b hb' b hb rfl
  have hS12 : ∀ b ∈ S1, b ∉ S2 := fun b hb hb' => n3 b hb b (by simp [hb']) rfl
  have hcellsd := cells_tr ht (flat_one h1)
  have back' : TrL w' true (G k).vs (xs.flatten.set (i * sz + o) y) (S1 ++ (Si ++ S2)) := back ht fun b hb => by
    rcases hb with hb | hb
    · exact hkeep b (hSub b ((hsub b).2 (.inl hb))) (hS1m b hb)
    · exact hkeep b (hSub b ((hsub b).2 (.inr (.inr hb)))) (hS2m b hb)
  have hSi1 : ∀ b ∈ Si, b ∉ S1 := fun b hb hb' => (r5 b hb).elim (fun h1 => by have := hSub b ((hsub b).2 (.inl hb')); omega) fun h1 => hS1m b hb' h1
  have hSi2 : ∀ b ∈ Si, b ∉ S2 := fun b hb hb' => (r5 b hb).elim (fun h1 => by have := hSub b ((hsub b).2 (.inr (.inr hb'))); omega) fun h1 => hS2m b hb' h1
  have hSiblk : (G k).blk ∉ Si := fun hb => (r5 _ hb).elim (fun h1 => by omega) hblkm
  have hS'1 : ∀ b ∈ S', b ∉ S1 := fun b hb hb' => (r8 b hb).elim (fun h1 => by have := hSub b ((hsub b).2 (.inl hb')); omega) fun h1 => hS1m b hb' h1
  have hS'2 : ∀ b ∈ S', b ∉ S2 := fun b hb hb' => (r8 b hb).elim (fun h1 => by have := hSub b ((hsub b).2 (.inr (.inr hb'))); omega) fun h1 => hS2m b hb' h1
  have hS'blk : (G k).blk ∉ S' := fun hb => (r8 _ hb).elim (fun h1 => by omega) hblkm
  let gi : GI := { (G k) with sub := S1 ++ (Si ++ S2) }
  have hrow : ∀ Av, RowR w' Av gi sz (setCell xs i o y) true false := fun Av => by
    refine ⟨fun _ => ?_, by rw [setCell_len]; exact hR.cap, hR.max, by rw [setCell_len]; exact hR.len, hR.one, setCell_uni hR.uni hi o y, by rw [setCell_flat hR.uni y hi ho]; exact back', fun _ => ?_, by simp, by simp⟩
    · obtain ⟨cur, e, c1, c2, c3⟩ := hR.cells (by omega)
      exact ⟨cur, e, (hkeep _ hblk hblkm).trans c1, c2, c3⟩
    · refine List.nodup_append.2 ⟨n1, List.nodup_append.2 ⟨r4, n5, fun x hx y hy e => ?_⟩, fun x hx y hy e => ?_⟩
      · subst e; exact hSi2 x hx hy
      · subst e
        rcases List.mem_append.1 hy with hy | hy
        · exact hSi1 x hy hx
        · exact hS12 x hx hy
  have hgi : ∀ b, b ∈ ownOf gi (some (.row sz (setCell xs i o y) true false (ve + 1))) ↔ b = (G k).blk ∨ b ∈ S1 ∨ b ∈ Si ∨ b ∈ S2 := fun b => by simp [ownOf, gi, hc]
  have hgn : (ownOf gi (some (.row sz (setCell xs i o y) true false (ve + 1)))).Nodup := nodup_ownRow fun _ => by
    refine ⟨fun hb => ?_, (hrow fun _ => False).nodup rfl⟩
    have hb : (G k).blk ∈ S1 ++ (Si ++ S2) := hb
    simp only [List.mem_append] at hb
    rcases hb with hb | hb | hb
    · exact hnd.1 ((hsub _).2 (.inl hb))
    · exact hSiblk hb
    · exact hnd.1 ((hsub _).2 (.inr (.inr hb)))
  obtain ⟨us, p1, p2, p3⟩ := parts_tr r1 r2
  obtain ⟨L2, b1, b2, b3, b4⟩ := adEnts p1 r7 p2 key
  have hfree2 : ∀ x ∈ L2, s.heap x.1 = none := fun x hx => hfree (x.1, x.2.2) (by rw [← b1]; exact List.mem_map.2 ⟨x, hx, rfl⟩)
  have hkL : k ∉ L2.map (·.1) := fun hm => by
    obtain ⟨x, hx, e⟩ := List.mem_map.1 hm
    have := hfree2 x hx
    rw [e, hk] at this; cases this
  have hS'gi : ∀ b ∈ S', b ∉ ownOf gi (some (.row sz (setCell xs i o y) true false (ve + 1))) := fun b hb hm => by
    rcases (hgi b).1 hm with rfl | hm | hm | hm
    · exact hS'blk hb
    · exact hS'1 b hb hm
    · exact r6 b hb hm
    · exact hS'2 b hb hm
  have hkeys : (((k, gi, Ob.row sz (setCell xs i o y) true false (ve + 1)) :: L2).map (·.1)).Nodup := by
    rw [List.map_cons]; exact List.nodup_cons.2 ⟨hkL, b3.keys⟩
  obtain ⟨hrel, havr⟩ := h.steps ((k, gi, .row sz (setCell xs i o y) true false (ve + 1)) :: L2) hkeys hr (fun b hb hn => hkeep b hb fun hbS => by
      refine hn (k, gi, .row sz (setCell xs i o y) true false (ve + 1)) (by simp) ?_
      exact (hownk b).2 (.inr ((hsub b).2 (.inr (.inl hbS))))) (fun x hx o' ho' => by
      rcases List.mem_cons.1 hx with rfl | hx
      · have ho' : s.heap k = some o' := ho'
        rw [hk] at ho'; cases ho'
        exact .row _ _ _ _ _ _ _ _ _ (setCell_len ..) rfl rfl rfl (.inl (Nat.lt_succ_self _))
      · have := hfree2 x hx; rw [ho'] at this; cases this) (fun x hx b hb => by
      rcases List.mem_cons.1 hx with rfl | hx
      · have mine : ∀ {b}, b ∈ ownOf (G k) (s.heap k) → ∃ y' ∈ (k, gi, Ob.row sz (setCell xs i o y) true false (ve + 1)) :: L2, b ∈ ownOf (G y'.1) (s.heap y'.1) := fun {b} hb => ⟨_, List.mem_cons_self, hb⟩
        rcases (hgi b).1 hb with rfl | hm | hm | hm
        · exact .inl (mine ((hownk _).2 (.inl rfl)))
        · exact .inl (mine ((hownk _).2 (.inr ((hsub _).2 (.inl hm)))))
        · rcases r5 b hm with h1 | h1
          · exact .inr h1
          · exact .inl (mine ((hownk _).2 (.inr ((hsub _).2 (.inr (.inl h1))))))
        · exact .inl (mine ((hownk _).2 (.inr ((hsub _).2 (.inr (.inr hm))))))
      · rcases r8 b (b3.sub x hx b hb) with h1 | h1
        · exact .inr h1
        · exact .inl ⟨_, List.mem_cons_self, (hownk _).2 (.inr ((hsub _).2 (.inr (.inl h1))))⟩) (fun x hx => by
      rcases List.mem_cons.1 hx with rfl | hx
      · exact hgn
      · exact b3.nd x hx) (fun x hx y' hy b hb hb' => by
      rcases List.mem_cons.1 hx with rfl | hx <;> rcases List.mem_cons.1 hy with rfl | hy
      · rfl
      · exact absurd hb (hS'gi b (b3.sub y' hy b hb'))
      · exact absurd hb' (hS'gi b (b3.sub x hx b hb))
      · exact b3.dis x hx y' hy b hb hb') (fun x hx => by
      rcases List.mem_cons.1 hx with rfl | hx
      · exact hrow _
      · obtain ⟨sz', xs', ve', e, hR'⟩ := b3.row x hx
        rw [e]
        exact hR' _)
  have hmapO : ((k, gi, Ob.row sz (setCell xs i o y) true false (ve + 1)) :: L2).map (fun x => (x.1, x.2.2)) = (k, .row sz (setCell xs i o y) true false (ve + 1)) :: adObs key (partsD ret) := by rw [List.map_cons, b1]
  rw [hmapO] at hrel havr
  refine ⟨_, hrel, p3 (b4 _ _ _ (fun x hx => ?_) fun b hb hba => ?_)⟩
  · have hx' : x ∈ (k, gi, Ob.row sz (setCell xs i o y) true false (ve + 1)) :: L2 := by simp [hx]
    exact ⟨ovG_in hkeys hx', by rw [← hmapO]; exact ovr_in hkeys hx'⟩
  · rw [← hmapO] at hba
    rcases hba with ⟨j, hm⟩ | hF
    · by_cases hj : j ∈ ((k, gi, Ob.row sz (setCell xs i o y) true false (ve + 1)) :: L2).map (·.1)
      · obtain ⟨x, hx, rfl⟩ := List.mem_map.1 hj
        rw [ovG_in hkeys hx, ovr_in hkeys hx] at hm
        rcases List.mem_cons.1 hx with rfl | hx
        · exact absurd hm (hS'gi b hb)
        · exact ⟨x, hx, hm⟩
      · rw [ovG_out hj, ovr_out hj] at hm
        exfalso
        rcases r8 b hb with h1 | h1
        · have := h.own_lt ⟨j, hm⟩; omega
        · refine hj (List.mem_map.2 ⟨_, List.mem_cons_self, h.disj k j b ((hownk b).2 (.inr ((hsub b).2 (.inr (.inl h1))))) hm⟩)
    · exfalso
      rcases r8 b hb with h1 | h1
      · have := (h.ban b hF).1
        have := h.base
        omega
      · exact h.noF (k := k) ((hownk b).2 (.inr ((hsub b).2 (.inr (.inl h1))))) hF
end rel
end Go.Fs
namespace Go.Fs
open Go.RowKit

def moveM (H : Nat → Option Ob) : AV → Option (D × Bool × (Nat → Option Ob))
  | .m k ve i o => match H k with
    | some (.row sz xs true false ve') => if ve' = ve ∧ o < sz then (xs[i]?).bind fun cs => (cs[o]?).map fun x => (x, true, upd H k (some .dead)) else none
    | _ => none
  | av => moveC H av
def moveMs (H : Nat → Option Ob) : List AV → Option (List D × Bool × (Nat → Option Ob))
  | [] => some ([], true, H)
  | av :: avs => (moveM H av).bind fun x => (moveMs x.2.2 avs).bind fun y => some (x.1 :: y.1, x.2.1 && y.2.1, y.2.2)
def moveMV (H : Nat → Option Ob) : AV → Option (D × Bool × (Nat → Option Ob))
  | .g cs => (moveMs H cs).map fun m => (.g m.1, m.2.1, m.2.2)
  | av => moveM H av
def moveMVs (H : Nat → Option Ob) : List AV → Option (List D × Bool × (Nat → Option Ob))
  | [] => some ([], true, H)
  | av :: avs => (moveMV H av).bind fun x => (moveMVs x.2.2 avs).bind fun y => some (x.1 :: y.1, x.2.1 && y.2.1, y.2.2)
def outM (T : Tab) (s : St) (rs : List ResultVar) : Option Ret := (resL T s rs).bind fun avs => (moveMVs s.heap avs).bind fun y => some { ret := packD y.1, deep := y.2.1, io := none }

def EndM (T : Tab) (B : Ctx) (rs : List ResultVar) (out : Ret) : Exit → Act → World → Prop := fun e a w => (e = .normal ∨ e = .ret) ∧ ∃ G s, RelG B G s a w ∧ outM T s rs = some out
section rel
variable {P : Program} {T : Tab} {B : Ctx} {G : Nat → GI} {s : St} {a : Act} {w w' : World}

theorem moveM_ok (h : RelG B G s a w) {v : Value} {av : AV} (hv : AVR w G s.heap (Ban B.F G s.heap) v av) {d : D} {f : Bool} {H' : Nat → Option Ob} (hm : moveM s.heap av = some (d, f, H')) :
    Moved B G s a w H' ∧ ∃ S, Tr w f v d S ∧ v.oneCell' = true ∧ (∀ b ∈ S, ¬ Ban B.F G H' b) ∧ (f = true → S.Nodup ∧ ∀ b ∈ S, Own G s.heap b) := by
  unfold moveM at hm
  split at hm
  case h_2 => exact moveC_ok h hv hm
  rename_i k ve i o
  split at hm
  case h_2 => cases hm
  rename_i sz xs ve' hk
  split at hm
  case isFalse => cases hm
  rename_i hc0
  obtain ⟨rfl, ho⟩ := hc0
  obtain ⟨cs, e8, hm⟩ := Option.bind_eq_some_iff.1 hm
  obtain ⟨x, e9, hm⟩ := Option.map_eq_some_iff.1 hm
  simp only [Prod.mk.injEq] at hm
  obtain ⟨rfl, rfl, rfl⟩ := hm
  have hi : i < xs.length := (List.getElem?_eq_some_iff.1 e8).1
  have e5 : xs.getD i [] = cs := by rw [List.getD_eq_getElem?_getD, e8]; rfl
  have e6 : cs.getD o .u = x := by rw [List.getD_eq_getElem?_getD, e9]; rfl
  have hR : RowR w (Ban B.F G s.heap) (G k) sz xs true false := h.obj k _ hk
  have hc : (G k).cap ≠ 0 := by have := hR.cap; omega
  have hownk : ∀ b, b ∈ ownOf (G k) (s.heap k) ↔ b = (G k).blk ∨ b ∈ (G k).sub := fun b => by rw [hk]; simp [ownOf, hc]
  have hnd := h.nodup k
  rw [hk] at hnd
  have hnd : (G k).blk ∉ (G k).sub ∧ (G k).sub.Nodup := by simpa [ownOf, hc] using hnd
  have hcell := cell_get hR.uni hi ho
  rw [e5, e6] at hcell
  obtain ⟨v', S1, Sm, S2, e1, t1, eS, _⟩ := hR.tr.at hcell
  obtain ⟨rfl, h1⟩ : v' = v ∧ v.oneCell' = true := by
    cases hv with
    | m _ _ _ sz' xs' dp fz _ _ z ys hk' hj hv' h1 =>
      rw [hk] at hk'; cases hk'
      rw [e1] at hv'
      exact ⟨Option.some.inj hv', h1⟩
    | mo _ _ _ sz' xs' dp fz _ ve' _ hk' hlt => rw [hk] at hk'; cases hk'; omega
    | md _ _ _ _ _ hk' => rw [hk] at hk'; cases hk'
  have hnS := hnd.2
  rw [eS] at hnS
  obtain ⟨n1, n2, n3⟩ := List.nodup_append.1 hnS
  obtain ⟨n4, n5, n6⟩ := List.nodup_append.1 n2
  have hmem : ∀ b ∈ Sm, b ∈ ownOf (G k) (s.heap k) := fun b hb => (hownk b).2 (.inr (by rw [eS]; simp [hb]))
  have hne : s.heap k ≠ none := by rw [hk]; simp
  refine ⟨⟨h.kill k hne, fun hv => hv.kill k hne, fun b hb => (own_kill hb).1, fun i => by
    by_cases e : i = k
    · subst e; exact .inr ⟨hne, upd_same ..⟩
    · exact .inl (upd_ne _ _ e)⟩, Sm, t1, h1, fun b hb hn => ?_, fun _ => ⟨n4, fun b hb => ⟨k, hmem b hb⟩⟩⟩
  rcases hn with hn | hn
  · obtain ⟨_, i', hi', hm'⟩ := own_kill hn
    exact hi' (h.disj i' k b hm' (hmem b hb))
  · exact h.noF (hmem b hb) hn

theorem moveMs_ok : ∀ {s : St} (h : RelG B G s a w) {vs : List Value} {avs : List AV} (hv : AVRL w G s.heap (Ban B.F G s.heap) vs avs) {ds : List D} {f : Bool} {H' : Nat → Option Ob} (hm : moveMs s.heap avs = some (ds, f, H')),
    Moved B G s a w H' ∧ ∃ S, TrL w f vs ds S ∧ (∀ v ∈ vs, v.oneCell' = true) ∧ (∀ b ∈ S, ¬ Ban B.F G H' b) ∧ (f = true → S.Nodup ∧ ∀ b ∈ S, Own G s.heap b) := by
  intro s h vs avs hv
  induction avs generalizing s vs with
  | nil =>
    intro ds f H' hm
    cases hv
    simp only [moveMs, Option.some.injEq, Prod.mk.injEq] at hm
    obtain ⟨rfl, rfl, rfl⟩ := hm
    exact ⟨.refl h, [], .nil, by simp, by simp, fun _ => ⟨List.nodup_nil, by simp⟩⟩
  | cons av avs ih =>
    intro ds f H' hm
    cases hv with
    | cons v _ vs _ hv hvs =>
      simp only [moveMs, Option.bind_eq_some_iff] at hm
      obtain ⟨⟨d1, f1, H1⟩, m1, ⟨d2, f2, H2⟩, m2, hm⟩ := hm
      simp only [Option.some.injEq, Prod.mk.injEq] at hm
      obtain ⟨rfl, rfl, rfl⟩ := hm
      obtain ⟨M1, S1, t1, o1, n1, w1⟩ := moveM_ok h hv m1
      have hvs1 : AVRL w G H1 (Ban B.F G H1) vs avs := by
        have := M1.avr (.t vs.toArray avs (by simpa using hvs))
        cases this with
        | t _ _ h => simpa using h
      obtain ⟨M2, S2, t2, o2, n2, w2⟩ := ih M1.rel hvs1 m2
      refine ⟨M1.trans M2, S1 ++ S2, ?_, ?_, ?_, ?_⟩
      · by_cases e : (f1 && f2) = true
        · rw [e]
          simp at e
          rw [e.1] at t1
          rw [e.2] at t2
          exact .cons _ _ _ _ _ _ t1 t2
        · rw [Bool.not_eq_true] at e
          rw [e]
          exact .cons _ _ _ _ _ _ t1.shared t2.shared
      · intro u hu
        rcases List.mem_cons.1 hu with rfl | hu
        · exact o1
        · exact o2 u hu
      · intro b hb hn
        rcases List.mem_append.1 hb with hb | hb
        · exact n1 b hb (M2.ban hn)
        · exact n2 b hb hn
      · intro e
        simp at e
        obtain ⟨a1, a2⟩ := w1 e.1
        obtain ⟨b1, b2⟩ := w2 e.2
        refine ⟨List.nodup_append.2 ⟨a1, b1, fun x hx y hy e => ?_⟩, fun b hb => ?_⟩
        · subst e
          exact n1 x hx (.inl (b2 x hy))
        · rcases List.mem_append.1 hb with hb | hb
          · exact a2 b hb
          · exact M1.own b (b2 b hb)
theorem moveMV_ok (h : RelG B G s a w) {v : Value} {av : AV} (hv : AVR w G s.heap (Ban B.F G s.heap) v av) {d : D} {f : Bool} {H' : Nat → Option Ob} (hm : moveMV s.heap av = some (d, f, H')) :
    Moved B G s a w H' ∧ ∃ S, Tr w f v d S ∧ Flat v ∧ (∀ b ∈ S, ¬ Ban B.F G H' b) ∧ (f = true → S.Nodup ∧ ∀ b ∈ S, Own G s.heap b) := by
  cases hav : av with
  | g cs =>
    subst hav
    simp only [moveMV, Option.map_eq_some_iff, Prod.mk.injEq] at hm
    obtain ⟨⟨ds, f', H1⟩, m1, rfl, rfl, rfl⟩ := hm
    cases hv with
    | g vs _ hvs =>
      obtain ⟨M, S, t, o, n, w1⟩ := moveMs_ok h hvs m1
      exact ⟨M, S, .g _ _ _ t, o, n, w1⟩
  | _ =>
    subst hav
    obtain ⟨M, S, t, o, n, w1⟩ := moveM_ok h hv hm
    exact ⟨M, S, t, flat_one o, n, w1⟩

theorem moveMVs_ok : ∀ {s : St} (h : RelG B G s a w) {vs : List Value} {avs : List AV} (hv : AVRL w G s.heap (Ban B.F G s.heap) vs avs) {ds : List D} {f : Bool} {H' : Nat → Option Ob} (hm : moveMVs s.heap avs = some (ds, f, H')),
    Moved B G s a w H' ∧ ∃ S, TrL w f vs ds S ∧ (∀ v ∈ vs, Flat v) ∧ (∀ b ∈ S, ¬ Ban B.F G H' b) ∧ (f = true → S.Nodup ∧ ∀ b ∈ S, Own G s.heap b)
  | s, h, _, _, .nil, ds, f, H', hm => by
    simp only [moveMVs, Option.some.injEq, Prod.mk.injEq] at hm
    obtain ⟨rfl, rfl, rfl⟩ := hm
    exact ⟨.refl h, [], .nil, by simp, by simp, fun _ => ⟨List.nodup_nil, by simp⟩⟩
  | s, h, _, _, .cons v av vs avs hv hvs, ds, f, H', hm => by
    simp only [moveMVs, Option.bind_eq_some_iff] at hm
    obtain ⟨⟨d1, f1, H1⟩, m1, ⟨d2, f2, H2⟩, m2, hm⟩ := hm
    simp only [Option.some.injEq, Prod.mk.injEq] at hm
    obtain ⟨rfl, rfl, rfl⟩ := hm
    obtain ⟨M1, S1, t1, o1, n1, w1⟩ := moveMV_ok h hv m1
    obtain ⟨M2, S2, t2, o2, n2, w2⟩ := moveMVs_ok M1.rel (M1.avrl hvs) m2
    refine ⟨M1.trans M2, S1 ++ S2, ?_, ?_, ?_, ?_⟩
    · by_cases e : (f1 && f2) = true
      · rw [e]
        simp at e
        rw [e.1] at t1
        rw [e.2] at t2
        exact .cons _ _ _ _ _ _ t1 t2
      · rw [Bool.not_eq_true] at e
        rw [e]
        exact .cons _ _ _ _ _ _ t1.shared t2.shared
    · intro u hu
      rcases List.mem_cons.1 hu with rfl | hu
      · exact o1
      · exact o2 u hu
    · intro b hb hn
      rcases List.mem_append.1 hb with hb | hb
      · exact n1 b hb (M2.ban hn)
      · exact n2 b hb hn
    · intro e
      simp at e
      obtain ⟨a1, a2⟩ := w1 e.1
      obtain ⟨b1, b2⟩ := w2 e.2
      refine ⟨List.nodup_append.2 ⟨a1, b1, fun x hx y hy e => ?_⟩, fun b hb => ?_⟩
      · subst e
        exact n1 x hx (.inl (b2 x hy))
      · rcases List.mem_append.1 hb with hb | hb
        · exact a2 b hb
        · exact M1.own b (b2 b hb)
theorem leave_okM (hT : T.ok P = true) (h : RelG B G s a w') {fn : Func} {rs : List ResultVar} (hr : fn.results.toList = rs) {out : Ret} (ho : outM T s rs = some out) {args : List Value} {Sd M : List Nat}
    (hbase : B.base = w.heap.size) (hw0 : B.w0 = w) (hF : ∀ b, B.F b ↔ (nG ≤ b ∧ b < w.heap.size ∧ b ∉ Sd ∧ b ∉ M)) (hM : ∀ b, B.M b ↔ b ∈ M) :
    ∃ v, (results fn a.tmps).run P w' = .ok v w' ∧ Post w args Sd M out v w' := by
  simp only [outM, Option.bind_eq_some_iff] at ho
  obtain ⟨avs, m0, ⟨ds, f, H2⟩, m2, ho⟩ := ho
  obtain ⟨us, v, hv, hus, hvs⟩ := run_results hT h (hr ▸ m0)
  refine ⟨v, hv, ?_⟩
  obtain ⟨M2, S, t2, o2, n2, w2⟩ := moveMVs_ok h hus m2
  have hlen : ds.length = us.length := by rw [← t2.length]
  -- the answer
  have hret : ∀ {fl : Bool} {S : List Nat}, TrL w' fl us ds S → ∃ S', Tr w' fl v (packD ds) S' ∧ (∀ b, b ∈ S' ↔ b ∈ S) ∧ (S.Nodup → S'.Nodup) := by
    intro fl S ht
    rcases hvs with ⟨t, rfl, rfl⟩ | ⟨h1, rfl⟩
    · cases ht with
      | cons _ d S1 _ ds1 S2 ht hts =>
        cases hts
        exact ⟨S1, ht, by simp, by simp⟩
    · have : packD ds = .t ds := by
        match ds, hlen with
        | [], _ => rfl
        | [d], hl => exact absurd hl.symm h1
        | _ :: _ :: _, _ => rfl
      rw [this]
      exact ⟨S, .t _ _ _ (by simpa using ht), fun _ => Iff.rfl, fun h => h⟩
  have hfl : RetFlat v := by
    rcases hvs with ⟨t, rfl, rfl⟩ | ⟨_, rfl⟩
    · exact .inl (o2 _ (by simp))
    · exact .inr ⟨_, rfl, by simpa using o2⟩
  have hge : ∀ b, Own G s.heap b → w.heap.size ≤ b ∨ b ∈ M := fun b ⟨k, hk⟩ => by
    have := h.ge k b hk
    rw [hbase] at this
    exact this.imp id (hM b).1
  have hrest : Rest w w' := hw0 ▸ h.rest
  have hkeep : ∀ b, b < w.heap.size → b ∉ M → w'.heap[b]? = w.heap[b]? := fun b hb hn => by
    rw [← hw0]
    exact h.below b (hbase ▸ hb) fun hm => hn ((hM b).1 hm)
  have hnF : ∀ {b : Nat}, ¬ B.F b → w.heap.size ≤ b ∨ b ∈ Sd ∨ b ∈ M ∨ b < nG := fun {b} hn => by
    rcases Nat.lt_or_ge b w.heap.size with h1 | h1
    · by_cases h2 : b ∈ Sd
      · exact .inr (.inl h2)
      · by_cases h3 : b ∈ M
        · exact .inr (.inr (.inl h3))
        · rcases Nat.lt_or_ge b nG with h4 | h4
          · exact .inr (.inr (.inr h4))
          · exact absurd ((hF b).2 ⟨h4, h1, h2, h3⟩) hn
    · exact .inl h1
  simp only [Option.some.injEq] at ho
  subst ho
  obtain ⟨S', r1, r2, r3⟩ := hret t2
  refine ⟨hrest, hkeep, S', [], r1, hfl, rfl, List.nodup_nil, by simp, by simp, fun hf => ?_, fun b hb => hnF fun hf => n2 b ((r2 b).1 hb) (.inr hf)⟩
  obtain ⟨q1, q2⟩ := w2 hf
  exact ⟨r3 q1, fun b hb => hge b (q2 b ((r2 b).1 hb))⟩

theorem fnOK_ofM (hT : T.ok P = true) {f : FuncId} {fn : Func} {c : Code} (hf : P.funcs[f]? = some fn) (hb : fn.body = some c) (hnm : (fn.name == "runtime.NumGoroutine") = false) {rs : List ResultVar} (hres : fn.results.toList = rs)
    {ins : List In} (hi : insOK ins = true) (hn : ins.length ≤ fn.ntmps) {out : Ret} (hbody : ∀ B G a w, RelG B G (inSt fn.ntmps ins) a w → B.aa = .x → c.wp P (EndM T B rs out) a w) : FnOK P f ins out := by
  intro w args Sd M hkn ha hM hd
  obtain ⟨B, G, hrel, h1, h2, h3, h4, h5, h6⟩ := enter_rel hi hkn ha hM hd hn
  obtain ⟨b1, b2, b3, b4, b5, b6, b7, b8, b9, b10, b11, b12⟩ := hrel
  have hrel' : RelG { base := B.base, w0 := B.w0, F := B.F, M := B.M, av := undef, aa := .x, kn := B.kn, kb := B.kb, kF := B.kF } G (inSt fn.ntmps ins) { tmps := args.toArray ++ Array.replicate (fn.ntmps - args.toArray.size) undef, defers := [] } w :=
    ⟨b1, b2, b3, b4, b5, b6, b7, b8, b9, b10, b11, .x _⟩
  refine .inl ⟨?_, ?_⟩
  · have : ¬ fn.name = "runtime.NumGoroutine" := by simpa using hnm
    simp [callFunc, hf, hb, this]
  · refine calls_of_wp hf hb (wp_mono (hbody _ G _ w hrel' rfl) fun e a' w' he => ?_)
    obtain ⟨he, G', s', hr, ho⟩ := he
    obtain ⟨v, hv, hp⟩ := leave_okM hT (w := w) (args := args) (Sd := Sd) (M := M) hr hres ho h1 h2 h3 h4
    rcases he with rfl | rfl
    · exact ⟨hr.defers, v, hv, hp⟩
    · exact ⟨hr.defers, v, hv, hp⟩

/-- A call that uses up what it is handed first. -/
theorem call_eat (h : RelG B G s a w) {f : FuncId} {av : AV} {v : Value} (hv : AVR w G s.heap (Ban B.F G s.heap) v av)
    {rest : List AV} {vs : List Value} (hrest : AVRL w G s.heap (Ban B.F G s.heap) vs rest) {ds0 : List D} {ks : List Nat} (hic : ioCs s.heap (cellsA av) = some (ds0, ks)) {ds : List D} (hb : borL s.heap rest = some ds)
    (hks : ks.Nodup) (hdis : ∀ k ∈ ks, k ∉ rest.flatMap (keyA s.heap)) {ret : D} (hf : FnOK P f (.io (ioD av ds0) :: ds.map .d) { ret := ret })
    {key : Nat} (hfree : ∀ x ∈ adObs key (partsD ret), s.heap x.1 = none) :
    Does P f (v :: vs).toArray w fun u w' => ∃ G', RelG B G' { s with heap := ovr (ks.map (fun k => (k, Ob.dead)) ++ adObs key (partsD ret)) s.heap } a w' ∧
      AVR w' G' (ovr (ks.map (fun k => (k, Ob.dead)) ++ adObs key (partsD ret)) s.heap) (Ban B.F G' (ovr (ks.map (fun k => (k, Ob.dead)) ++ adObs key (partsD ret)) s.heap)) u (retAV ret (adCells key (partsD ret))) := by
  have hcv : AVRL w G s.heap (Ban B.F G s.heap) v.cells.toList (cellsA av) ∧ Flat v ∧ ∀ S, TrL w true v.cells.toList ds0 S → Tr w true v (ioD av ds0) S := by
    cases hav : av with
    | g cs =>
      subst hav
      cases hv with
      | g us _ hus =>
        obtain ⟨_, _, o, _⟩ := ioCs_ok h hus hic
        exact ⟨hus, o, fun S hS => .g _ _ _ hS⟩
    | _ =>
      subst hav
      simp only [cellsA] at hic
      obtain ⟨_, ht, o, _⟩ := ioCs_ok h (.cons _ _ _ _ hv .nil) hic
      have o1 := o v (by simp)
      have hc1 : v.cells = #[v] := by cases v <;> simp_all [Value.cells, Value.oneCell']
      rw [hc1]
      refine ⟨.cons _ _ _ _ hv .nil, flat_one o1, fun S hS => ?_⟩
      cases hS with
      | cons _ d S1 _ ds1 S2 h1 h2 =>
        cases h2
        simpa [ioD] using h1
  obtain ⟨hcv, hfl, hargs⟩ := hcv
  obtain ⟨S, t1, t2, t3, t4, t5⟩ := ioCs_ok h hcv hic
  obtain ⟨Sd, u1, u2⟩ := borL_ok h hrest hb
  have hA : ArgsR w (v :: vs) (.io (ioD av ds0) :: ds.map .d) Sd (S ++ []) := .io v _ S vs _ Sd [] (hargs S t1) hfl u1
  rw [List.append_nil] at hA
  refine (hf w _ Sd S (h.knW fun b hb => by obtain ⟨k, _, hm⟩ := t3 b hb; exact ⟨k, hm⟩) hA (t4 hks) fun b hb hbd => ?_).mono fun u w' hp => ?_
  · obtain ⟨k, hk, hm⟩ := t3 b hb
    exact hdis k hk ((u2 b hbd).2 k hm)
  obtain ⟨hr, hkeep, S', Si, r1, r2, r3, r4, r5, r6, r7, _⟩ := hp
  obtain ⟨r7, r8⟩ := r7 rfl
  obtain ⟨us, p1, p2, p3⟩ := parts_tr r1 r2
  obtain ⟨L2, b1, b2, b3, b4⟩ := adEnts p1 r7 p2 key
  let L1 : List (Nat × GI × Ob) := ks.map fun k => (k, G k, Ob.dead)
  have a1 : L1.map (fun x => (x.1, x.2.2)) = ks.map (fun k => (k, Ob.dead)) := by simp [L1]
  have a2 : L1.map (·.1) = ks := by
    show (ks.map fun k => (k, G k, Ob.dead)).map (·.1) = ks
    rw [List.map_map]
    exact (List.map_congr_left fun _ _ => rfl).trans (List.map_id ks)
  have d1 : ∀ x ∈ L1, x.2.2 = Ob.dead := fun x hx => by
    obtain ⟨k, _, rfl⟩ := List.mem_map.1 hx; rfl
  have hkk : ∀ x ∈ L1, ∀ y ∈ L2, x.1 ≠ y.1 := by
    intro x hx y hy e
    have h1 : x.1 ∈ ks := by rw [← a2]; exact List.mem_map.2 ⟨x, hx, rfl⟩
    have h2 := hfree (y.1, y.2.2) (by rw [← b1]; exact List.mem_map.2 ⟨y, hy, rfl⟩)
    exact t5 x.1 h1 (by rw [e]; exact h2)
  have hkeys : ((L1 ++ L2).map (·.1)).Nodup := by
    rw [List.map_append]
    refine List.nodup_append.2 ⟨by rw [a2]; exact hks, b3.keys, fun i hi j hj e => ?_⟩
    obtain ⟨x, hx, rfl⟩ := List.mem_map.1 hi
    obtain ⟨y, hy, rfl⟩ := List.mem_map.1 hj
    exact hkk x hx y hy e
  have own0 : ∀ x ∈ L1, ownOf x.2.1 (some x.2.2) = [] := fun x hx => by rw [d1 x hx]; rfl
  have hM : ∀ b ∈ S, ∃ x ∈ L1 ++ L2, b ∈ ownOf (G x.1) (s.heap x.1) := fun b hb => by
    obtain ⟨k, hk, hm⟩ := t3 b hb
    rw [← a2] at hk
    obtain ⟨x, hx, rfl⟩ := List.mem_map.1 hk
    exact ⟨x, by simp [hx], hm⟩
  obtain ⟨hrel, havr⟩ := h.steps (L1 ++ L2) hkeys hr (fun b hb hn => hkeep b hb fun hbS => by
      obtain ⟨x, hx, hm⟩ := hM b hbS
      exact hn x hx hm) (fun x hx o ho => by
      rcases List.mem_append.1 hx with hx | hx
      · rw [d1 x hx]; exact .dead _
      · have := hfree (x.1, x.2.2) (by rw [← b1]; exact List.mem_map.2 ⟨x, hx, rfl⟩)
        rw [ho] at this; cases this) (fun x hx b hb => by
      rcases List.mem_append.1 hx with hx | hx
      · rw [own0 x hx] at hb; cases hb
      · rcases r8 b (b3.sub x hx b hb) with h1 | h1
        · exact .inr h1
        · exact .inl (hM b h1)) (fun x hx => by
      rcases List.mem_append.1 hx with hx | hx
      · rw [own0 x hx]; exact List.nodup_nil
      · exact b3.nd x hx) (fun x hx y hy b hb hb' => by
      rcases List.mem_append.1 hx with hx | hx
      · rw [own0 x hx] at hb; cases hb
      · rcases List.mem_append.1 hy with hy | hy
        · rw [own0 y hy] at hb'; cases hb'
        · exact b3.dis x hx y hy b hb hb') (fun x hx => by
      rcases List.mem_append.1 hx with hx | hx
      · rw [d1 x hx]; trivial
      · obtain ⟨sz, xs, ve, e, hR⟩ := b3.row x hx
        rw [e]
        exact hR _)
  have hmapO : (L1 ++ L2).map (fun x => (x.1, x.2.2)) = ks.map (fun k => (k, Ob.dead)) ++ adObs key (partsD ret) := by rw [List.map_append, a1, b1]
  rw [hmapO] at hrel havr
  refine ⟨_, hrel, p3 (b4 _ _ _ (fun x hx => ?_) fun b hb hba => ?_)⟩
  · have hx' : x ∈ L1 ++ L2 := by simp [hx]
    exact ⟨ovG_in hkeys hx', by rw [← hmapO]; exact ovr_in hkeys hx'⟩
  · rw [← hmapO] at hba
    rcases hba with ⟨k, hm⟩ | hF
    · by_cases hk : k ∈ (L1 ++ L2).map (·.1)
      · obtain ⟨x, hx, rfl⟩ := List.mem_map.1 hk
        rw [ovG_in hkeys hx, ovr_in hkeys hx] at hm
        rcases List.mem_append.1 hx with hx | hx
        · rw [own0 x hx] at hm; cases hm
        · exact ⟨x, hx, hm⟩
      · rw [ovG_out hk, ovr_out hk] at hm
        exfalso
        rcases r8 b hb with h1 | h1
        · have := h.own_lt ⟨k, hm⟩; omega
        · obtain ⟨x, hx, hmx⟩ := hM b h1
          exact hk (List.mem_map.2 ⟨x, hx, h.disj x.1 k b hmx hm⟩)
    · exfalso
      rcases r8 b hb with h1 | h1
      · have := (h.ban b hF).1
        have := h.base
        omega
      · obtain ⟨x, hx, hmx⟩ := hM b h1
        exact h.noF hmx hF
end rel
end Go.Fs
namespace Go.Fs
open Go.RowKit

section rel
variable {P : Program} {T : Tab} {B : Ctx} {G : Nat → GI} {s : St} {a : Act} {w w' : World}

/-- What stands in the heap behind a call that was handed a variable. -/
def bxObs (k : Nat) (ks : List Nat) (keyb : Nat) (y : List D) (key : Nat) (ret : D) : List (Nat × Ob) :=
  (k, .box (adCells keyb y)) :: (ks.map (fun k => (k, Ob.dead)) ++ (adObs keyb y ++ adObs key (partsD ret)))

/-- A call that is handed a variable, and writes it. -/
theorem call_box (h : RelG B G s a w) {f : FuncId} {k : Nat} {cs : List AV} (hk : s.heap k = some (.box cs)) {v : Value} (hv : AVR w G s.heap (Ban B.F G s.heap) v (.a k 0))
    {rest : List AV} {vs : List Value} (hrest : AVRL w G s.heap (Ban B.F G s.heap) vs rest) {ds0 : List D} {ks : List Nat} (hic : ioCs s.heap cs = some (ds0, ks)) {ds : List D} (hb : borL s.heap rest = some ds)
    (hks : (k :: ks).Nodup) (hdis : ∀ i ∈ k :: ks, i ∉ rest.flatMap (keyA s.heap)) {ret : D} {y : List D} (hf : FnOK P f (.io (.p ds0) :: ds.map .d) { ret := ret, io := some (.p y) })
    {key keyb : Nat} (hfree : ∀ x ∈ adObs keyb y ++ adObs key (partsD ret), s.heap x.1 = none) (hkk : ∀ x ∈ adObs keyb y, ∀ z ∈ adObs key (partsD ret), x.1 ≠ z.1) :
    Does P f (v :: vs).toArray w fun u w' => ∃ G', RelG B G' { s with heap := ovr (bxObs k ks keyb y key ret) s.heap } a w' ∧
      AVR w' G' (ovr (bxObs k ks keyb y key ret) s.heap) (Ban B.F G' (ovr (bxObs k ks keyb y key ret) s.heap)) u (retAV ret (adCells key (partsD ret))) := by
  have hv0 : v = .pointer (some ⟨(G k).blk, 0, none⟩) := by
    cases hv with
    | a _ _ cs' _ => rfl
    | ad _ _ _ hk' => rw [hk] at hk'; cases hk'
  subst hv0
  obtain ⟨cur, el, hg, hcs, h1⟩ : BoxR w G s.heap (Ban B.F G s.heap) (G k) cs := h.obj k _ hk
  obtain ⟨S, t1, t2, t3, t4, t5⟩ := ioCs_ok h hcs hic
  obtain ⟨Sd, u1, u2⟩ := borL_ok h hrest hb
  have hkb : (G k).blk ∈ ownOf (G k) (s.heap k) := by rw [hk]; simp [ownOf]
  obtain ⟨hk1, hk2⟩ := List.nodup_cons.1 hks
  have hS1 : (G k).blk ∉ S := fun hm => by
    obtain ⟨i, hi, hm⟩ := t3 _ hm
    have := h.disj i k _ hm hkb
    exact hk1 (this ▸ hi)
  have hTr : Tr w true (.pointer (some ⟨(G k).blk, 0, none⟩)) (.p ds0) ((G k).blk :: S) :=
    .p (G k).blk 0 cur el (0, 0) cur.toList ds0 S hg (fun j v hj => by simpa using hj) h1 (fun _ => ⟨rfl, rfl, by simp⟩) t1
  have hA : ArgsR w (.pointer (some ⟨(G k).blk, 0, none⟩) :: vs) (.io (.p ds0) :: ds.map .d) Sd (((G k).blk :: S) ++ []) := .io _ _ _ vs _ Sd [] hTr (flat_one rfl) u1
  rw [List.append_nil] at hA
  have hin : ∀ b ∈ (G k).blk :: S, ∃ i ∈ k :: ks, b ∈ ownOf (G i) (s.heap i) := fun b hb => by
    rcases List.mem_cons.1 hb with rfl | hb
    · exact ⟨k, by simp, hkb⟩
    · obtain ⟨i, hi, hm⟩ := t3 b hb
      exact ⟨i, by simp [hi], hm⟩
  refine (hf w _ Sd _ (h.knW fun b hb => by obtain ⟨i, _, hm⟩ := hin b hb; exact ⟨i, hm⟩) hA (List.nodup_cons.2 ⟨hS1, t4 hk2⟩) fun b hb hbd => ?_).mono fun u w' hp => ?_
  · obtain ⟨i, hi, hm⟩ := hin b hb
    exact hdis i hi ((u2 b hbd).2 i hm)
  obtain ⟨hr, hkeep, S', Si, r1, r2, r3, r4, r5, r6, r7, _⟩ := hp
  obtain ⟨q7, q8⟩ := r7 rfl
  obtain ⟨v1, vs1, e, ht⟩ := r3
  simp only [List.cons.injEq] at e
  obtain ⟨rfl, rfl⟩ := e
  generalize hgb : (G k).blk = gb at *
  cases ht with
  | p g o cur' el' fr' vs' _ Sb hg' hvc h1' ho hs' =>
  obtain ⟨rfl, _, hsz⟩ := ho rfl
  obtain rfl : vs' = cur'.toList := by
    refine List.ext_getElem? fun j => ?_
    rcases Nat.lt_or_ge j vs'.length with hj | hj
    · have := hvc j _ (List.getElem?_eq_getElem hj)
      rw [List.getElem?_eq_getElem hj, ← this]
      simp
    · rw [List.getElem?_eq_none hj, List.getElem?_eq_none (by simpa [hsz] using hj)]
  obtain ⟨nb1, nb2⟩ := List.nodup_cons.1 r4
  obtain ⟨us, p1, p2, p3⟩ := parts_tr r1 r2
  obtain ⟨L3, c1, c2, c3, c4⟩ := adEnts hs' nb2 h1' keyb
  obtain ⟨L2, b1, b2, b3, b4⟩ := adEnts p1 q7 p2 key
  let L1 : List (Nat × GI × Ob) := ks.map fun k => (k, G k, Ob.dead)
  let L0 : Nat × GI × Ob := (k, G k, .box (adCells keyb y))
  have a1 : L1.map (fun x => (x.1, x.2.2)) = ks.map (fun k => (k, Ob.dead)) := by simp [L1]
  have a2 : L1.map (·.1) = ks := by
    show (ks.map fun k => (k, G k, Ob.dead)).map (·.1) = ks
    rw [List.map_map]
    exact (List.map_congr_left fun _ _ => rfl).trans (List.map_id ks)
  have d1 : ∀ x ∈ L1, x.2.2 = Ob.dead := fun x hx => by
    obtain ⟨k, _, rfl⟩ := List.mem_map.1 hx; rfl
  have own1 : ∀ x ∈ L1, ownOf x.2.1 (some x.2.2) = [] := fun x hx => by rw [d1 x hx]; rfl
  have own0 : ownOf L0.2.1 (some L0.2.2) = [gb] := by show [(G k).blk] = _; rw [hgb]
  have L1k : ∀ x ∈ L1, x.1 ∈ ks := fun x hx => by rw [← a2]; exact List.mem_map.2 ⟨x, hx, rfl⟩
  have f3 : ∀ x ∈ L3, s.heap x.1 = none := fun x hx => hfree (x.1, x.2.2) (List.mem_append.2 (.inl (by rw [← c1]; exact List.mem_map.2 ⟨x, hx, rfl⟩)))
  have f2 : ∀ x ∈ L2, s.heap x.1 = none := fun x hx => hfree (x.1, x.2.2) (List.mem_append.2 (.inr (by rw [← b1]; exact List.mem_map.2 ⟨x, hx, rfl⟩)))
  have k32 : ∀ x ∈ L3, ∀ z ∈ L2, x.1 ≠ z.1 := fun x hx z hz => hkk (x.1, x.2.2) (by rw [← c1]; exact List.mem_map.2 ⟨x, hx, rfl⟩) (z.1, z.2.2) (by rw [← b1]; exact List.mem_map.2 ⟨z, hz, rfl⟩)
  have hold : ∀ i ∈ k :: ks, s.heap i ≠ none := fun i hi => by
    rcases List.mem_cons.1 hi with rfl | hi
    · rw [hk]; simp
    · exact t5 i hi
  -- new rows of both kinds
  have hd32 : ∀ b ∈ Sb, b ∉ S' := fun b hb hb' => r6 b hb' (List.mem_cons_of_mem _ hb)
  have hE := c3.append b3 k32 hd32
  have hgS' : gb ∉ S' := fun hb => r6 gb hb (List.mem_cons_self)
  have hnew : ∀ x ∈ L3 ++ L2, s.heap x.1 = none := fun x hx => (List.mem_append.1 hx).elim (f3 x) (f2 x)
  have hgn : ∀ x ∈ L3 ++ L2, gb ∉ ownOf x.2.1 (some x.2.2) := fun x hx hm => by
    rcases List.mem_append.1 (hE.sub x hx gb hm) with h2 | h2
    · exact nb1 h2
    · exact hgS' h2
  let L : List (Nat × GI × Ob) := L0 :: (L1 ++ (L3 ++ L2))
  have cases4 : ∀ x ∈ L, x = L0 ∨ x ∈ L1 ∨ x ∈ L3 ++ L2 := fun x hx => by
    rcases List.mem_cons.1 hx with rfl | hx
    · exact .inl rfl
    · exact .inr (List.mem_append.1 hx)
  have hkeys : (L.map (·.1)).Nodup := by
    refine List.nodup_cons.2 ⟨fun hm => ?_, ?_⟩
    · obtain ⟨x, hx, e⟩ := List.mem_map.1 hm
      have e : x.1 = k := e
      rcases List.mem_append.1 hx with hx | hx
      · exact hk1 (e ▸ L1k x hx)
      · have := hnew x hx; rw [e, hk] at this; cases this
    · rw [List.map_append]
      refine List.nodup_append.2 ⟨by rw [a2]; exact hk2, hE.keys, fun i hi j hj e => ?_⟩
      obtain ⟨x, hx, rfl⟩ := List.mem_map.1 hi
      obtain ⟨z, hz, rfl⟩ := List.mem_map.1 hj
      exact t5 x.1 (L1k x hx) (by rw [e]; exact hnew z hz)
  have hM : ∀ b ∈ gb :: S, ∃ x ∈ L, b ∈ ownOf (G x.1) (s.heap x.1) := fun b hb => by
    rcases List.mem_cons.1 hb with rfl | hb
    · exact ⟨L0, by simp [L], hkb⟩
    · obtain ⟨i, hi, hm⟩ := t3 b hb
      rw [← a2] at hi
      obtain ⟨x, hx, rfl⟩ := List.mem_map.1 hi
      exact ⟨x, by simp [L, hx], hm⟩
  have hfresh : ∀ b ∈ Sb ++ S', w.heap.size ≤ b ∨ ∃ x ∈ L, b ∈ ownOf (G x.1) (s.heap x.1) := fun b hb => by
    have : w.heap.size ≤ b ∨ b ∈ gb :: S := by
      rcases List.mem_append.1 hb with hb | hb
      · exact r5 b (List.mem_cons_of_mem _ hb)
      · exact q8 b hb
    rcases this with h1 | h1
    · exact .inl h1
    · exact .inr (hM b h1)
  have inGL : ∀ x ∈ L, ovG (L.map fun x => (x.1, x.2.1)) G x.1 = x.2.1 := fun x hx => ovG_in hkeys hx
  have inHL : ∀ x ∈ L, ovr (L.map fun x => (x.1, x.2.2)) s.heap x.1 = some x.2.2 := fun x hx => ovr_in hkeys hx
  -- a block of what is given that is barred is owned through a new row
  have banned : ∀ b ∈ Sb ++ S', Ban B.F (ovG (L.map fun x => (x.1, x.2.1)) G) (ovr (L.map fun x => (x.1, x.2.2)) s.heap) b → ∃ x ∈ L3 ++ L2, b ∈ ownOf x.2.1 (some x.2.2) := by
    rintro b hb (⟨i, hm⟩ | hF)
    · by_cases hi : i ∈ L.map (·.1)
      · obtain ⟨x, hx, rfl⟩ := List.mem_map.1 hi
        rw [inGL x hx, inHL x hx] at hm
        rcases cases4 x hx with rfl | hx | hx
        · rw [own0] at hm
          simp only [List.mem_singleton] at hm
          subst hm
          rcases List.mem_append.1 hb with h2 | h2
          · exact absurd h2 nb1
          · exact absurd h2 hgS'
        · rw [own1 x hx] at hm; cases hm
        · exact ⟨x, hx, hm⟩
      · rw [ovG_out hi, ovr_out hi] at hm
        exfalso
        rcases hfresh b hb with h1 | ⟨x, hx, hmx⟩
        · have := h.own_lt ⟨i, hm⟩; omega
        · exact hi (List.mem_map.2 ⟨x, hx, h.disj x.1 i b hmx hm⟩)
    · exfalso
      rcases hfresh b hb with h1 | ⟨x, hx, hmx⟩
      · have := (h.ban b hF).1
        have := h.base
        omega
      · exact h.noF hmx hF
  obtain ⟨hrel, havr⟩ := h.steps L hkeys hr (fun b hb hn => hkeep b hb fun hbS => by
      obtain ⟨x, hx, hm⟩ := hM b hbS
      exact hn x hx hm) (fun x hx o ho => by
      rcases cases4 x hx with rfl | hx | hx
      · have ho : s.heap k = some o := ho
        rw [hk] at ho; cases ho
        exact .box _ _ rfl
      · rw [d1 x hx]; exact .dead _
      · rw [hnew x hx] at ho; cases ho) (fun x hx b hb => by
      rcases cases4 x hx with rfl | hx | hx
      · rw [own0] at hb
        simp only [List.mem_singleton] at hb
        subst hb
        exact .inl ⟨L0, by simp [L], hkb⟩
      · rw [own1 x hx] at hb; cases hb
      · rcases hfresh b (hE.sub x hx b hb) with h1 | h1
        · exact .inr h1
        · exact .inl h1) (fun x hx => by
      rcases cases4 x hx with rfl | hx | hx
      · rw [own0]; simp
      · rw [own1 x hx]; exact List.nodup_nil
      · exact hE.nd x hx) (fun x hx z hz b hb hb' => by
      rcases cases4 x hx with rfl | hx | hx
      · rcases cases4 z hz with rfl | hz | hz
        · rfl
        · rw [own1 z hz] at hb'; cases hb'
        · rw [own0] at hb
          simp only [List.mem_singleton] at hb
          subst hb
          exact absurd hb' (hgn z hz)
      · rw [own1 x hx] at hb; cases hb
      · rcases cases4 z hz with rfl | hz | hz
        · rw [own0] at hb'
          simp only [List.mem_singleton] at hb'
          subst hb'
          exact absurd hb (hgn x hx)
        · rw [own1 z hz] at hb'; cases hb'
        · exact hE.dis x hx z hz b hb hb') (fun x hx => by
      rcases cases4 x hx with rfl | hx | hx
      · refine ⟨⟨cur', el', by show w'.heap[(G k).blk]? = _; rw [hgb]; exact hg', c4 _ _ _ (fun x hx => ?_) fun b hb hba => ?_, h1'⟩⟩
        · have hx' : x ∈ L := by simp [L, hx]
          exact ⟨inGL x hx', inHL x hx'⟩
        · obtain ⟨x, hx, hm⟩ := banned b (List.mem_append.2 (.inl hb)) hba
          rcases List.mem_append.1 hx with hx | hx
          · exact ⟨x, hx, hm⟩
          · exact absurd (b3.sub x hx b hm) (hd32 b hb)
      · rw [d1 x hx]; trivial
      · obtain ⟨sz, xs, ve, e, hR⟩ := hE.row x hx
        rw [e]
        exact hR _)
  have hmapO : L.map (fun x => (x.1, x.2.2)) = bxObs k ks keyb y key ret := by
    show (k, Ob.box (adCells keyb y)) :: (L1 ++ (L3 ++ L2)).map (fun x => (x.1, x.2.2)) = _
    rw [List.map_append, List.map_append, a1, c1, b1]
    rfl
  rw [← hmapO]
  refine ⟨_, hrel, p3 (b4 _ _ _ (fun x hx => ?_) fun b hb hba => ?_)⟩
  · have hx' : x ∈ L := by simp [L, hx]
    exact ⟨inGL x hx', inHL x hx'⟩
  · obtain ⟨x, hx, hm⟩ := banned b (List.mem_append.2 (.inr hb)) hba
    rcases List.mem_append.1 hx with hx | hx
    · exact absurd hb (hd32 b (c3.sub x hx b hm))
    · exact ⟨x, hx, hm⟩
end rel
end Go.Fs
namespace Go.Fs
open Go.RowKit

/-- What a function does that is handed a builder of a text: its answer, and the text behind it, if the builder may be used on. -/
def BdOK (P : Program) (f : FuncId) (s : ByteArray) (ds : List D) (r : D × Option ByteArray) : Prop :=
  ∀ (w : World) (g : GI) (vs : List Value) (Sd : List Nat), Kn w → nG ≤ w.heap.size → BldR w g s → (g.blk :: g.sub).Nodup → ArgsR w vs (ds.map .d) Sd [] →
    Does P f (.pointer (some ⟨g.blk, 0, none⟩) :: vs).toArray w fun u w' => Rest w w' ∧ (∀ b, b < w.heap.size → b ∉ g.blk :: g.sub → w'.heap[b]? = w.heap[b]?) ∧ (Tr w' false u r.1 [] ∧ RetFlat u) ∧
      ∀ s', r.2 = some s' → ∃ sub, BldR w' { g with sub := sub } s' ∧ (g.blk :: sub).Nodup ∧ ∀ b ∈ sub, w.heap.size ≤ b ∨ b ∈ g.sub

def bdOb (s : Option ByteArray) : Ob := match s with
  | some s => .bld s
  | none => .dead

section rel
variable {P : Program} {T : Tab} {B : Ctx} {G : Nat → GI} {s : St} {a : Act} {w w' : World}
theorem call_bld (h : RelG B G s a w) {f : FuncId} {k : Nat} {t : ByteArray} (hk : s.heap k = some (.bld t)) {v : Value} (hv : AVR w G s.heap (Ban B.F G s.heap) v (.bp k))
    {rest : List AV} {vs : List Value} (hrest : AVRL w G s.heap (Ban B.F G s.heap) vs rest) {ds : List D} (hb : borL s.heap rest = some ds) {r : D × Option ByteArray} (hf : BdOK P f t ds r) :
    Does P f (v :: vs).toArray w fun u w' => ∃ G', RelG B G' { s with heap := ovr [(k, bdOb r.2)] s.heap } a w' ∧
      AVR w' G' (ovr [(k, bdOb r.2)] s.heap) (Ban B.F G' (ovr [(k, bdOb r.2)] s.heap)) u (retAV r.1 ((partsD r.1).map .d)) := by
  have hv0 : v = .pointer (some ⟨(G k).blk, 0, none⟩) := by
    cases hv with
    | bp _ _ _ => rfl
    | bpd _ _ hk' => rw [hk] at hk'; cases hk'
  subst hv0
  have hB : BldR w (G k) t := h.obj k _ hk
  have hnd := h.nodup k
  rw [hk] at hnd
  have hnd : ((G k).blk :: (G k).sub).Nodup := hnd
  have hown : ownOf (G k) (s.heap k) = (G k).blk :: (G k).sub := by rw [hk]; rfl
  obtain ⟨Sd, u1, u2⟩ := borL_ok h hrest hb
  refine (hf w (G k) vs Sd h.kn (Nat.le_trans B.kb h.base) hB hnd u1).mono fun u w' hp => ?_
  obtain ⟨hr, hkeep, ⟨ht, hfl⟩, hs⟩ := hp
  -- what stands there now
  obtain ⟨g', hg1, hg2, hg3, hg4⟩ : ∃ g' : GI, g'.blk = (G k).blk ∧ (∀ G' H' Av, ObR w' G' H' Av g' (bdOb r.2)) ∧ (ownOf g' (some (bdOb r.2))).Nodup ∧ ∀ b ∈ ownOf g' (some (bdOb r.2)), w.heap.size ≤ b ∨ b ∈ ownOf (G k) (s.heap k) := by
    cases e : r.2 with
    | none => exact ⟨G k, rfl, fun _ _ _ => trivial, List.nodup_nil, fun b hb => by cases hb⟩
    | some s' =>
      obtain ⟨sub, q1, q2, q3⟩ := hs s' e
      refine ⟨{ G k with sub := sub }, rfl, fun _ _ _ => q1, q2, fun b hb => ?_⟩
      have hb : b ∈ (G k).blk :: sub := hb
      rw [hown]
      rcases List.mem_cons.1 hb with rfl | hb
      · exact .inr (by simp)
      · exact (q3 b hb).imp id fun h => by simp [h]
  have hto : Ob.to (G k) g' (.bld t) (bdOb r.2) := by
    cases e : r.2 with
    | none => exact .dead _
    | some s' => exact .bld _ _ hg1
  let L : List (Nat × GI × Ob) := [(k, g', bdOb r.2)]
  have hkeys : (L.map (·.1)).Nodup := by simp [L]
  obtain ⟨hrel, havr⟩ := h.steps L hkeys hr (fun b hb hn => hkeep b hb fun hbS => hn (k, g', bdOb r.2) (by simp [L]) (by rw [hown]; exact hbS)) (fun x hx o ho => by
      simp only [L, List.mem_singleton] at hx
      subst hx
      have ho : s.heap k = some o := ho
      rw [hk] at ho; cases ho
      exact hto) (fun x hx b hb => by
      simp only [L, List.mem_singleton] at hx
      subst hx
      rcases hg4 b hb with h1 | h1
      · exact .inr h1
      · exact .inl ⟨(k, g', bdOb r.2), by simp [L], h1⟩) (fun x hx => by
      simp only [L, List.mem_singleton] at hx
      subst hx
      exact hg3) (fun x hx y hy b hb hb' => by
      simp only [L, List.mem_singleton] at hx hy
      subst hx; subst hy; rfl) (fun x hx => by
      simp only [L, List.mem_singleton] at hx
      subst hx
      exact hg2 _ _ _)
  have hmapO : L.map (fun x => (x.1, x.2.2)) = [(k, bdOb r.2)] := rfl
  rw [hmapO] at hrel havr
  obtain ⟨us, p1, p2, p3⟩ := parts_tr ht hfl
  exact ⟨_, hrel, p3 (p1.avrl p2 fun b hb => by cases hb)⟩
end rel
end Go.Fs
