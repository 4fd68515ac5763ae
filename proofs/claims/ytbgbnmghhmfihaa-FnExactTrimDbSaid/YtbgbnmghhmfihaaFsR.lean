/- A part of the proof: an evaluator of the program's code over plain data, proved sound, or a function's walk by it. No conditions beyond those in the theorems. -/
import Derived.Test.YtbgbnmghhmfihaaFsQ
set_option linter.unusedVariables false
set_option linter.constructorNameAsVariable false
namespace Go.Fs
open Go.RowKit

def ioD (av : AV) (ds : List D) : D :=
  match av with
  | .g _ => .g ds
  | _ => ds.headD .u
def ioIn (io : Option AV) (ds : List D) : List In :=
  match io with
  | some av => [.io (ioD av ds)]
  | none => []
def ioCells (io : Option AV) : List AV :=
  match io with
  | some av => cellsA av
  | none => []
def ioOut (io : Option D) : List D :=
  match io with
  | some x => cellsD x
  | none => []

section rel
variable {P : Program} {T : Tab} {B : Ctx} {G : Nat → GI} {s : St} {a : Act} {w w' : World}

theorem ovG_in {L : List (Nat × GI × Ob)} (hk : (L.map (·.1)).Nodup) {x : Nat × GI × Ob} (hx : x ∈ L) : ovG (L.map fun x => (x.1, x.2.1)) G x.1 = x.2.1 := by
  have hk1 : ((L.map fun x => (x.1, x.2.1)).map (·.1)).Nodup := by rw [List.map_map]; exact hk
  simp only [ovG, lookup_of_mem hk1 (List.mem_map.2 ⟨x, hx, rfl⟩)]
theorem ovr_in {H : Nat → Option Ob} {L : List (Nat × GI × Ob)} (hk : (L.map (·.1)).Nodup) {x : Nat × GI × Ob} (hx : x ∈ L) : ovr (L.map fun x => (x.1, x.2.2)) H x.1 = some x.2.2 := by
  have hk1 : ((L.map fun x => (x.1, x.2.2)).map (·.1)).Nodup := by rw [List.map_map]; exact hk
  simp only [ovr, lookup_of_mem hk1 (List.mem_map.2 ⟨x, hx, rfl⟩)]
theorem ovG_out {L : List (Nat × GI × Ob)} {k : Nat} (hk : k ∉ L.map (·.1)) : ovG (L.map fun x => (x.1, x.2.1)) G k = G k := by
  simp only [ovG]; rw [lookup_none (by rw [List.map_map]; exact hk)]
theorem ovr_out {H : Nat → Option Ob} {L : List (Nat × GI × Ob)} {k : Nat} (hk : k ∉ L.map (·.1)) : ovr (L.map fun x => (x.1, x.2.2)) H k = H k := by
  simp only [ovr]; rw [lookup_none (by rw [List.map_map]; exact hk)]

theorem Does.mono {f : FuncId} {args : Array Value} {R R' : Value → World → Prop} (h : Does P f args w R) (hr : ∀ v w', R v w' → R' v w') : Does P f args w R' := by
  rcases h with ⟨h1, h2⟩ | ⟨v, w', h1, h2⟩
  · refine .inl ⟨h1, h2.mono fun e w' he => ?_⟩
    cases e with
    | returned v => exact hr _ _ he
    | panicked c => exact he
    | outgrown => exact he
  · exact .inr ⟨v, w', h1, hr _ _ h2⟩

theorem cells_tr {own : Bool} {v : Value} {x : D} {S : List Nat} (h : Tr w own v x S) (hf : Flat v) : TrL w own v.cells.toList (cellsD x) S := by
  have one : (∀ cs, v ≠ .agg cs) → (∀ ds, x ≠ .g ds) → TrL w own v.cells.toList (cellsD x) S := by
    intro h1 h2
    have e1 : v.cells = #[v] := by cases v <;> first | rfl | exact absurd rfl (h1 _)
    have e2 : cellsD x = [x] := by cases x <;> first | rfl | exact absurd rfl (h2 _)
    rw [e1, e2]
    have := TrL.cons v x S [] [] [] h .nil
    simpa using this
  cases h with
  | g cs ds S h => exact h
  | _ => exact one (by intros; simp) (by intros; simp)

/-- The parts of a result. -/
theorem parts_tr {own : Bool} {v : Value} {x : D} {S : List Nat} (h : Tr w own v x S) (hf : RetFlat v) : ∃ vs, TrL w own vs (partsD x) S ∧ (∀ u ∈ vs, u.oneCell' = true) ∧
    ∀ {G : Nat → GI} {H : Nat → Option Ob} {Av : Nat → Prop} {avs : List AV}, AVRL w G H Av vs avs → AVR w G H Av v (retAV x avs) := by
  have one : ∀ {v : Value} {x : D} {S : List Nat}, Tr w own v x S → Flat v → (∀ vs, x ≠ .t vs) → ∀ {G : Nat → GI} {H : Nat → Option Ob} {Av : Nat → Prop} {avs : List AV} {us : List Value} {bs : List AV}, AVRL w G H Av (v.cells.toList ++ us) avs → AVR w G H Av v (oneAV x avs) ∧ AVRL w G H Av us (avs.drop (cellsD x).length) := by
    intro v x S h hf hx G H Av avs us bs ha
    have hl := (cells_tr h hf).length
    have h1 := ha.take v.cells.toList.length
    have h2 := ha.drop v.cells.toList.length
    rw [List.take_left] at h1
    rw [List.drop_left] at h2
    rw [hl] at h1 h2
    refine ⟨?_, h2⟩
    cases h with
    | g cs ds S h => exact .g _ _ h1
    | t vs ds S h => exact absurd rfl (hx _)
    | _ =>
      simp only [cellsD, List.length_singleton] at h1
      simp only [oneAV]
      cases avs with
      | nil => cases h1
      | cons a as =>
        simp only [List.take_succ_cons, List.take_zero] at h1
        cases h1 with
        | cons _ _ _ _ h _ => exact h
  by_cases hx : ∃ vs, x = .t vs
  · obtain ⟨ds, rfl⟩ := hx
    cases h with
    | t vs _ _ hs =>
      have hfl : ∀ u ∈ vs.toList, Flat u := by
        rcases hf with hf | ⟨us, e, hf⟩
        · have := hf (.tuple vs) (by simp [Value.cells])
          simp [Value.oneCell'] at this
        · cases e; exact hf
      have key : ∀ {us : List Value} {ds : List D} {S : List Nat}, TrL w own us ds S → (∀ u ∈ us, Flat u) → (∀ d ∈ ds, ∀ vs, d ≠ .t vs) →
          TrL w own (us.flatMap fun u => u.cells.toList) (ds.flatMap cellsD) S ∧
          ∀ {G : Nat → GI} {H : Nat → Option Ob} {Av : Nat → Prop} {avs : List AV}, AVRL w G H Av (us.flatMap fun u => u.cells.toList) avs → AVRL w G H Av us (tupAV ds avs) := by
        intro us ds S h
        induction h using TrL.rec (motive_1 := fun _ _ _ _ => True) with
        | nil => intro _ _; exact ⟨.nil, fun _ => .nil⟩
        | cons v d S us ds Ss h hs _ ih =>
          intro hf hd
          obtain ⟨i1, i2⟩ := ih (fun u hu => hf u (by simp [hu])) fun d' hd' => hd d' (by simp [hd'])
          refine ⟨by simpa using (cells_tr h (hf v (by simp))).append i1, fun {G H Av avs} ha => ?_⟩
          rw [List.flatMap_cons] at ha
          obtain ⟨o1, o2⟩ := one h (hf v (by simp)) (hd d (by simp)) (bs := []) ha
          exact .cons _ _ _ _ o1 (i2 o2)
        | _ => trivial
      have hnt : ∀ d ∈ ds, ∀ vs, d ≠ .t vs := by
        intro d hd vs' e
        subst e
        obtain ⟨j, hj, hjd⟩ := List.mem_iff_getElem.1 hd
        obtain ⟨u, S1, hu, ht, _⟩ := hs.get (j := j) (d := .t vs') (by rw [List.getElem?_eq_getElem hj, hjd])
        cases ht with
        | t us _ _ _ =>
          have := hfl _ (List.mem_of_getElem? hu) (.tuple us) (by simp [Value.cells])
          simp [Value.oneCell'] at this
      obtain ⟨k1, k2⟩ := key hs hfl hnt
      exact ⟨_, k1, fun u hu => by
        obtain ⟨v, hv, hu⟩ := List.mem_flatMap.1 hu
        exact hfl v hv u hu, fun ha => .t _ _ (k2 ha)⟩
  · have hnx : ∀ vs, x ≠ .t vs := fun vs e => hx ⟨vs, e⟩
    have hfl : Flat v := by
      rcases hf with hf | ⟨us, rfl, hf⟩
      · exact hf
      · cases h; exact absurd rfl (hnx _)
    have hp : partsD x = cellsD x := by cases x <;> first | rfl | exact absurd rfl (hnx _)
    have hr : ∀ avs, retAV x avs = oneAV x avs := by intro avs; cases x <;> first | rfl | exact absurd rfl (hnx _)
    rw [hp]
    refine ⟨_, cells_tr h hfl, hfl, fun {G H Av avs} ha => ?_⟩
    rw [hr]
    exact (one h hfl hnx (us := []) (bs := []) (by simpa using ha)).1

/-- A call whose answer is one's own. -/
theorem call_own (h : RelG B G s a w) {f : FuncId} {io : Option AV} {iov : Option Value} (hio : ∀ av, io = some av → ∃ v, iov = some v ∧ AVR w G s.heap (Ban B.F G s.heap) v av) (hio0 : io = none → iov = none)
    {rest : List AV} {vs : List Value} (hrest : AVRL w G s.heap (Ban B.F G s.heap) vs rest) {ds0 : List D} {ks : List Nat} (hic : ioCs s.heap (ioCells io) = some (ds0, ks)) {ds : List D} (hb : borL s.heap rest = some ds)
    (hks : ks.Nodup) (hdis : ∀ k ∈ ks, k ∉ rest.flatMap (keyA s.heap)) {out : Ret} (hf : FnOK P f (ioIn io ds0 ++ ds.map .d) out) (hdeep : out.deep = true) (hoi : out.io.isSome = io.isSome)
    {key : Nat} (hfree : ∀ x ∈ adObs key (partsD out.ret), s.heap x.1 = none) {os : List (Nat × Ob)} (hos : ioObs s.heap (ioCells io) (ioOut out.io) = some os) :
    Does P f (iov.toList ++ vs).toArray w fun v w' => ∃ G', RelG B G' { s with heap := ovr (os ++ adObs key (partsD out.ret)) s.heap } a w' ∧
      AVR w' G' (ovr (os ++ adObs key (partsD out.ret)) s.heap) (Ban B.F G' (ovr (os ++ adObs key (partsD out.ret)) s.heap)) v (retAV out.ret (adCells key (partsD out.ret))) := by
  -- what is handed
  have hcells : AVRL w G s.heap (Ban B.F G s.heap) ((iov.toList).flatMap fun v => v.cells.toList) (ioCells io) ∧ (∀ v ∈ iov.toList, Flat v) ∧ ∀ S, TrL w true ((iov.toList).flatMap fun v => v.cells.toList) ds0 S → ∀ Sd, ArgsR w vs (ds.map .d) Sd [] → ArgsR w (iov.toList ++ vs) (ioIn io ds0 ++ ds.map .d) Sd S := by
    cases io with
    | none =>
      rw [hio0 rfl]
      refine ⟨.nil, by simp, fun S hS Sd ha => ?_⟩
      cases hS
      exact ha
    | some av =>
      obtain ⟨v, rfl, hv⟩ := hio av rfl
      have hc : AVRL w G s.heap (Ban B.F G s.heap) v.cells.toList (cellsA av) ∧ Flat v ∧ ∀ S, TrL w true v.cells.toList ds0 S → Tr w true v (ioD av ds0) S := by
        cases hav : av with
        | g cs =>
          subst hav
          cases hv with
          | g us _ hus =>
            obtain ⟨_, _, o, _⟩ := ioCs_ok h hus hic
            exact ⟨hus, o, fun S hS => .g _ _ _ hS⟩
        | _ =>
          subst hav
          simp only [ioCells, cellsA] at hic
          obtain ⟨_, ht, o, _⟩ := ioCs_ok h (.cons _ _ _ _ hv .nil) hic
          have o1 := o v (by simp)
          have hc1 : v.cells = #[v] := by cases v <;> simp_all [Value.cells, Value.oneCell']
          rw [hc1]
          refine ⟨.cons _ _ _ _ hv .nil, flat_one o1, fun S hS => ?_⟩
          cases hS with
          | cons _ d S1 _ ds1 S2 h1 h2 =>
            cases h2
            simpa [ioD] using h1
      refine ⟨by simpa [ioCells] using hc.1, by simpa using hc.2.1, fun S hS Sd ha => ?_⟩
      have := ArgsR.io v _ S vs _ Sd [] (hc.2.2 S (by simpa using hS)) hc.2.1 ha
      simpa [ioIn] using this
  obtain ⟨hcv, hfl, hargs⟩ := hcells
  obtain ⟨S, t1, t2, t3, t4, t5⟩ := ioCs_ok h hcv hic
  obtain ⟨Sd, u1, u2⟩ := borL_ok h hrest hb
  refine (hf w _ Sd S (hargs S t1 Sd u1) (t4 hks) fun b hb hbd => ?_).mono fun v w' hp => ?_
  · obtain ⟨k, hk, hm⟩ := t3 b hb
    exact hdis k hk ((u2 b hbd).2 k hm)
  obtain ⟨hr, hkeep, S', Si, r1, r2, r3, r4, r5, r6, r7, _⟩ := hp
  rw [hdeep] at r1
  obtain ⟨r7, r8⟩ := r7 hdeep
  -- what was handed, now
  have hio' : TrL w' true ((iov.toList).flatMap fun v => v.cells.toList) (ioOut out.io) Si := by
    cases hoo : out.io with
    | none =>
      rw [hoo] at r3 hoi
      cases io with
      | some _ => simp at hoi
      | none =>
        rw [hio0 rfl]
        have : Si = [] := r3
        subst this
        exact .nil
    | some x =>
      rw [hoo] at r3 hoi
      cases io with
      | none => simp at hoi
      | some av =>
        obtain ⟨v0, rfl, _⟩ := hio av rfl
        obtain ⟨v1, vs1, e, ht⟩ := r3
        simp only [Option.toList_some, List.singleton_append, List.cons.injEq] at e
        obtain ⟨rfl, rfl⟩ := e
        have := cells_tr ht (hfl v0 (by simp))
        simpa [ioOut] using this
  obtain ⟨L1, a1, a2, a3, a4⟩ := ioEnts h hcv hic hks hio' r4 hos
  obtain ⟨us, p1, p2, p3⟩ := parts_tr r1 r2
  obtain ⟨L2, b1, b2, b3, b4⟩ := adEnts p1 r7 p2 key
  have hkk : ∀ x ∈ L1, ∀ y ∈ L2, x.1 ≠ y.1 := by
    intro x hx y hy e
    have h1 : x.1 ∈ ks := by rw [← a2]; exact List.mem_map.2 ⟨x, hx, rfl⟩
    have h2 := hfree (y.1, y.2.2) (by rw [← b1]; exact List.mem_map.2 ⟨y, hy, rfl⟩)
    exact t5 x.1 h1 (by rw [e]; exact h2)
  have hE := a3.append b3 hkk fun b hb hb' => r6 b hb' hb
  have hM : ∀ b ∈ S, ∃ x ∈ L1 ++ L2, b ∈ ownOf (G x.1) (s.heap x.1) := fun b hb => by
    obtain ⟨k, hk, hm⟩ := t3 b hb
    rw [← a2] at hk
    obtain ⟨x, hx, rfl⟩ := List.mem_map.1 hk
    exact ⟨x, by simp [hx], hm⟩
  have hfresh : ∀ b ∈ Si ++ S', (∃ y ∈ L1 ++ L2, b ∈ ownOf (G y.1) (s.heap y.1)) ∨ w.heap.size ≤ b := by
    intro b hb
    have : w.heap.size ≤ b ∨ b ∈ S := by
      rcases List.mem_append.1 hb with hb | hb
      · exact r5 b hb
      · exact r8 b hb
    rcases this with h1 | h1
    · exact .inr h1
    · exact .inl (hM b h1)
  obtain ⟨hrel, havr⟩ := h.steps (L1 ++ L2) hE.keys hr (fun b hb hn => hkeep b hb fun hbS => by
      obtain ⟨x, hx, hm⟩ := hM b hbS
      exact hn x hx hm) (fun x hx o ho => by
      rcases List.mem_append.1 hx with hx | hx
      · exact a4 x hx o ho
      · have := hfree (x.1, x.2.2) (by rw [← b1]; exact List.mem_map.2 ⟨x, hx, rfl⟩)
        rw [ho] at this; cases this) (fun x hx b hb => hfresh b (hE.sub x hx b hb)) hE.nd hE.dis (fun x hx => by
      obtain ⟨sz, xs, ve, e, hR⟩ := hE.row x hx
      rw [e]
      exact hR _)
  have hmapO : (L1 ++ L2).map (fun x => (x.1, x.2.2)) = os ++ adObs key (partsD out.ret) := by rw [List.map_append, a1, b1]
  rw [hmapO] at hrel havr
  refine ⟨_, hrel, p3 (b4 _ _ _ (fun x hx => ?_) fun b hb hba => ?_)⟩
  · have hx' : x ∈ L1 ++ L2 := by simp [hx]
    exact ⟨ovG_in hE.keys hx', by rw [← hmapO]; exact ovr_in hE.keys hx'⟩
  · -- a block of the answer that is barred is owned through a new row
    rw [← hmapO] at hba
    rcases hba with ⟨k, hm⟩ | hF
    · by_cases hk : k ∈ (L1 ++ L2).map (·.1)
      · obtain ⟨x, hx, rfl⟩ := List.mem_map.1 hk
        rw [ovG_in hE.keys hx, ovr_in hE.keys hx] at hm
        rcases List.mem_append.1 hx with hx | hx
        · exact absurd (a3.sub x hx b hm) (r6 b hb)
        · exact ⟨x, hx, hm⟩
      · rw [ovG_out hk, ovr_out hk] at hm
        exfalso
        rcases r8 b hb with h1 | h1
        · have := h.own_lt ⟨k, hm⟩; omega
        · obtain ⟨x, hx, hmx⟩ := hM b h1
          exact hk (List.mem_map.2 ⟨x, hx, h.disj x.1 k b hmx hm⟩)
    · exfalso
      rcases r8 b hb with h1 | h1
      · have := (h.ban b hF).1
        have := h.base
        omega
      · obtain ⟨x, hx, hmx⟩ := hM b h1
        exact h.noF hmx hF
end rel
end Go.Fs
