/- A part of the proof: an evaluator of the program's code over plain data, proved sound, and walks of the program's functions by it. No conditions beyond those in the theorems. -/
import Derived.Test.YtbgbnmghhmfihaaGreatLawMp4
set_option linter.unusedVariables false
set_option linter.unusedSimpArgs false
set_option linter.constructorNameAsVariable false
set_option linter.unusedSectionVars false
set_option linter.defProp false
set_option linter.unusedVariables false
set_option linter.constructorNameAsVariable false
namespace Go.Fs
open Go.RowKit

def ioD (av : AV) (ds : List D) : D :=
  match av with
  | .g _ => .g ds
  | _ => ds.headD .u
def ioIn (io : Option AV) (ds : List D) : List In :=
  match io with
  | some av => [.io (ioD av ds)]
  | none => []
def ioCells (io : Option AV) : List AV :=
  match io with
  | some av => cellsA av
  | none => []
def ioOut (io : Option D) : List D :=
  match io with
  | some x => cellsD x
  | none => []

section rel
variable {P : Program} {T : Tab} {B : Ctx} {G : Nat → GI} {s : St} {a : Act} {w w' : World}

theorem ovG_in {L : List (Nat × GI × Ob)} (hk : (L.map (·.1)).Nodup) {x : Nat × GI × Ob} (hx : x ∈ L) : ovG (L.map fun x => (x.1, x.2.1)) G x.1 = x.2.1 := by
  have hk1 : ((L.map fun x => (x.1, x.2.1)).map (·.1)).Nodup := by rw [List.map_map]; exact hk
  simp only [ovG, lookup_of_mem hk1 (List.mem_map.2 ⟨x, hx, rfl⟩)]
theorem ovr_in {H : Nat → Option Ob} {L : List (Nat × GI × Ob)} (hk : (L.map (·.1)).Nodup) {x : Nat × GI × Ob} (hx : x ∈ L) : ovr (L.map fun x => (x.1, x.2.2)) H x.1 = some x.2.2 := by
  have hk1 : ((L.map fun x => (x.1, x.2.2)).map (·.1)).Nodup := by rw [List.map_map]; exact hk
  simp only [ovr, lookup_of_mem hk1 (List.mem_map.2 ⟨x, hx, rfl⟩)]
theorem ovG_out {L : List (Nat × GI × Ob)} {k : Nat} (hk : k ∉ L.map (·.1)) : ovG (L.map fun x => (x.1, x.2.1)) G k = G k := by
  simp only [ovG]; rw [lookup_none (by rw [List.map_map]; exact hk)]
theorem ovr_out {H : Nat → Option Ob} {L : List (Nat × GI × Ob)} {k : Nat} (hk : k ∉ L.map (·.1)) : ovr (L.map fun x => (x.1, x.2.2)) H k = H k := by
  simp only [ovr]; rw [lookup_none (by rw [List.map_map]; exact hk)]

theorem Does.mono {f : FuncId} {args : Array Value} {R R' : Value → World → Prop} (h : Does P f args w R) (hr : ∀ v w', R v w' → R' v w') : Does P f args w R' := by
  rcases h with ⟨h1, h2⟩ | ⟨v, w', h1, h2⟩
  · refine .inl ⟨h1, h2.mono fun e w' he => ?_⟩
    cases e with
    | returned v => exact hr _ _ he
    | panicked c => exact he
    | outgrown => exact he
  · exact .inr ⟨v, w', h1, hr _ _ h2⟩

theorem cells_tr {own : Bool} {v : Value} {x : D} {S : List Nat} (h : Tr w own v x S) (hf : Flat v) : TrL w own v.cells.toList (cellsD x) S := by
  have one : (∀ cs, v ≠ .agg cs) → (∀ ds, x ≠ .g ds) → TrL w own v.cells.toList (cellsD x) S := by
    intro h1 h2
    have e1 : v.cells = #[v] := by cases v <;> first | rfl | exact absurd rfl (h1 _)
    have e2 : cellsD x = [x] := by cases x <;> first | rfl | exact absurd rfl (h2 _)
    rw [e1, e2]
    have := TrL.cons v x S [] [] [] h .nil
    simpa using this
  cases h with
  | g cs ds S h => exact h
  | _ => exact one (by intros; simp) (by intros; simp)

/-- The parts of a result. -/
theorem parts_tr {own : Bool} {v : Value} {x : D} {S : List Nat} (h : Tr w own v x S) (hf : RetFlat v) : ∃ vs, TrL w own vs (partsD x) S ∧ (∀ u ∈ vs, u.oneCell' = true) ∧
    ∀ {G : Nat → GI} {H : Nat → Option Ob} {Av : Nat → Prop} {avs : List AV}, AVRL w G H Av vs avs → AVR w G H Av v (retAV x avs) := by
  have one : ∀ {v : Value} {x : D} {S : List Nat}, Tr w own v x S → Flat v → (∀ vs, x ≠ .t vs) → ∀ {G : Nat → GI} {H : Nat → Option Ob} {Av : Nat → Prop} {avs : List AV} {us : List Value} {bs : List AV}, AVRL w G H Av (v.cells.toList ++ us) avs → AVR w G H Av v (oneAV x avs) ∧ AVRL w G H Av us (avs.drop (cellsD x).length) := by
    intro v x S h hf hx G H Av avs us bs ha
    have hl := (cells_tr h hf).length
    have h1 := ha.take v.cells.toList.length
    have h2 := ha.drop v.cells.toList.length
    rw [List.take_left] at h1
    rw [List.drop_left] at h2
    rw [hl] at h1 h2
    refine ⟨?_, h2⟩
    cases h with
    | g cs ds S h => exact .g _ _ h1
    | t vs ds S h => exact absurd rfl (hx _)
    | _ =>
      simp only [cellsD, List.length_singleton] at h1
      simp only [oneAV]
      cases avs with
      | nil => cases h1
      | cons a as =>
        simp only [List.take_succ_cons, List.take_zero] at h1
        cases h1 with
        | cons _ _ _ _ h _ => exact h
  by_cases hx : ∃ vs, x = .t vs
  · obtain ⟨ds, rfl⟩ := hx
    cases h with
    | t vs _ _ hs =>
      have hfl : ∀ u ∈ vs.toList, Flat u := by
        rcases hf with hf | ⟨us, e, hf⟩
        · have := hf (.tuple vs) (by simp [Value.cells])
          simp [Value.oneCell'] at this
        · cases e; exact hf
      have key : ∀ {us : List Value} {ds : List D} {S : List Nat}, TrL w own us ds S → (∀ u ∈ us, Flat u) → (∀ d ∈ ds, ∀ vs, d ≠ .t vs) →
          TrL w own (us.flatMap fun u => u.cells.toList) (ds.flatMap cellsD) S ∧
          ∀ {G : Nat → GI} {H : Nat → Option Ob} {Av : Nat → Prop} {avs : List AV}, AVRL w G H Av (us.flatMap fun u => u.cells.toList) avs → AVRL w G H Av us (tupAV ds avs) := by
        intro us ds S h
        induction h using TrL.rec (motive_1 := fun _ _ _ _ => True) with
        | nil => intro _ _; exact ⟨.nil, fun _ => .nil⟩
        | cons v d S us ds Ss h hs _ ih =>
          intro hf hd
          obtain ⟨i1, i2⟩ := ih (fun u hu => hf u (by simp [hu])) fun d' hd' => hd d' (by simp [hd'])
          refine ⟨by simpa using (cells_tr h (hf v (by simp))).append i1, fun {G H Av avs} ha => ?_⟩
          rw [List.flatMap_cons] at ha
          obtain ⟨o1, o2⟩ := one h (hf v (by simp)) (hd d (by simp)) (bs := []) ha
          exact .cons _ _ _ _ o1 (i2 o2)
        | _ => trivial
      have hnt : ∀ d ∈ ds, ∀ vs, d ≠ .t vs := by
        intro d hd vs' e
        subst e
        obtain ⟨j, hj, hjd⟩ := List.mem_iff_getElem.1 hd
        obtain ⟨u, S1, hu, ht, _⟩ := hs.get (j := j) (d := .t vs') (by rw [List.getElem?_eq_getElem hj, hjd])
        cases ht with
        | t us _ _ _ =>
          have := hfl _ (List.mem_of_getElem? hu) (.tuple us) (by simp [Value.cells])
          simp [Value.oneCell'] at this
      obtain ⟨k1, k2⟩ := key hs hfl hnt
      exact ⟨_, k1, fun u hu => by
        obtain ⟨v, hv, hu⟩ := List.mem_flatMap.1 hu
        exact hfl v hv u hu, fun ha => .t _ _ (k2 ha)⟩
  · have hnx : ∀ vs, x ≠ .t vs := fun vs e => hx ⟨vs, e⟩
    have hfl : Flat v := by
      rcases hf with hf | ⟨us, rfl, hf⟩
      · exact hf
      · cases h; exact absurd rfl (hnx _)
    have hp : partsD x = cellsD x := by cases x <;> first | rfl | exact absurd rfl (hnx _)
    have hr : ∀ avs, retAV x avs = oneAV x avs := by intro avs; cases x <;> first | rfl | exact absurd rfl (hnx _)
    rw [hp]
    refine ⟨_, cells_tr h hfl, hfl, fun {G H Av avs} ha => ?_⟩
    rw [hr]
    exact (one h hfl hnx (us := []) (bs := []) (by simpa using ha)).1

/-- A call whose answer is one's own. -/
theorem call_own (h : RelG B G s a w) {f : FuncId} {io : Option AV} {iov : Option Value} (hio : ∀ av, io = some av → ∃ v, iov = some v ∧ AVR w G s.heap (Ban B.F G s.heap) v av) (hio0 : io = none → iov = none)
    {rest : List AV} {vs : List Value} (hrest : AVRL w G s.heap (Ban B.F G s.heap) vs rest) {ds0 : List D} {ks : List Nat} (hic : ioCs s.heap (ioCells io) = some (ds0, ks)) {ds : List D} (hb : borL s.heap rest = some ds)
    (hks : ks.Nodup) (hdis : ∀ k ∈ ks, k ∉ rest.flatMap (keyA s.heap)) {out : Ret} (hf : FnOK P f (ioIn io ds0 ++ ds.map .d) out) (hdeep : out.deep = true) (hoi : out.io.isSome = io.isSome)
    {key : Nat} (hfree : ∀ x ∈ adObs key (partsD out.ret), s.heap x.1 = none) {os : List (Nat × Ob)} (hos : ioObs s.heap (ioCells io) (ioOut out.io) = some os) :
    Does P f (iov.toList ++ vs).toArray w fun v w' => ∃ G', RelG B G' { s with heap := ovr (os ++ adObs key (partsD out.ret)) s.heap } a w' ∧
      AVR w' G' (ovr (os ++ adObs key (partsD out.ret)) s.heap) (Ban B.F G' (ovr (os ++ adObs key (partsD out.ret)) s.heap)) v (retAV out.ret (adCells key (partsD out.ret))) := by
  -- what is handed
  have hcells : AVRL w G s.heap (Ban B.F G s.heap) ((iov.toList).flatMap fun v => v.cells.toList) (ioCells io) ∧ (∀ v ∈ iov.toList, Flat v) ∧ ∀ S, TrL w true ((iov.toList).flatMap fun v => v.cells.toList) ds0 S → ∀ Sd, ArgsR w vs (ds.map .d) Sd [] → ArgsR w (iov.toList ++ vs) (ioIn io ds0 ++ ds.map .d) Sd S := by
    cases io with
    | none =>
      rw [hio0 rfl]
      refine ⟨.nil, by simp, fun S hS Sd ha => ?_⟩
      cases hS
      exact ha
    | some av =>
      obtain ⟨v, rfl, hv⟩ := hio av rfl
      have hc : AVRL w G s.heap (Ban B.F G s.heap) v.cells.toList (cellsA av) ∧ Flat v ∧ ∀ S, TrL w true v.cells.toList ds0 S → Tr w true v (ioD av ds0) S := by
        cases hav : av with
        | g cs =>
          subst hav
          cases hv with
          | g us _ hus =>
            obtain ⟨_, _, o, _⟩ := ioCs_ok h hus hic
            exact ⟨hus, o, fun S hS => .g _ _ _ hS⟩
        | _ =>
          subst hav
          simp only [ioCells, cellsA] at hic
          obtain ⟨_, ht, o, _⟩ := ioCs_ok h (.cons _ _ _ _ hv .nil) hic
          have o1 := o v (by simp)
          have hc1 : v.cells = #[v] := by cases v <;> simp_all [Value.cells, Value.oneCell']
          rw [hc1]
          refine ⟨.cons _ _ _ _ hv .nil, flat_one o1, fun S hS => ?_⟩
          cases hS with
          | cons _ d S1 _ ds1 S2 h1 h2 =>
            cases h2
            simpa [ioD] using h1
      refine ⟨by simpa [ioCells] using hc.1, by simpa using hc.2.1, fun S hS Sd ha => ?_⟩
      have := ArgsR.io v _ S vs _ Sd [] (hc.2.2 S (by simpa using hS)) hc.2.1 ha
      simpa [ioIn] using this
  obtain ⟨hcv, hfl, hargs⟩ := hcells
  obtain ⟨S, t1, t2, t3, t4, t5⟩ := ioCs_ok h hcv hic
  obtain ⟨Sd, u1, u2⟩ := borL_ok h hrest hb
  refine (hf w _ Sd S (hargs S t1 Sd u1) (t4 hks) fun b hb hbd => ?_).mono fun v w' hp => ?_
  · obtain ⟨k, hk, hm⟩ := t3 b hb
    exact hdis k hk ((u2 b hbd).2 k hm)
  obtain ⟨hr, hkeep, S', Si, r1, r2, r3, r4, r5, r6, r7, _⟩ := hp
  rw [hdeep] at r1
  obtain ⟨r7, r8⟩ := r7 hdeep
  -- what was handed, now
  have hio' : TrL w' true ((iov.toList).flatMap fun v => v.cells.toList) (ioOut out.io) Si := by
    cases hoo : out.io with
    | none =>
      rw [hoo] at r3 hoi
      cases io with
      | some _ => simp at hoi
      | none =>
        rw [hio0 rfl]
        have : Si = [] := r3
        subst this
        exact .nil
    | some x =>
      rw [hoo] at r3 hoi
      cases io with
      | none => simp at hoi
      | some av =>
        obtain ⟨v0, rfl, _⟩ := hio av rfl
        obtain ⟨v1, vs1, e, ht⟩ := r3
        simp only [Option.toList_some, List.singleton_append, List.cons.injEq] at e
        obtain ⟨rfl, rfl⟩ := e
        have := cells_tr ht (hfl v0 (by simp))
        simpa [ioOut] using this
  obtain ⟨L1, a1, a2, a3, a4⟩ := ioEnts h hcv hic hks hio' r4 hos
  obtain ⟨us, p1, p2, p3⟩ := parts_tr r1 r2
  obtain ⟨L2, b1, b2, b3, b4⟩ := adEnts p1 r7 p2 key
  have hkk : ∀ x ∈ L1, ∀ y ∈ L2, x.1 ≠ y.1 := by
    intro x hx y hy e
    have h1 : x.1 ∈ ks := by rw [← a2]; exact List.mem_map.2 ⟨x, hx, rfl⟩
    have h2 := hfree (y.1, y.2.2) (by rw [← b1]; exact List.mem_map.2 ⟨y, hy, rfl⟩)
    exact t5 x.1 h1 (by rw [e]; exact h2)
  have hE := a3.append b3 hkk fun b hb hb' => r6 b hb' hb
  have hM : ∀ b ∈ S, ∃ x ∈ L1 ++ L2, b ∈ ownOf (G x.1) (s.heap x.1) := fun b hb => by
    obtain ⟨k, hk, hm⟩ := t3 b hb
    rw [← a2] at hk
    obtain ⟨x, hx, rfl⟩ := List.mem_map.1 hk
    exact ⟨x, by simp [hx], hm⟩
  have hfresh : ∀ b ∈ Si ++ S', (∃ y ∈ L1 ++ L2, b ∈ ownOf (G y.1) (s.heap y.1)) ∨ w.heap.size ≤ b := by
    intro b hb
    have : w.heap.size ≤ b ∨ b ∈ S := by
      rcases List.mem_append.1 hb with hb | hb
      · exact r5 b hb
      · exact r8 b hb
    rcases this with h1 | h1
    · exact .inr h1
    · exact .inl (hM b h1)
  obtain ⟨hrel, havr⟩ := h.steps (L1 ++ L2) hE.keys hr (fun b hb hn => hkeep b hb fun hbS => by
      obtain ⟨x, hx, hm⟩ := hM b hbS
      exact hn x hx hm) (fun x hx o ho => by
      rcases List.mem_append.1 hx with hx | hx
      · exact a4 x hx o ho
      · have := hfree (x.1, x.2.2) (by rw [← b1]; exact List.mem_map.2 ⟨x, hx, rfl⟩)
        rw [ho] at this; cases this) (fun x hx b hb => hfresh b (hE.sub x hx b hb)) hE.nd hE.dis (fun x hx => by
      obtain ⟨sz, xs, ve, e, hR⟩ := hE.row x hx
      rw [e]
      exact hR _)
  have hmapO : (L1 ++ L2).map (fun x => (x.1, x.2.2)) = os ++ adObs key (partsD out.ret) := by rw [List.map_append, a1, b1]
  rw [hmapO] at hrel havr
  refine ⟨_, hrel, p3 (b4 _ _ _ (fun x hx => ?_) fun b hb hba => ?_)⟩
  · have hx' : x ∈ L1 ++ L2 := by simp [hx]
    exact ⟨ovG_in hE.keys hx', by rw [← hmapO]; exact ovr_in hE.keys hx'⟩
  · -- a block of the answer that is barred is owned through a new row
    rw [← hmapO] at hba
    rcases hba with ⟨k, hm⟩ | hF
    · by_cases hk : k ∈ (L1 ++ L2).map (·.1)
      · obtain ⟨x, hx, rfl⟩ := List.mem_map.1 hk
        rw [ovG_in hE.keys hx, ovr_in hE.keys hx] at hm
        rcases List.mem_append.1 hx with hx | hx
        · exact absurd (a3.sub x hx b hm) (r6 b hb)
        · exact ⟨x, hx, hm⟩
      · rw [ovG_out hk, ovr_out hk] at hm
        exfalso
        rcases r8 b hb with h1 | h1
        · have := h.own_lt ⟨k, hm⟩; omega
        · obtain ⟨x, hx, hmx⟩ := hM b h1
          exact hk (List.mem_map.2 ⟨x, hx, h.disj x.1 k b hmx hm⟩)
    · exfalso
      rcases r8 b hb with h1 | h1
      · have := (h.ban b hF).1
        have := h.base
        omega
      · obtain ⟨x, hx, hmx⟩ := hM b h1
        exact h.noF hmx hF
end rel
end Go.Fs

set_option linter.unusedVariables false
set_option linter.constructorNameAsVariable false
namespace Go.Fs
open Go.RowKit

/-! ### a call whose answer may come to what was lent -/
def frz1 (H : Nat → Option Ob) (k : Nat) : Option (Nat → Option Ob) :=
  match H k with
  | some (.row sz xs dp fz ve) => some (if fz then H else upd H k (some (.row sz xs dp true ve)))
  | _ => none
def frzL (H : Nat → Option Ob) : List Nat → Option (Nat → Option Ob)
  | [] => some H
  | k :: ks => (frz1 H k).bind fun H' => frzL H' ks

/-! ### values, given away -/
def moveV (H : Nat → Option Ob) : AV → Option (D × Bool × (Nat → Option Ob))
  | .g cs => (moveCs H cs).map fun m => (.g m.1, m.2.1, m.2.2)
  | av => moveC H av
def moveVs (H : Nat → Option Ob) : List AV → Option (List D × Bool × (Nat → Option Ob))
  | [] => some ([], true, H)
  | av :: avs => (moveV H av).bind fun x => (moveVs x.2.2 avs).bind fun y => some (x.1 :: y.1, x.2.1 && y.2.1, y.2.2)

section rel
variable {P : Program} {T : Tab} {B : Ctx} {G : Nat → GI} {s : St} {a : Act} {w w' : World}

theorem frz1_ok (h : RelG B G s a w) {k : Nat} {H' : Nat → Option Ob} (hm : frz1 s.heap k = some H') :
    Eased B G s a w H' ∧ ownOf (G k) (H' k) = [] ∧ ∀ i, ownOf (G i) (s.heap i) = [] → ownOf (G i) (H' i) = [] := by
  unfold frz1 at hm
  split at hm
  case h_2 => cases hm
  rename_i sz xs dp fz ve hk
  simp only [Option.some.injEq] at hm
  subst hm
  cases fz with
  | true => exact ⟨.refl h, by simp [hk, ownOf], fun i hi => hi⟩
  | false =>
    obtain ⟨f1, _, f3⟩ := h.freeze hk
    refine ⟨⟨f1, f3⟩, by simp [upd_same, ownOf], fun i hi => ?_⟩
    by_cases e : i = k
    · subst e; simp [upd_same, ownOf]
    · simpa [upd_ne _ _ e] using hi

theorem frzL_ok : ∀ {s : St} (h : RelG B G s a w) {ks : List Nat} {H' : Nat → Option Ob} (hm : frzL s.heap ks = some H'),
    Eased B G s a w H' ∧ (∀ k ∈ ks, ownOf (G k) (H' k) = []) ∧ ∀ i, ownOf (G i) (s.heap i) = [] → ownOf (G i) (H' i) = []
  | s, h, [], H', hm => by
    simp only [frzL, Option.some.injEq] at hm
    subst hm
    exact ⟨.refl h, by simp, fun _ h => h⟩
  | s, h, k :: ks, H', hm => by
    simp only [frzL, Option.bind_eq_some_iff] at hm
    obtain ⟨H1, m1, m2⟩ := hm
    obtain ⟨e1, o1, p1⟩ := frz1_ok h m1
    obtain ⟨e2, o2, p2⟩ := frzL_ok e1.rel m2
    refine ⟨e1.trans e2, ?_, fun i hi => p2 i (p1 i hi)⟩
    intro i hi
    rcases List.mem_cons.1 hi with rfl | hi
    · exact p2 i o1
    · exact o2 i hi

/-- A call whose answer may come to what was lent. -/
theorem call_shared (h : RelG B G s a w) {f : FuncId} {rest : List AV} {vs : List Value} (hrest : AVRL w G s.heap (Ban B.F G s.heap) vs rest) {H1 : Nat → Option Ob}
    (hfz : frzL s.heap (rest.flatMap (keyA s.heap)) = some H1) (hkeys : rest.flatMap (keyA H1) = rest.flatMap (keyA s.heap)) {ds : List D} (hb : borL H1 rest = some ds) {out : Ret} (hf : FnOK P f (ds.map .d) out) (hio : out.io = none) :
    Does P f vs.toArray w fun v w' => RelG B G { s with heap := H1 } a w' ∧ AVR w' G H1 (Ban B.F G H1) v (retAV out.ret ((partsD out.ret).map .d)) := by
  obtain ⟨e1, o1, _⟩ := frzL_ok h hfz
  obtain ⟨Sd, u1, u2⟩ := borL_ok (s := { s with heap := H1 }) e1.rel (e1.avrl hrest) hb
  refine (hf w _ Sd [] u1 List.nodup_nil (by simp)).mono fun v w' hp => ?_
  obtain ⟨hr, hkeep, S', Si, r1, r2, r3, r4, r5, r6, r7, r8⟩ := hp
  have hrel := e1.rel.grow (w' := w') hr fun b hb => hkeep b hb (by simp)
  obtain ⟨us, p1, p2, p3⟩ := parts_tr r1 r2
  refine ⟨hrel, p3 (p1.avrl p2 fun b hb => ?_)⟩
  rintro (⟨k, hm⟩ | hF)
  · rcases r8 b hb with h1 | h1 | h1
    · have := e1.rel.own_lt ⟨k, hm⟩; omega
    · have hk := (u2 b h1).2 k hm
      have hm : b ∈ ownOf (G k) (H1 k) := hm
      rw [o1 k (hkeys ▸ hk)] at hm
      simp at hm
    · simp at h1
  · rcases r8 b hb with h1 | h1 | h1
    · have := (h.ban b hF).1
      have := h.base
      omega
    · exact (u2 b h1).1 hF
    · simp at h1

theorem moveV_ok (h : RelG B G s a w) {v : Value} {av : AV} (hv : AVR w G s.heap (Ban B.F G s.heap) v av) {d : D} {f : Bool} {H' : Nat → Option Ob} (hm : moveV s.heap av = some (d, f, H')) :
    Moved B G s a w H' ∧ ∃ S, Tr w f v d S ∧ Flat v ∧ (∀ b ∈ S, ¬ Ban B.F G H' b) ∧ (f = true → S.Nodup ∧ ∀ b ∈ S, Own G s.heap b) := by
  cases hav : av with
  | g cs =>
    subst hav
    simp only [moveV, Option.map_eq_some_iff, Prod.mk.injEq] at hm
    obtain ⟨⟨ds, f', H1⟩, m1, rfl, rfl, rfl⟩ := hm
    cases hv with
    | g vs _ hvs =>
      obtain ⟨M, S, t, o, n, w1⟩ := moveCs_ok h hvs m1
      exact ⟨M, S, .g _ _ _ t, o, n, w1⟩
  | _ =>
    subst hav
    obtain ⟨M, S, t, o, n, w1⟩ := moveC_ok h hv hm
    exact ⟨M, S, t, flat_one o, n, w1⟩

theorem Moved.avrl {H' : Nat → Option Ob} (h : Moved B G s a w H') {vs : List Value} {as : List AV} (hv : AVRL w G s.heap (Ban B.F G s.heap) vs as) : AVRL w G H' (Ban B.F G H') vs as := by
  have := h.avr (.t vs.toArray as (by simpa using hv))
  cases this with
  | t _ _ h => simpa using h

theorem moveVs_ok : ∀ {s : St} (h : RelG B G s a w) {vs : List Value} {avs : List AV} (hv : AVRL w G s.heap (Ban B.F G s.heap) vs avs) {ds : List D} {f : Bool} {H' : Nat → Option Ob} (hm : moveVs s.heap avs = some (ds, f, H')),
    Moved B G s a w H' ∧ ∃ S, TrL w f vs ds S ∧ (∀ v ∈ vs, Flat v) ∧ (∀ b ∈ S, ¬ Ban B.F G H' b) ∧ (f = true → S.Nodup ∧ ∀ b ∈ S, Own G s.heap b)
  | s, h, _, _, .nil, ds, f, H', hm => by
    simp only [moveVs, Option.some.injEq, Prod.mk.injEq] at hm
    obtain ⟨rfl, rfl, rfl⟩ := hm
    exact ⟨.refl h, [], .nil, by simp, by simp, fun _ => ⟨List.nodup_nil, by simp⟩⟩
  | s, h, _, _, .cons v av vs avs hv hvs, ds, f, H', hm => by
    simp only [moveVs, Option.bind_eq_some_iff] at hm
    obtain ⟨⟨d1, f1, H1⟩, m1, ⟨d2, f2, H2⟩, m2, hm⟩ := hm
    simp only [Option.some.injEq, Prod.mk.injEq] at hm
    obtain ⟨rfl, rfl, rfl⟩ := hm
    obtain ⟨M1, S1, t1, o1, n1, w1⟩ := moveV_ok h hv m1
    obtain ⟨M2, S2, t2, o2, n2, w2⟩ := moveVs_ok M1.rel (M1.avrl hvs) m2
    refine ⟨M1.trans M2, S1 ++ S2, ?_, ?_, ?_, ?_⟩
    · by_cases e : (f1 && f2) = true
      · rw [e]
        simp at e
        rw [e.1] at t1
        rw [e.2] at t2
        exact .cons _ _ _ _ _ _ t1 t2
      · rw [Bool.not_eq_true] at e
        rw [e]
        exact .cons _ _ _ _ _ _ t1.shared t2.shared
    · intro u hu
      rcases List.mem_cons.1 hu with rfl | hu
      · exact o1
      · exact o2 u hu
    · intro b hb hn
      rcases List.mem_append.1 hb with hb | hb
      · exact n1 b hb (M2.ban hn)
      · exact n2 b hb hn
    · intro e
      simp at e
      obtain ⟨a1, a2⟩ := w1 e.1
      obtain ⟨b1, b2⟩ := w2 e.2
      refine ⟨List.nodup_append.2 ⟨a1, b1, fun x hx y hy e => ?_⟩, fun b hb => ?_⟩
      · subst e
        exact n1 x hx (.inl (b2 x hy))
      · rcases List.mem_append.1 hb with hb | hb
        · exact a2 b hb
        · exact M1.own b (b2 b hb)
end rel

/-! ### how a function begins and ends -/
/-- Where keys of what is handed over begin. -/
def keyIn : Nat := 900000
def inAV : In → AV
  | .d (.g ds) => .g (ds.map .d)
  | .d x => .d x
  | .io x => oneAV x (adCells keyIn (cellsD x))
def inHeap : List In → (Nat → Option Ob)
  | .io x :: _ => ovr (adObs keyIn (cellsD x)) fun _ => none
  | _ => fun _ => none
def inSt (n : Nat) (ins : List In) : St := { n := n, env := fun t => (ins.map inAV).getD t .x, heap := inHeap ins }
def In.isD : In → Bool
  | .d _ => true
  | .io _ => false
/-- Only the first argument may be handed over. -/
def insOK : List In → Bool
  | .io _ :: ins => ins.all In.isD
  | ins => ins.all In.isD

def packD : List D → D
  | [d] => d
  | ds => .t ds

/-- The results' slots, or what their variables hold. -/
def resL (T : Tab) (s : St) : List ResultVar → Option (List AV)
  | [] => some []
  | .tmp t :: rs => (resL T s rs).map (s.env t :: ·)
  | .cell t ty :: rs => (opLoad T s.heap ty (s.env t)).bind fun av => (resL T s rs).map (av :: ·)

/-- What is given at the end. -/
def outR (T : Tab) (s : St) (aa : AV) (rs : List ResultVar) : Option Ret :=
  (resL T s rs).bind fun avs => (demAll s.heap avs).bind fun x => (moveVs x.2 x.1).bind fun y => match aa with
  | .x => some { ret := packD y.1, deep := y.2.1, io := none }
  | aa => if y.2.1 then (moveV y.2.2 aa).bind fun z => if z.2.1 then some { ret := packD y.1, deep := true, io := some z.1 } else none else none

def ancA : List In → AV
  | .io x :: _ => inAV (.io x)
  | _ => .x

end Go.Fs

set_option linter.unusedVariables false
set_option linter.constructorNameAsVariable false
namespace Go.Fs
open Go.RowKit

section rel
variable {P : Program} {T : Tab} {B : Ctx} {G : Nat → GI} {s : St} {a : Act} {w w' : World}

theorem inAV_d {H : Nat → Option Ob} {Av : Nat → Prop} {v : Value} {x : D} {S : List Nat} (h : Tr w false v x S) (hf : Flat v) (hS : ∀ b ∈ S, ¬ Av b) : AVR w G H Av v (inAV (.d x)) := by
  by_cases hg : ∃ ds, x = .g ds
  · obtain ⟨ds, rfl⟩ := hg
    cases h with
    | g cs _ _ hs => exact .g _ _ (hs.avrl hf hS)
  · have hx : ∀ ds, x ≠ .g ds := fun ds e => hg ⟨ds, e⟩
    have e : inAV (.d x) = .d x := by cases x <;> first | rfl | exact absurd rfl (hx _)
    rw [e]
    refine .d _ _ S ?_ h hS
    have : v.cells = #[v] := by
      cases h with
      | g cs ds S h => exact absurd rfl (hx _)
      | _ => rfl
    exact hf v (by rw [this]; simp)

theorem argsD : ∀ {vs : List Value} {ins : List In} {Sd M : List Nat} (h : ArgsR w vs ins Sd M), ins.all In.isD = true →
    M = [] ∧ ∀ {G : Nat → GI} {H : Nat → Option Ob} {Av : Nat → Prop}, (∀ b ∈ Sd, ¬ Av b) → AVRL w G H Av vs (ins.map inAV)
  | _, _, _, _, .nil, _ => ⟨rfl, fun _ => .nil⟩
  | _, _, _, _, .d v x S vs ins Sd M h hf hs, hi => by
    simp only [List.all_cons, Bool.and_eq_true] at hi
    obtain ⟨rfl, k⟩ := argsD hs hi.2
    exact ⟨rfl, fun hS => .cons _ _ _ _ (inAV_d h hf fun b hb => hS b (by simp [hb])) (k fun b hb => hS b (by simp [hb]))⟩
  | _, _, _, _, .io v x S vs ins Sd M h hf hs, hi => by simp [In.isD] at hi

theorem args_len : ∀ {vs : List Value} {ins : List In} {Sd M : List Nat} (h : ArgsR w vs ins Sd M), vs.length = ins.length
  | _, _, _, _, .nil => rfl
  | _, _, _, _, .d _ _ _ _ _ _ _ _ _ hs => by simp [args_len hs]
  | _, _, _, _, .io _ _ _ _ _ _ _ _ _ hs => by simp [args_len hs]

theorem oneAV_ok {H : Nat → Option Ob} {Av : Nat → Prop} {own : Bool} {v : Value} {x : D} {S : List Nat} (h : Tr w own v x S) (hf : Flat v) {avs : List AV} (ha : AVRL w G H Av v.cells.toList avs) : AVR w G H Av v (oneAV x avs) := by
  have hl := (cells_tr h hf).length
  cases h with
  | g cs ds S h =>
    have h1 := ha.length
    simp only [oneAV]
    rw [List.take_of_length_le (by rw [← h1, hl]; exact Nat.le_refl _)]
    exact .g _ _ ha
  | t vs ds S h =>
    have := hf (.tuple vs) (by simp [Value.cells])
    simp [Value.oneCell'] at this
  | _ =>
    simp only [Value.cells] at ha
    cases ha with
    | cons _ _ _ _ h _ => exact h

/-- A function begins. -/
theorem enter_rel {ins : List In} (hi : insOK ins = true) {n : Nat} {args : List Value} {Sd M : List Nat} (ha : ArgsR w args ins Sd M) (hM : M.Nodup) (hd : ∀ b ∈ M, b ∉ Sd) (hn : ins.length ≤ n) :
    ∃ B G, RelG B G (inSt n ins) { tmps := args.toArray ++ Array.replicate (n - args.toArray.size) undef, defers := [] } w ∧ B.base = w.heap.size ∧ B.w0 = w ∧ (∀ b, B.F b ↔ (b < w.heap.size ∧ b ∉ Sd ∧ b ∉ M)) ∧ (∀ b, B.M b ↔ b ∈ M) ∧ B.aa = ancA ins ∧ (∀ x rest, ins = .io x :: rest → ∃ vs, args = B.av :: vs ∧ Flat B.av) := by
  have hlen := args_len ha
  have mk : ∀ (G : Nat → GI) (av : Value), AVRL w G (inHeap ins) (Ban (fun b => b < w.heap.size ∧ b ∉ Sd ∧ b ∉ M) G (inHeap ins)) args (ins.map inAV) →
      (∀ k o, inHeap ins k = some o → ObR w G (inHeap ins) (Ban (fun b => b < w.heap.size ∧ b ∉ Sd ∧ b ∉ M) G (inHeap ins)) (G k) o) → (∀ k, (ownOf (G k) (inHeap ins k)).Nodup) →
      (∀ k k' b, b ∈ ownOf (G k) (inHeap ins k) → b ∈ ownOf (G k') (inHeap ins k') → k = k') → (∀ k b, b ∈ ownOf (G k) (inHeap ins k) → b ∈ M) →
      AVR w G (inHeap ins) (Ban (fun b => b < w.heap.size ∧ b ∉ Sd ∧ b ∉ M) G (inHeap ins)) av (ancA ins) →
      RelG { base := w.heap.size, w0 := w, F := fun b => b < w.heap.size ∧ b ∉ Sd ∧ b ∉ M, M := fun b => b ∈ M, av := av, aa := ancA ins } G (inSt n ins)
        { tmps := args.toArray ++ Array.replicate (n - args.toArray.size) undef, defers := [] } w := by
    intro G av h1 h2 h3 h4 h5 h6
    refine ⟨h2, fun t => ?_, ?_, rfl, h3, h4, fun k b hb => .inr (h5 k b hb), .refl w, fun _ _ _ => rfl, fun b hb => ⟨hb.1, hb.2.2⟩, Nat.le_refl _, h6⟩
    · show AVR w G (inHeap ins) _ _ ((ins.map inAV).getD t .x)
      rcases Nat.lt_or_ge t args.length with ht | ht
      · have e1 : args[t]? = some args[t] := List.getElem?_eq_getElem ht
        have e2 : (ins.map inAV)[t]? = some ((ins.map inAV)[t]'(by rw [List.length_map]; omega)) := List.getElem?_eq_getElem _
        have := h1.get e1 e2
        have e3 : (args.toArray ++ Array.replicate (n - args.toArray.size) undef).getD t undef = args[t] := by
          rw [Array.getD_eq_getD_getElem?, Array.getElem?_append_left (by simpa using ht)]
          simp [e1]
        rw [e3, List.getD_eq_getElem?_getD, e2]
        exact this
      · rw [List.getD_eq_getElem?_getD, List.getElem?_eq_none (by rw [List.length_map]; omega)]
        exact .x _
    · simp [inSt]; omega
  have avR : ∀ {G : Nat → GI} {H : Nat → Option Ob}, (∀ k b, b ∈ ownOf (G k) (H k) → b ∈ M) → ∀ b ∈ Sd, ¬ Ban (fun b => b < w.heap.size ∧ b ∉ Sd ∧ b ∉ M) G H b := by
    rintro G H ho b hb (⟨k, hm⟩ | hF)
    · exact hd b (ho k b hm) hb
    · exact hF.2.1 hb
  have plain : ins.all In.isD = true → inHeap ins = (fun _ => none) → ancA ins = .x → (∀ x rest, ins ≠ .io x :: rest) →
      ∃ B G, RelG B G (inSt n ins) { tmps := args.toArray ++ Array.replicate (n - args.toArray.size) undef, defers := [] } w ∧ B.base = w.heap.size ∧ B.w0 = w ∧ (∀ b, B.F b ↔ (b < w.heap.size ∧ b ∉ Sd ∧ b ∉ M)) ∧ (∀ b, B.M b ↔ b ∈ M) ∧ B.aa = ancA ins ∧ (∀ x rest, ins = .io x :: rest → ∃ vs, args = B.av :: vs ∧ Flat B.av) := by
    intro h1 h2 h3 h4
    obtain ⟨_, k⟩ := argsD ha h1
    refine ⟨_, fun _ => default, mk (fun _ => default) undef (k (avR (by rw [h2]; simp [ownOf]))) ?_ ?_ ?_ ?_ (by rw [h3]; exact .x _), rfl, rfl, fun _ => Iff.rfl, fun _ => Iff.rfl, rfl, fun x rest e => absurd e (h4 x rest)⟩
    · rw [h2]; intro k o ho; cases ho
    · rw [h2]; intro k; simp [ownOf]
    · rw [h2]; intro k k' b hb; simp [ownOf] at hb
    · rw [h2]; intro k b hb; simp [ownOf] at hb
  cases ha with
  | nil => exact plain rfl rfl rfl (by intros; simp)
  | d v x S vs ins Sd' M' h hf hs => exact plain (by simpa [insOK] using hi) rfl rfl (by intros; simp)
  | io v x S vs ins' Sd' M' h hf hs =>
    obtain ⟨rfl, k⟩ := argsD hs (by simpa [insOK] using hi)
    rw [List.append_nil] at hM mk avR hd
    have hcells := cells_tr h hf
    obtain ⟨L, e1, e2, e3, e4⟩ := adEnts hcells hM hf keyIn
    have hH : inHeap (.io x :: ins') = ovr (L.map fun x => (x.1, x.2.2)) fun _ => none := by rw [e1]; rfl
    have inG : ∀ x ∈ L, ovG (L.map fun x => (x.1, x.2.1)) (fun _ => default) x.1 = x.2.1 := fun x hx => ovG_in e3.keys hx
    have inH : ∀ x' ∈ L, inHeap (.io x :: ins') x'.1 = some x'.2.2 := fun x' hx => by rw [hH]; exact ovr_in e3.keys hx
    have outH : ∀ k, k ∉ L.map (·.1) → inHeap (.io x :: ins') k = none := fun k hk => by rw [hH]; exact ovr_out hk
    have hmem : ∀ k, inHeap (.io x :: ins') k ≠ none → ∃ y ∈ L, y.1 = k := fun k hk => by
      by_cases hm : k ∈ L.map (·.1)
      · simpa using hm
      · exact absurd (outH k hm) hk
    have hown : ∀ k b, b ∈ ownOf (ovG (L.map fun x => (x.1, x.2.1)) (fun _ => default) k) (inHeap (.io x :: ins') k) → ∃ y ∈ L, y.1 = k ∧ b ∈ ownOf y.2.1 (some y.2.2) := fun k b hb => by
      have : inHeap (.io x :: ins') k ≠ none := fun e => by rw [e] at hb; simp [ownOf] at hb
      obtain ⟨y, hy, rfl⟩ := hmem k this
      rw [inG y hy, inH y hy] at hb
      exact ⟨y, hy, rfl, hb⟩
    have hS : ∀ k b, b ∈ ownOf (ovG (L.map fun x => (x.1, x.2.1)) (fun _ => default) k) (inHeap (.io x :: ins') k) → b ∈ S := fun k b hb => by
      obtain ⟨y, hy, _, hm⟩ := hown k b hb
      exact e3.sub y hy b hm
    have hav : AVR w (ovG (L.map fun x => (x.1, x.2.1)) (fun _ => default)) (inHeap (.io x :: ins')) (Ban (fun b => b < w.heap.size ∧ b ∉ Sd ∧ b ∉ S) (ovG (L.map fun x => (x.1, x.2.1)) (fun _ => default)) (inHeap (.io x :: ins'))) v (inAV (.io x)) := by
      refine oneAV_ok h hf (e4 _ _ _ (fun y hy => ⟨inG y hy, inH y hy⟩) ?_)
      rintro b hb (⟨k, hm⟩ | hF)
      · obtain ⟨y, hy, _, hm⟩ := hown k b hm
        exact ⟨y, hy, hm⟩
      · exact absurd hb hF.2.2
    rw [List.append_nil]
    refine ⟨_, _, mk (ovG (L.map fun x => (x.1, x.2.1)) (fun _ => default)) v (.cons _ _ _ _ hav (k (avR hS))) ?_ ?_ ?_ hS hav, rfl, rfl, fun _ => Iff.rfl, fun _ => Iff.rfl, rfl, fun x rest e => ⟨vs, rfl, hf⟩⟩
    · intro k o ho
      obtain ⟨y, hy, rfl⟩ := hmem k (by rw [ho]; simp)
      rw [inH y hy] at ho
      cases ho
      rw [inG y hy]
      obtain ⟨sz, xs, ve, e, hR⟩ := e3.row y hy
      rw [e]
      exact hR _
    · intro k
      by_cases hk : inHeap (.io x :: ins') k = none
      · rw [hk]; simp [ownOf]
      · obtain ⟨y, hy, rfl⟩ := hmem k hk
        rw [inG y hy, inH y hy]
        exact e3.nd y hy
    · intro k k' b hb hb'
      obtain ⟨y, hy, rfl, hm⟩ := hown k b hb
      obtain ⟨y', hy', rfl, hm'⟩ := hown k' b hb'
      exact e3.dis y hy y' hy' b hm hm'

theorem loadAt_as {ty : TypeId} {pv v : Value} (h : (Instr.loadAt ty pv).run P w = .ok v w) : (do loadVar ty (← asAddr pv) : Sem Value).run P w = .ok v w := by
  unfold Instr.loadAt at h
  cases pv with
  | pointer o =>
    cases o with
    | none => simp [Instr.sureAddr] at h
    | some ad => simpa [Instr.sureAddr, asAddr] using h
  | _ => simp [Instr.sureAddr] at h

theorem run_resL (hT : T.ok P = true) {a : Act} (h : RelG B G s a w) (f : ResultVar → Sem Value) (hf1 : ∀ t, f (.tmp t) = pure (a.tmps.getD t undef)) (hf2 : ∀ t ty, f (.cell t ty) = do loadVar ty (← asAddr (a.tmps.getD t undef))) :
    ∀ {rs : List ResultVar} {avs : List AV}, resL T s rs = some avs → ∃ us, (rs.mapM f).run P w = .ok us w ∧ AVRL w G s.heap (Ban B.F G s.heap) us avs
  | [], avs, hm => by
    simp only [resL, Option.some.injEq] at hm
    subst hm
    exact ⟨[], rfl, .nil⟩
  | .tmp t :: rs, avs, hm => by
    simp only [resL, Option.map_eq_some_iff] at hm
    obtain ⟨as, hm, rfl⟩ := hm
    obtain ⟨us, h1, h2⟩ := run_resL hT h f hf1 hf2 hm
    refine ⟨a.tmps.getD t undef :: us, ?_, .cons _ _ _ _ (h.env t) h2⟩
    rw [List.mapM_cons, hf1]
    simp only [pure_bind, Sem.run_bind, h1, Result.andThen_ok]
    rfl
  | .cell t ty :: rs, avs, hm => by
    simp only [resL, Option.bind_eq_some_iff, Option.map_eq_some_iff] at hm
    obtain ⟨av, hl, as, hm, rfl⟩ := hm
    obtain ⟨us, h1, h2⟩ := run_resL hT h f hf1 hf2 hm
    obtain ⟨v, h3, h4⟩ := opLoad_ok hT h (h.env t) hl
    refine ⟨v :: us, ?_, .cons _ _ _ _ h4 h2⟩
    rw [List.mapM_cons, hf2]
    rw [Sem.run_bind, loadAt_as h3]
    simp only [Sem.run_bind, h1, Result.andThen_ok]
    rfl

theorem run_resG (hT : T.ok P = true) {a : Act} (h : RelG B G s a w) {rs : Array ResultVar} {avs : List AV} (hm : resL T s rs.toList = some avs) (f : ResultVar → Sem Value) (hf1 : ∀ t, f (.tmp t) = pure (a.tmps.getD t undef)) (hf2 : ∀ t ty, f (.cell t ty) = do loadVar ty (← asAddr (a.tmps.getD t undef))) :
    ∃ us v, (do let vs ← rs.mapM f; pure (if h : vs.size = 1 then vs[0] else .tuple vs) : Sem Value).run P w = .ok v w ∧ AVRL w G s.heap (Ban B.F G s.heap) us avs ∧ ((∃ u, us = [u] ∧ v = u) ∨ (us.length ≠ 1 ∧ v = .tuple us.toArray)) := by
  obtain ⟨us, h1, h2⟩ := run_resL hT h f hf1 hf2 hm
  have h3 : (rs.mapM f).run P w = .ok us.toArray w := by
    rw [Array.mapM_eq_mapM_toList, Sem.run_map, h1]
    rfl
  rw [Sem.run_bind, h3, Result.andThen_ok]
  by_cases hl : us.length = 1
  · obtain ⟨u, rfl⟩ := List.length_eq_one_iff.1 hl
    exact ⟨_, _, rfl, h2, .inl ⟨u, rfl, rfl⟩⟩
  · refine ⟨us, _, rfl, h2, .inr ⟨hl, ?_⟩⟩
    rw [dif_neg (by simpa using hl)]

theorem run_results (hT : T.ok P = true) {a : Act} (h : RelG B G s a w) {fn : Func} {avs : List AV} (hm : resL T s fn.results.toList = some avs) :
    ∃ us v, (results fn a.tmps).run P w = .ok v w ∧ AVRL w G s.heap (Ban B.F G s.heap) us avs ∧ ((∃ u, us = [u] ∧ v = u) ∨ (us.length ≠ 1 ∧ v = .tuple us.toArray)) := by
  unfold results
  exact run_resG hT h hm _ (fun _ => rfl) (fun _ _ => rfl)
end rel
end Go.Fs

set_option linter.unusedVariables false
set_option linter.constructorNameAsVariable false
namespace Go.Fs
open Go.RowKit

def EndQ (T : Tab) (B : Ctx) (rs : List ResultVar) (out : Ret) : Exit → Act → World → Prop := fun e a w => (e = .normal ∨ e = .ret) ∧ ∃ G s, RelG B G s a w ∧ outR T s B.aa rs = some out

section rel
variable {P : Program} {T : Tab} {B : Ctx} {G : Nat → GI} {s : St} {a : Act} {w w' : World}

theorem leave_ok (hT : T.ok P = true) (h : RelG B G s a w') {fn : Func} {rs : List ResultVar} (hr : fn.results.toList = rs) {out : Ret} (ho : outR T s B.aa rs = some out) {args : List Value} {Sd M : List Nat}
    (hbase : B.base = w.heap.size) (hw0 : B.w0 = w) (hF : ∀ b, B.F b ↔ (b < w.heap.size ∧ b ∉ Sd ∧ b ∉ M)) (hM : ∀ b, B.M b ↔ b ∈ M) (hav : B.aa ≠ .x → ∃ vs, args = B.av :: vs) :
    ∃ v, (results fn a.tmps).run P w' = .ok v w' ∧ Post w args Sd M out v w' := by
  simp only [outR, Option.bind_eq_some_iff] at ho
  obtain ⟨as0, m0, ⟨avs, H1⟩, m1, ⟨ds, f, H2⟩, m2, ho⟩ := ho
  obtain ⟨us, v, hv, hus, hvs⟩ := run_results hT h (hr ▸ m0)
  refine ⟨v, hv, ?_⟩
  obtain ⟨e1, v1, l1⟩ := demAll_ok h hus m1
  obtain ⟨M2, S, t2, o2, n2, w2⟩ := moveVs_ok (s := { s with heap := H1 }) e1.rel v1 m2
  have hlen : ds.length = us.length := by rw [← t2.length]
  -- the answer
  have hret : ∀ {fl : Bool} {S : List Nat}, TrL w' fl us ds S → ∃ S', Tr w' fl v (packD ds) S' ∧ (∀ b, b ∈ S' ↔ b ∈ S) ∧ (S.Nodup → S'.Nodup) := by
    intro fl S ht
    rcases hvs with ⟨t, rfl, rfl⟩ | ⟨h1, rfl⟩
    · cases ht with
      | cons _ d S1 _ ds1 S2 ht hts =>
        cases hts
        exact ⟨S1, ht, by simp, by simp⟩
    · have : packD ds = .t ds := by
        match ds, hlen with
        | [], _ => rfl
        | [d], hl => exact absurd hl.symm h1
        | _ :: _ :: _, _ => rfl
      rw [this]
      exact ⟨S, .t _ _ _ (by simpa using ht), fun _ => Iff.rfl, fun h => h⟩
  have hfl : RetFlat v := by
    rcases hvs with ⟨t, rfl, rfl⟩ | ⟨_, rfl⟩
    · exact .inl (o2 _ (by simp))
    · exact .inr ⟨_, rfl, by simpa using o2⟩
  have hge : ∀ b, Own G H1 b → w.heap.size ≤ b ∨ b ∈ M := fun b ⟨k, hk⟩ => by
    have := e1.rel.ge k b hk
    rw [hbase] at this
    exact this.imp id (hM b).1
  have hrest : Rest w w' := hw0 ▸ h.rest
  have hkeep : ∀ b, b < w.heap.size → b ∉ M → w'.heap[b]? = w.heap[b]? := fun b hb hn => by
    rw [← hw0]
    exact h.below b (hbase ▸ hb) fun hm => hn ((hM b).1 hm)
  have hnF : ∀ {b : Nat}, ¬ B.F b → w.heap.size ≤ b ∨ b ∈ Sd ∨ b ∈ M := fun {b} hn => by
    rcases Nat.lt_or_ge b w.heap.size with h1 | h1
    · by_cases h2 : b ∈ Sd
      · exact .inr (.inl h2)
      · by_cases h3 : b ∈ M
        · exact .inr (.inr h3)
        · exact absurd ((hF b).2 ⟨h1, h2, h3⟩) hn
    · exact .inl h1
  split at ho
  · rename_i haa
    simp only [Option.some.injEq] at ho
    subst ho
    obtain ⟨S', r1, r2, r3⟩ := hret t2
    refine ⟨hrest, hkeep, S', [], r1, hfl, rfl, List.nodup_nil, by simp, by simp, fun hf => ?_, fun b hb => hnF fun hf => n2 b ((r2 b).1 hb) (.inr hf)⟩
    obtain ⟨q1, q2⟩ := w2 hf
    exact ⟨r3 q1, fun b hb => hge b (q2 b ((r2 b).1 hb))⟩
  · rename_i haa
    split at ho
    case isFalse => cases ho
    rename_i hf
    have hf : f = true := hf
    subst hf
    simp only [Option.bind_eq_some_iff] at ho
    obtain ⟨⟨x', f', H3⟩, m3, ho⟩ := ho
    split at ho
    case isFalse => cases ho
    rename_i hf'
    have hf' : f' = true := hf'
    subst hf'
    simp only [Option.some.injEq] at ho
    subst ho
    obtain ⟨S', r1, r2, r3⟩ := hret t2
    obtain ⟨M3, S3, t3, o3, n3, w3⟩ := moveV_ok (s := { s with heap := H2 }) M2.rel (M2.avr (e1.rel.anc)) m3
    obtain ⟨q1, q2⟩ := w2 rfl
    obtain ⟨q3, q4⟩ := w3 rfl
    obtain ⟨vs, hargs⟩ := hav haa
    refine ⟨hrest, hkeep, S', S3, r1, hfl, ⟨_, vs, hargs, t3⟩, q3, fun b hb => hge b (M2.own b (q4 b hb)), fun b hb hb3 => ?_, fun _ => ⟨r3 q1, fun b hb => hge b (q2 b ((r2 b).1 hb))⟩, fun b hb => hnF fun hf => n2 b ((r2 b).1 hb) (.inr hf)⟩
    exact n2 b ((r2 b).1 hb) (.inl (q4 b hb3))

theorem fnOK_of (hT : T.ok P = true) {f : FuncId} {fn : Func} {c : Code} (hf : P.funcs[f]? = some fn) (hb : fn.body = some c) (hnm : (fn.name == "runtime.NumGoroutine") = false) {rs : List ResultVar} (hres : fn.results.toList = rs)
    {ins : List In} (hi : insOK ins = true) (hn : ins.length ≤ fn.ntmps) {out : Ret} (hbody : ∀ B G a w, RelG B G (inSt fn.ntmps ins) a w → B.aa = ancA ins → c.wp P (EndQ T B rs out) a w) : FnOK P f ins out := by
  intro w args Sd M ha hM hd
  obtain ⟨B, G, hrel, h1, h2, h3, h4, h5, h6⟩ := enter_rel hi ha hM hd hn
  refine .inl ⟨?_, ?_⟩
  · have : ¬ fn.name = "runtime.NumGoroutine" := by simpa using hnm
    simp [callFunc, hf, hb, this]
  · refine calls_of_wp hf hb (wp_mono (hbody B G _ w hrel h5) fun e a' w' he => ?_)
    obtain ⟨he, G', s', hr, ho⟩ := he
    obtain ⟨v, hv, hp⟩ := leave_ok hT (w := w) (args := args) (Sd := Sd) (M := M) hr hres ho h1 h2 h3 h4 (fun hx => by
      cases ins with
      | nil => rw [h5] at hx; exact absurd rfl hx
      | cons i rest =>
        cases i with
        | d x => rw [h5] at hx; exact absurd rfl hx
        | io x => obtain ⟨vs, e, _⟩ := h6 x rest rfl; exact ⟨vs, e⟩)
    rcases he with rfl | rfl
    · exact ⟨hr.defers, v, hv, hp⟩
    · exact ⟨hr.defers, v, hv, hp⟩
end rel
end Go.Fs

set_option linter.unusedVariables false
set_option linter.constructorNameAsVariable false
namespace Go.Fs
open Go.RowKit

/-! ### less is known: slots and objects forgotten, objects called by other keys -/
mutual
def mapA (ren : List (Nat × Nat)) : AV → AV
  | .d x => .d x
  | .z n => .z n
  | .r k => match ren.lookup k with | some k' => .r k' | none => .x
  | .a k o => match ren.lookup k with | some k' => .a k' o | none => .x
  | .e k i o => match ren.lookup k with | some k' => .e k' i o | none => .x
  | .m k ve i o => match ren.lookup k with | some k' => .m k' ve i o | none => .x
  | .q cs o => .q cs o
  | .g cs => .g (mapL ren cs)
  | .f fn caps => .f fn (mapL ren caps)
  | .t vs => .t (mapL ren vs)
  | .mp k => match ren.lookup k with | some k' => .mp k' | none => .x
  | .x => .x
def mapL (ren : List (Nat × Nat)) : List AV → List AV
  | [] => []
  | a :: as => mapA ren a :: mapL ren as
end
def mapOb (ren : List (Nat × Nat)) : Ob → Ob
  | .row sz xs dp fz ve => .row sz xs dp fz ve
  | .box cs => .box (mapL ren cs)
  | .map kv => .map kv
  | .dead => .dead
def oldK (ren : List (Nat × Nat)) (k' : Nat) : Option Nat := (ren.map fun x => (x.2, x.1)).lookup k'
def wkH (ren : List (Nat × Nat)) (H : Nat → Option Ob) : Nat → Option Ob := fun k' => match oldK ren k' with
  | some k => match H k with
    | some o => some (mapOb ren o)
    | none => none
  | none => none
def wk (live : List Nat) (ren : List (Nat × Nat)) (s : St) : St :=
  { n := s.n, env := fun t => if live.contains t then mapA ren (s.env t) else .x, heap := wkH ren s.heap }
def nodupB : List Nat → Bool
  | [] => true
  | x :: xs => !xs.contains x && nodupB xs
def renOK (ren : List (Nat × Nat)) : Bool := nodupB (ren.map (·.1)) && nodupB (ren.map (·.2))
def wkG (ren : List (Nat × Nat)) (G : Nat → GI) : Nat → GI := fun k' => match oldK ren k' with
  | some k => G k
  | none => default

theorem nodupB_ok : ∀ {l : List Nat}, nodupB l = true → l.Nodup
  | [], _ => List.nodup_nil
  | x :: xs, h => by
    simp only [nodupB, Bool.and_eq_true, Bool.not_eq_true', List.contains_eq_mem] at h
    exact List.nodup_cons.2 ⟨by simpa using h.1, nodupB_ok h.2⟩

section rel
variable {P : Program} {T : Tab} {B : Ctx} {G : Nat → GI} {s : St} {a : Act} {w w' : World} {ren : List (Nat × Nat)}

theorem oldK_of (h : renOK ren = true) {k k' : Nat} (hk : ren.lookup k = some k') : oldK ren k' = some k := by
  simp only [renOK, Bool.and_eq_true] at h
  refine lookup_of_mem ?_ ?_
  · rw [List.map_map]; exact nodupB_ok h.2
  · exact List.mem_map.2 ⟨(k, k'), lookup_mem hk, rfl⟩
theorem of_oldK (h : renOK ren = true) {k k' : Nat} (hk : oldK ren k' = some k) : ren.lookup k = some k' := by
  simp only [renOK, Bool.and_eq_true] at h
  refine lookup_of_mem (nodupB_ok h.1) ?_
  obtain ⟨x, hx, e⟩ := List.mem_map.1 (lookup_mem hk)
  cases e
  exact hx
theorem wkH_of (h : renOK ren = true) {H : Nat → Option Ob} {k k' : Nat} (hk : ren.lookup k = some k') {o : Ob} (ho : H k = some o) : wkH ren H k' = some (mapOb ren o) := by
  simp [wkH, oldK_of h hk, ho]
theorem wkG_of (h : renOK ren = true) {k k' : Nat} (hk : ren.lookup k = some k') : wkG ren G k' = G k := by
  simp [wkG, oldK_of h hk]
theorem wkH_inv {H : Nat → Option Ob} {k' : Nat} {o : Ob} (ho : wkH ren H k' = some o) : ∃ k o', oldK ren k' = some k ∧ H k = some o' ∧ o = mapOb ren o' := by
  unfold wkH at ho
  split at ho
  case h_2 => cases ho
  rename_i k hk
  split at ho
  case h_2 => cases ho
  rename_i o' ho'
  cases ho
  exact ⟨k, o', hk, ho', rfl⟩
theorem ownOf_map (g : GI) (o : Ob) : ownOf g (some (mapOb ren o)) = ownOf g (some o) := by cases o <;> rfl
theorem own_wk {H : Nat → Option Ob} {k' b : Nat} (hb : b ∈ ownOf (wkG ren G k') (wkH ren H k')) : ∃ k, oldK ren k' = some k ∧ b ∈ ownOf (G k) (H k) := by
  cases ho : wkH ren H k' with
  | none => rw [ho] at hb; simp [ownOf] at hb
  | some o =>
    obtain ⟨k, o', h1, h2, rfl⟩ := wkH_inv ho
    rw [ho, ownOf_map] at hb
    have : wkG ren G k' = G k := by simp [wkG, h1]
    rw [this] at hb
    exact ⟨k, h1, by rw [h2]; exact hb⟩

theorem AVR.wk_both (hr : renOK ren = true) {H : Nat → Option Ob} {Av Av' : Nat → Prop} (hA : ∀ b, Av' b → Av b) :
    (∀ {v : Value} {av : AV}, AVR w G H Av v av → AVR w (wkG ren G) (wkH ren H) Av' v (mapA ren av)) ∧ (∀ {vs : List Value} {as : List AV}, AVRL w G H Av vs as → AVRL w (wkG ren G) (wkH ren H) Av' vs (mapL ren as)) := by
  have key : ∀ {v : Value} {av : AV}, AVR w G H Av v av → AVR w (wkG ren G) (wkH ren H) Av' v (mapA ren av) := by
    intro v av h
    have look : ∀ (k : Nat) {f : Nat → AV} {v : Value}, (∀ k', ren.lookup k = some k' → wkG ren G k' = G k → AVR w (wkG ren G) (wkH ren H) Av' v (f k')) → AVR w (wkG ren G) (wkH ren H) Av' v (match ren.lookup k with | some k' => f k' | none => .x) := by
      intro k f v hf
      cases e : ren.lookup k with
      | none => exact .x _
      | some k' => exact hf k' e (wkG_of hr e)
    refine AVR.rec (w := w) (G := G) (H := H) (Av := Av) (motive_1 := fun v av _ => AVR w (wkG ren G) (wkH ren H) Av' v (mapA ren av)) (motive_2 := fun vs as _ => AVRL w (wkG ren G) (wkH ren H) Av' vs (mapL ren as))
      ?_ ?_ ?_ ?_ ?_ ?_ ?_ ?_ ?_ ?_ ?_ ?_ ?_ ?_ ?_ ?_ ?_ ?_ ?_ ?_ h
    · intro v x S h1 h hS
      exact .d v x S h1 h fun b hb hn => hS b hb (hA b hn)
    · intro sz; exact .z sz
    · intro k sz xs dp fz ve a hk ha
      refine look k fun k' e eg => ?_
      rw [← eg]
      exact .r k' sz xs dp fz ve a (wkH_of hr e hk) (by rw [eg]; exact ha)
    · intro k v hk
      exact look k fun k' e eg => .rd k' v (wkH_of hr e hk)
    · intro k o cs hk
      refine look k (f := fun k' => .a k' o) fun k' e eg => ?_
      rw [← eg]
      exact .a k' o _ (wkH_of hr e hk)
    · intro k o v hk
      exact look k (f := fun k' => .a k' o) fun k' e eg => .ad k' o v (wkH_of hr e hk)
    · intro k i o sz xs dp fz ve hk hi
      refine look k (f := fun k' => .e k' i o) fun k' e eg => ?_
      rw [← eg]
      exact .e k' i o sz xs dp fz ve (wkH_of hr e hk) hi
    · intro k i o v hk
      exact look k (f := fun k' => .e k' i o) fun k' e eg => .ed k' i o v (wkH_of hr e hk)
    · intro k i o sz xs dp fz ve v z ys hk hj hv h1
      exact look k (f := fun k' => .m k' ve i o) fun k' e eg => .m k' i o sz xs dp fz ve v z ys (wkH_of hr e hk) hj (by rw [eg]; exact hv) h1
    · intro k i o sz xs dp fz ve ve1 v hk hlt
      exact look k (f := fun k' => .m k' ve i o) fun k' e eg => .mo k' i o sz xs dp fz ve ve1 v (wkH_of hr e hk) hlt
    · intro k ve i o v hk
      exact look k (f := fun k' => .m k' ve i o) fun k' e eg => .md k' ve i o v (wkH_of hr e hk)
    · intro g base o cur el fr vs cs S hg hv h1 h hb hS
      exact .q g base o cur el fr vs cs S hg hv h1 h (fun hn => hb (hA _ hn)) fun b hb hn => hS b hb (hA b hn)
    · intro cs as _ ih; exact .g cs _ ih
    · intro fn cs as _ ih; exact .f fn cs _ ih
    · intro vs as _ ih; exact .t vs _ ih
    · intro k kv hk
      refine look k (f := fun k' => .mp k') fun k' e eg => ?_
      rw [← eg]
      exact .mp k' _ (wkH_of hr e hk)
    · intro k v hk
      exact look k (f := fun k' => .mp k') fun k' e eg => .mpd k' v (wkH_of hr e hk)
    · intro v; exact .x v
    · exact .nil
    · intro v av vs as _ _ ih ihs; exact .cons v _ vs _ ih ihs
  refine ⟨key, fun {vs as} h => ?_⟩
  have := key (.t vs.toArray as (by simpa using h))
  cases this with
  | t _ _ h => simpa using h

theorem RelG.wk (h : RelG B G s a w) (live : List Nat) (hr : renOK ren = true) (ha : mapA ren B.aa = B.aa) : RelG B (wkG ren G) (wk live ren s) a w := by
  have hA : ∀ b, Ban B.F (wkG ren G) (wkH ren s.heap) b → Ban B.F G s.heap b := by
    rintro b (⟨k, hk⟩ | hf)
    · obtain ⟨k0, _, hm⟩ := own_wk hk
      exact .inl ⟨k0, hm⟩
    · exact .inr hf
  have hav := AVR.wk_both (w := w) (G := G) (H := s.heap) (ren := ren) hr hA
  refine ⟨?_, fun t => ?_, h.size, h.defers, fun k => ?_, fun k k' b hb hb' => ?_, fun k b hb => ?_, h.rest, h.below, h.ban, h.base, ?_⟩
  · intro k' o ho
    obtain ⟨k, o', h1, h2, rfl⟩ := wkH_inv ho
    have hg : wkG ren G k' = G k := by simp [wkG, h1]
    rw [hg]
    have hob := h.obj k o' h2
    cases o' with
    | row sz xs dp fz ve =>
      obtain ⟨c1, c2, c3, c4, c5, c6, c7, c8, c9, c10⟩ := hob
      exact ⟨c1, c2, c3, c4, c5, c6, c7, c8, fun hd b hb hn => c9 hd b hb (hA b hn), fun hf hp hn => c10 hf hp (hA _ hn)⟩
    | box cs =>
      obtain ⟨cur, e, c1, c2, c3⟩ := hob
      exact ⟨cur, e, c1, hav.2 c2, c3⟩
    | map kv => exact hob
    | dead => trivial
  · show AVR w _ _ _ _ (if live.contains t then mapA ren (s.env t) else .x)
    split
    · exact hav.1 (h.env t)
    · exact .x _
  · show (ownOf (wkG ren G k) (wkH ren s.heap k)).Nodup
    cases ho : wkH ren s.heap k with
    | none => simp [ownOf]
    | some o =>
      obtain ⟨k0, o', h1, h2, rfl⟩ := wkH_inv ho
      have hg : wkG ren G k = G k0 := by simp [wkG, h1]
      rw [hg, ownOf_map, ← h2]
      exact h.nodup k0
  · obtain ⟨k1, e1, m1⟩ := own_wk hb
    obtain ⟨k2, e2, m2⟩ := own_wk hb'
    have := h.disj k1 k2 b m1 m2
    subst this
    have a1 := of_oldK hr e1
    have a2 := of_oldK hr e2
    rw [a1] at a2
    exact Option.some.inj a2
  · obtain ⟨k1, _, m1⟩ := own_wk hb
    exact h.ge k1 b m1
  · have := hav.1 h.anc
    rw [ha] at this
    exact this
end rel
end Go.Fs
