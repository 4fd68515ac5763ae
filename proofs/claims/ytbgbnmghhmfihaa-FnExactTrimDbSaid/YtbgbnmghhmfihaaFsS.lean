/- A part of the proof: an evaluator of the program's code over plain data, proved sound, or a function's walk by it. No conditions beyond those in the theorems. -/
import Derived.Test.YtbgbnmghhmfihaaFsR
set_option linter.unusedVariables false
set_option linter.constructorNameAsVariable false
namespace Go.Fs
open Go.RowKit

/-! ### a call whose answer may come to what was lent -/
def frz1 (H : Nat → Option Ob) (k : Nat) : Option (Nat → Option Ob) :=
  match H k with
  | some (.row sz xs dp fz ve) => some (if fz then H else upd H k (some (.row sz xs dp true ve)))
  | _ => none
def frzL (H : Nat → Option Ob) : List Nat → Option (Nat → Option Ob)
  | [] => some H
  | k :: ks => (frz1 H k).bind fun H' => frzL H' ks

/-! ### values, given away -/
def moveV (H : Nat → Option Ob) : AV → Option (D × Bool × (Nat → Option Ob))
  | .g cs => (moveCs H cs).map fun m => (.g m.1, m.2.1, m.2.2)
  | av => moveC H av
def moveVs (H : Nat → Option Ob) : List AV → Option (List D × Bool × (Nat → Option Ob))
  | [] => some ([], true, H)
  | av :: avs => (moveV H av).bind fun x => (moveVs x.2.2 avs).bind fun y => some (x.1 :: y.1, x.2.1 && y.2.1, y.2.2)

section rel
variable {P : Program} {T : Tab} {B : Ctx} {G : Nat → GI} {s : St} {a : Act} {w w' : World}

theorem frz1_ok (h : RelG B G s a w) {k : Nat} {H' : Nat → Option Ob} (hm : frz1 s.heap k = some H') :
    Eased B G s a w H' ∧ ownOf (G k) (H' k) = [] ∧ ∀ i, ownOf (G i) (s.heap i) = [] → ownOf (G i) (H' i) = [] := by
  unfold frz1 at hm
  split at hm
  case h_2 => cases hm
  rename_i sz xs dp fz ve hk
  simp only [Option.some.injEq] at hm
  subst hm
  cases fz with
  | true => exact ⟨.refl h, by simp [hk, ownOf], fun i hi => hi⟩
  | false =>
    obtain ⟨f1, _, f3⟩ := h.freeze hk
    refine ⟨⟨f1, f3⟩, by simp [upd_same, ownOf], fun i hi => ?_⟩
    by_cases e : i = k
    · subst e; simp [upd_same, ownOf]
    · simpa [upd_ne _ _ e] using hi

theorem frzL_ok : ∀ {s : St} (h : RelG B G s a w) {ks : List Nat} {H' : Nat → Option Ob} (hm : frzL s.heap ks = some H'),
    Eased B G s a w H' ∧ (∀ k ∈ ks, ownOf (G k) (H' k) = []) ∧ ∀ i, ownOf (G i) (s.heap i) = [] → ownOf (G i) (H' i) = []
  | s, h, [], H', hm => by
    simp only [frzL, Option.some.injEq] at hm
    subst hm
    exact ⟨.refl h, by simp, fun _ h => h⟩
  | s, h, k :: ks, H', hm => by
    simp only [frzL, Option.bind_eq_some_iff] at hm
    obtain ⟨H1, m1, m2⟩ := hm
    obtain ⟨e1, o1, p1⟩ := frz1_ok h m1
    obtain ⟨e2, o2, p2⟩ := frzL_ok e1.rel m2
    refine ⟨e1.trans e2, ?_, fun i hi => p2 i (p1 i hi)⟩
    intro i hi
    rcases List.mem_cons.1 hi with rfl | hi
    · exact p2 i o1
    · exact o2 i hi

/-- A call whose answer may come to what was lent. -/
theorem call_shared (h : RelG B G s a w) {f : FuncId} {rest : List AV} {vs : List Value} (hrest : AVRL w G s.heap (Ban B.F G s.heap) vs rest) {H1 : Nat → Option Ob}
    (hfz : frzL s.heap (rest.flatMap (keyA s.heap)) = some H1) (hkeys : rest.flatMap (keyA H1) = rest.flatMap (keyA s.heap)) {ds : List D} (hb : borL H1 rest = some ds) {out : Ret} (hf : FnOK P f (ds.map .d) out) (hio : out.io = none) :
    Does P f vs.toArray w fun v w' => RelG B G { s with heap := H1 } a w' ∧ AVR w' G H1 (Ban B.F G H1) v (retAV out.ret ((partsD out.ret).map .d)) := by
  obtain ⟨e1, o1, _⟩ := frzL_ok h hfz
  obtain ⟨Sd, u1, u2⟩ := borL_ok (s := { s with heap := H1 }) e1.rel (e1.avrl hrest) hb
  refine (hf w _ Sd [] u1 List.nodup_nil (by simp)).mono fun v w' hp => ?_
  obtain ⟨hr, hkeep, S', Si, r1, r2, r3, r4, r5, r6, r7, r8⟩ := hp
  have hrel := e1.rel.grow (w' := w') hr fun b hb => hkeep b hb (by simp)
  obtain ⟨us, p1, p2, p3⟩ := parts_tr r1 r2
  refine ⟨hrel, p3 (p1.avrl p2 fun b hb => ?_)⟩
  rintro (⟨k, hm⟩ | hF)
  · rcases r8 b hb with h1 | h1 | h1
    · have := e1.rel.own_lt ⟨k, hm⟩; omega
    · have hk := (u2 b h1).2 k hm
      have hm : b ∈ ownOf (G k) (H1 k) := hm
      rw [o1 k (hkeys ▸ hk)] at hm
      simp at hm
    · simp at h1
  · rcases r8 b hb with h1 | h1 | h1
    · have := (h.ban b hF).1
      have := h.base
      omega
    · exact (u2 b h1).1 hF
    · simp at h1

theorem moveV_ok (h : RelG B G s a w) {v : Value} {av : AV} (hv : AVR w G s.heap (Ban B.F G s.heap) v av) {d : D} {f : Bool} {H' : Nat → Option Ob} (hm : moveV s.heap av = some (d, f, H')) :
    Moved B G s a w H' ∧ ∃ S, Tr w f v d S ∧ Flat v ∧ (∀ b ∈ S, ¬ Ban B.F G H' b) ∧ (f = true → S.Nodup ∧ ∀ b ∈ S, Own G s.heap b) := by
  cases hav : av with
  | g cs =>
    subst hav
    simp only [moveV, Option.map_eq_some_iff, Prod.mk.injEq] at hm
    obtain ⟨⟨ds, f', H1⟩, m1, rfl, rfl, rfl⟩ := hm
    cases hv with
    | g vs _ hvs =>
      obtain ⟨M, S, t, o, n, w1⟩ := moveCs_ok h hvs m1
      exact ⟨M, S, .g _ _ _ t, o, n, w1⟩
  | _ =>
    subst hav
    obtain ⟨M, S, t, o, n, w1⟩ := moveC_ok h hv hm
    exact ⟨M, S, t, flat_one o, n, w1⟩

theorem Moved.avrl {H' : Nat → Option Ob} (h : Moved B G s a w H') {vs : List Value} {as : List AV} (hv : AVRL w G s.heap (Ban B.F G s.heap) vs as) : AVRL w G H' (Ban B.F G H') vs as := by
  have := h.avr (.t vs.toArray as (by simpa using hv))
  cases this with
  | t _ _ h => simpa using h

theorem moveVs_ok : ∀ {s : St} (h : RelG B G s a w) {vs : List Value} {avs : List AV} (hv : AVRL w G s.heap (Ban B.F G s.heap) vs avs) {ds : List D} {f : Bool} {H' : Nat → Option Ob} (hm : moveVs s.heap avs = some (ds, f, H')),
    Moved B G s a w H' ∧ ∃ S, TrL w f vs ds S ∧ (∀ v ∈ vs, Flat v) ∧ (∀ b ∈ S, ¬ Ban B.F G H' b) ∧ (f = true → S.Nodup ∧ ∀ b ∈ S, Own G s.heap b)
  | s, h, _, _, .nil, ds, f, H', hm => by
    simp only [moveVs, Option.some.injEq, Prod.mk.injEq] at hm
    obtain ⟨rfl, rfl, rfl⟩ := hm
    exact ⟨.refl h, [], .nil, by simp, by simp, fun _ => ⟨List.nodup_nil, by simp⟩⟩
  | s, h, _, _, .cons v av vs avs hv hvs, ds, f, H', hm => by
    simp only [moveVs, Option.bind_eq_some_iff] at hm
    obtain ⟨⟨d1, f1, H1⟩, m1, ⟨d2, f2, H2⟩, m2, hm⟩ := hm
    simp only [Option.some.injEq, Prod.mk.injEq] at hm
    obtain ⟨rfl, rfl, rfl⟩ := hm
    obtain ⟨M1, S1, t1, o1, n1, w1⟩ := moveV_ok h hv m1
    obtain ⟨M2, S2, t2, o2, n2, w2⟩ := moveVs_ok M1.rel (M1.avrl hvs) m2
    refine ⟨M1.trans M2, S1 ++ S2, ?_, ?_, ?_, ?_⟩
    · by_cases e : (f1 && f2) = true
      · rw [e]
        simp at e
        rw [e.1] at t1
        rw [e.2] at t2
        exact .cons _ _ _ _ _ _ t1 t2
      · rw [Bool.not_eq_true] at e
        rw [e]
        exact .cons _ _ _ _ _ _ t1.shared t2.shared
    · intro u hu
      rcases List.mem_cons.1 hu with rfl | hu
      · exact o1
      · exact o2 u hu
    · intro b hb hn
      rcases List.mem_append.1 hb with hb | hb
      · exact n1 b hb (M2.ban hn)
      · exact n2 b hb hn
    · intro e
      simp at e
      obtain ⟨a1, a2⟩ := w1 e.1
      obtain ⟨b1, b2⟩ := w2 e.2
      refine ⟨List.nodup_append.2 ⟨a1, b1, fun x hx y hy e => ?_⟩, fun b hb => ?_⟩
      · subst e
        exact n1 x hx (.inl (b2 x hy))
      · rcases List.mem_append.1 hb with hb | hb
        · exact a2 b hb
        · exact M1.own b (b2 b hb)
end rel

/-! ### how a function begins and ends -/
/-- Where keys of what is handed over begin. -/
def keyIn : Nat := 900000
def inAV : In → AV
  | .d (.g ds) => .g (ds.map .d)
  | .d x => .d x
  | .io x => oneAV x (adCells keyIn (cellsD x))
def inHeap : List In → (Nat → Option Ob)
  | .io x :: _ => ovr (adObs keyIn (cellsD x)) fun _ => none
  | _ => fun _ => none
def inSt (n : Nat) (ins : List In) : St := { n := n, env := fun t => (ins.map inAV).getD t .x, heap := inHeap ins }
def In.isD : In → Bool
  | .d _ => true
  | .io _ => false
/-- Only the first argument may be handed over. -/
def insOK : List In → Bool
  | .io _ :: ins => ins.all In.isD
  | ins => ins.all In.isD

def packD : List D → D
  | [d] => d
  | ds => .t ds

/-- The results' slots, or what their variables hold. -/
def resL (T : Tab) (s : St) : List ResultVar → Option (List AV)
  | [] => some []
  | .tmp t :: rs => (resL T s rs).map (s.env t :: ·)
  | .cell t ty :: rs => (opLoad T s.heap ty (s.env t)).bind fun av => (resL T s rs).map (av :: ·)

/-- What is given at the end. -/
def outR (T : Tab) (s : St) (aa : AV) (rs : List ResultVar) : Option Ret :=
  (resL T s rs).bind fun avs => (demAll s.heap avs).bind fun x => (moveVs x.2 x.1).bind fun y => match aa with
  | .x => some { ret := packD y.1, deep := y.2.1, io := none }
  | aa => if y.2.1 then (moveV y.2.2 aa).bind fun z => if z.2.1 then some { ret := packD y.1, deep := true, io := some z.1 } else none else none

def ancA : List In → AV
  | .io x :: _ => inAV (.io x)
  | _ => .x

end Go.Fs
