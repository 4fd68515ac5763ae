/- A part of the proof: an evaluator of the program's code over plain data, proved sound, or a function's walk by it. No conditions beyond those in the theorems. -/
import Derived.Test.YtbgbnmghhmfihaaFsU
set_option linter.unusedVariables false
set_option linter.constructorNameAsVariable false
namespace Go.Fs
open Go.RowKit

/-! ### less is known: slots and objects forgotten, objects called by other keys -/
mutual
def mapA (ren : List (Nat × Nat)) : AV → AV
  | .d x => .d x
  | .z n => .z n
  | .r k => match ren.lookup k with | some k' => .r k' | none => .x
  | .a k o => match ren.lookup k with | some k' => .a k' o | none => .x
  | .e k i o => match ren.lookup k with | some k' => .e k' i o | none => .x
  | .m k ve i o => match ren.lookup k with | some k' => .m k' ve i o | none => .x
  | .q cs o => .q cs o
  | .g cs => .g (mapL ren cs)
  | .f fn caps => .f fn (mapL ren caps)
  | .t vs => .t (mapL ren vs)
  | .mp k => match ren.lookup k with | some k' => .mp k' | none => .x
  | .x => .x
def mapL (ren : List (Nat × Nat)) : List AV → List AV
  | [] => []
  | a :: as => mapA ren a :: mapL ren as
end
def mapOb (ren : List (Nat × Nat)) : Ob → Ob
  | .row sz xs dp fz ve => .row sz xs dp fz ve
  | .box cs => .box (mapL ren cs)
  | .map kv => .map kv
  | .dead => .dead
def oldK (ren : List (Nat × Nat)) (k' : Nat) : Option Nat := (ren.map fun x => (x.2, x.1)).lookup k'
def wkH (ren : List (Nat × Nat)) (H : Nat → Option Ob) : Nat → Option Ob := fun k' => match oldK ren k' with
  | some k => match H k with
    | some o => some (mapOb ren o)
    | none => none
  | none => none
def wk (live : List Nat) (ren : List (Nat × Nat)) (s : St) : St :=
  { n := s.n, env := fun t => if live.contains t then mapA ren (s.env t) else .x, heap := wkH ren s.heap }
def nodupB : List Nat → Bool
  | [] => true
  | x :: xs => !xs.contains x && nodupB xs
def renOK (ren : List (Nat × Nat)) : Bool := nodupB (ren.map (·.1)) && nodupB (ren.map (·.2))
def wkG (ren : List (Nat × Nat)) (G : Nat → GI) : Nat → GI := fun k' => match oldK ren k' with
  | some k => G k
  | none => default

theorem nodupB_ok : ∀ {l : List Nat}, nodupB l = true → l.Nodup
  | [], _ => List.nodup_nil
  | x :: xs, h => by
    simp only [nodupB, Bool.and_eq_true, Bool.not_eq_true', List.contains_eq_mem] at h
    exact List.nodup_cons.2 ⟨by simpa using h.1, nodupB_ok h.2⟩

section rel
variable {P : Program} {T : Tab} {B : Ctx} {G : Nat → GI} {s : St} {a : Act} {w w' : World} {ren : List (Nat × Nat)}

theorem oldK_of (h : renOK ren = true) {k k' : Nat} (hk : ren.lookup k = some k') : oldK ren k' = some k := by
  simp only [renOK, Bool.and_eq_true] at h
  refine lookup_of_mem ?_ ?_
  · rw [List.map_map]; exact nodupB_ok h.2
  · exact List.mem_map.2 ⟨(k, k'), lookup_mem hk, rfl⟩
theorem of_oldK (h : renOK ren = true) {k k' : Nat} (hk : oldK ren k' = some k) : ren.lookup k = some k' := by
  simp only [renOK, Bool.and_eq_true] at h
  refine lookup_of_mem (nodupB_ok h.1) ?_
  obtain ⟨x, hx, e⟩ := List.mem_map.1 (lookup_mem hk)
  cases e
  exact hx
theorem wkH_of (h : renOK ren = true) {H : Nat → Option Ob} {k k' : Nat} (hk : ren.lookup k = some k') {o : Ob} (ho : H k = some o) : wkH ren H k' = some (mapOb ren o) := by
  simp [wkH, oldK_of h hk, ho]
theorem wkG_of (h : renOK ren = true) {k k' : Nat} (hk : ren.lookup k = some k') : wkG ren G k' = G k := by
  simp [wkG, oldK_of h hk]
theorem wkH_inv {H : Nat → Option Ob} {k' : Nat} {o : Ob} (ho : wkH ren H k' = some o) : ∃ k o', oldK ren k' = some k ∧ H k = some o' ∧ o = mapOb ren o' := by
  unfold wkH at ho
  split at ho
  case h_2 => cases ho
  rename_i k hk
  split at ho
  case h_2 => cases ho
  rename_i o' ho'
  cases ho
  exact ⟨k, o', hk, ho', rfl⟩
theorem ownOf_map (g : GI) (o : Ob) : ownOf g (some (mapOb ren o)) = ownOf g (some o) := by cases o <;> rfl
theorem own_wk {H : Nat → Option Ob} {k' b : Nat} (hb : b ∈ ownOf (wkG ren G k') (wkH ren H k')) : ∃ k, oldK ren k' = some k ∧ b ∈ ownOf (G k) (H k) := by
  cases ho : wkH ren H k' with
  | none => rw [ho] at hb; simp [ownOf] at hb
  | some o =>
    obtain ⟨k, o', h1, h2, rfl⟩ := wkH_inv ho
    rw [ho, ownOf_map] at hb
    have : wkG ren G k' = G k := by simp [wkG, h1]
    rw [this] at hb
    exact ⟨k, h1, by rw [h2]; exact hb⟩

theorem AVR.wk_both (hr : renOK ren = true) {H : Nat → Option Ob} {Av Av' : Nat → Prop} (hA : ∀ b, Av' b → Av b) :
    (∀ {v : Value} {av : AV}, AVR w G H Av v av → AVR w (wkG ren G) (wkH ren H) Av' v (mapA ren av)) ∧ (∀ {vs : List Value} {as : List AV}, AVRL w G H Av vs as → AVRL w (wkG ren G) (wkH ren H) Av' vs (mapL ren as)) := by
  have key : ∀ {v : Value} {av : AV}, AVR w G H Av v av → AVR w (wkG ren G) (wkH ren H) Av' v (mapA ren av) := by
    intro v av h
    have look : ∀ (k : Nat) {f : Nat → AV} {v : Value}, (∀ k', ren.lookup k = some k' → wkG ren G k' = G k → AVR w (wkG ren G) (wkH ren H) Av' v (f k')) → AVR w (wkG ren G) (wkH ren H) Av' v (match ren.lookup k with | some k' => f k' | none => .x) := by
      intro k f v hf
      cases e : ren.lookup k with
      | none => exact .x _
      | some k' => exact hf k' e (wkG_of hr e)
    refine AVR.rec (w := w) (G := G) (H := H) (Av := Av) (motive_1 := fun v av _ => AVR w (wkG ren G) (wkH ren H) Av' v (mapA ren av)) (motive_2 := fun vs as _ => AVRL w (wkG ren G) (wkH ren H) Av' vs (mapL ren as))
      ?_ ?_ ?_ ?_ ?_ ?_ ?_ ?_ ?_ ?_ ?_ ?_ ?_ ?_ ?_ ?_ ?_ ?_ ?_ ?_ h
    · intro v x S h1 h hS
      exact .d v x S h1 h fun b hb hn => hS b hb (hA b hn)
    · intro sz; exact .z sz
    · intro k sz xs dp fz ve a hk ha
      refine look k fun k' e eg => ?_
      rw [← eg]
      exact .r k' sz xs dp fz ve a (wkH_of hr e hk) (by rw [eg]; exact ha)
    · intro k v hk
      exact look k fun k' e eg => .rd k' v (wkH_of hr e hk)
    · intro k o cs hk
      refine look k (f := fun k' => .a k' o) fun k' e eg => ?_
      rw [← eg]
      exact .a k' o _ (wkH_of hr e hk)
    · intro k o v hk
      exact look k (f := fun k' => .a k' o) fun k' e eg => .ad k' o v (wkH_of hr e hk)
    · intro k i o sz xs dp fz ve hk hi
      refine look k (f := fun k' => .e k' i o) fun k' e eg => ?_
      rw [← eg]
      exact .e k' i o sz xs dp fz ve (wkH_of hr e hk) hi
    · intro k i o v hk
      exact look k (f := fun k' => .e k' i o) fun k' e eg => .ed k' i o v (wkH_of hr e hk)
    · intro k i o sz xs dp fz ve v z ys hk hj hv h1
      exact look k (f := fun k' => .m k' ve i o) fun k' e eg => .m k' i o sz xs dp fz ve v z ys (wkH_of hr e hk) hj (by rw [eg]; exact hv) h1
    · intro k i o sz xs dp fz ve ve1 v hk hlt
      exact look k (f := fun k' => .m k' ve i o) fun k' e eg => .mo k' i o sz xs dp fz ve ve1 v (wkH_of hr e hk) hlt
    · intro k ve i o v hk
      exact look k (f := fun k' => .m k' ve i o) fun k' e eg => .md k' ve i o v (wkH_of hr e hk)
    · intro g base o cur el fr vs cs S hg hv h1 h hb hS
      exact .q g base o cur el fr vs cs S hg hv h1 h (fun hn => hb (hA _ hn)) fun b hb hn => hS b hb (hA b hn)
    · intro cs as _ ih; exact .g cs _ ih
    · intro fn cs as _ ih; exact .f fn cs _ ih
    · intro vs as _ ih; exact .t vs _ ih
    · intro k kv hk
      refine look k (f := fun k' => .mp k') fun k' e eg => ?_
      rw [← eg]
      exact .mp k' _ (wkH_of hr e hk)
    · intro k v hk
      exact look k (f := fun k' => .mp k') fun k' e eg => .mpd k' v (wkH_of hr e hk)
    · intro v; exact .x v
    · exact .nil
    · intro v av vs as _ _ ih ihs; exact .cons v _ vs _ ih ihs
  refine ⟨key, fun {vs as} h => ?_⟩
  have := key (.t vs.toArray as (by simpa using h))
  cases this with
  | t _ _ h => simpa using h

theorem RelG.wk (h : RelG B G s a w) (live : List Nat) (hr : renOK ren = true) (ha : mapA ren B.aa = B.aa) : RelG B (wkG ren G) (wk live ren s) a w := by
  have hA : ∀ b, Ban B.F (wkG ren G) (wkH ren s.heap) b → Ban B.F G s.heap b := by
    rintro b (⟨k, hk⟩ | hf)
    · obtain ⟨k0, _, hm⟩ := own_wk hk
      exact .inl ⟨k0, hm⟩
    · exact .inr hf
  have hav := AVR.wk_both (w := w) (G := G) (H := s.heap) (ren := ren) hr hA
  refine ⟨?_, fun t => ?_, h.size, h.defers, fun k => ?_, fun k k' b hb hb' => ?_, fun k b hb => ?_, h.rest, h.below, h.ban, h.base, ?_⟩
  · intro k' o ho
    obtain ⟨k, o', h1, h2, rfl⟩ := wkH_inv ho
    have hg : wkG ren G k' = G k := by simp [wkG, h1]
    rw [hg]
    have hob := h.obj k o' h2
    cases o' with
    | row sz xs dp fz ve =>
      obtain ⟨c1, c2, c3, c4, c5, c6, c7, c8, c9, c10⟩ := hob
      exact ⟨c1, c2, c3, c4, c5, c6, c7, c8, fun hd b hb hn => c9 hd b hb (hA b hn), fun hf hp hn => c10 hf hp (hA _ hn)⟩
    | box cs =>
      obtain ⟨cur, e, c1, c2, c3⟩ := hob
      exact ⟨cur, e, c1, hav.2 c2, c3⟩
    | map kv => exact hob
    | dead => trivial
  · show AVR w _ _ _ _ (if live.contains t then mapA ren (s.env t) else .x)
    split
    · exact hav.1 (h.env t)
    · exact .x _
  · show (ownOf (wkG ren G k) (wkH ren s.heap k)).Nodup
    cases ho : wkH ren s.heap k with
    | none => simp [ownOf]
    | some o =>
      obtain ⟨k0, o', h1, h2, rfl⟩ := wkH_inv ho
      have hg : wkG ren G k = G k0 := by simp [wkG, h1]
      rw [hg, ownOf_map, ← h2]
      exact h.nodup k0
  · obtain ⟨k1, e1, m1⟩ := own_wk hb
    obtain ⟨k2, e2, m2⟩ := own_wk hb'
    have := h.disj k1 k2 b m1 m2
    subst this
    have a1 := of_oldK hr e1
    have a2 := of_oldK hr e2
    rw [a1] at a2
    exact Option.some.inj a2
  · obtain ⟨k1, _, m1⟩ := own_wk hb
    exact h.ge k1 b m1
  · have := hav.1 h.anc
    rw [ha] at this
    exact this
end rel
end Go.Fs
