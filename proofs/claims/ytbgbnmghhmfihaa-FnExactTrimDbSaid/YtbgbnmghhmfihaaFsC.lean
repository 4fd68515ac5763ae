/- A part of the proof: an evaluator of the program's code over plain data, proved sound, or a function's walk by it. No conditions beyond those in the theorems. -/
import Derived.Test.YtbgbnmghhmfihaaFsB
set_option linter.unusedVariables false
namespace Go.Fs
open Go.RowKit

/-- One function, turned at one place. -/
def upd {α : Type} (f : Nat → α) (k : Nat) (x : α) : Nat → α := fun i => if i = k then x else f i
@[simp] theorem upd_same {α : Type} (f : Nat → α) (k : Nat) (x : α) : upd f k x k = x := by simp [upd]
theorem upd_ne {α : Type} (f : Nat → α) {k i : Nat} (x : α) (h : i ≠ k) : upd f k x i = f i := by simp [upd, h]

theorem mem_ownRow {g : GI} {sz : Nat} {xs : List (List D)} {dp : Bool} {ve b : Nat} (h : b ∈ ownOf g (some (.row sz xs dp false ve))) : g.cap ≠ 0 ∧ (b = g.blk ∨ (dp = true ∧ b ∈ g.sub)) := by
  by_cases hc : g.cap = 0
  · simp [ownOf, hc] at h
  · refine ⟨hc, ?_⟩
    cases dp with
    | false => simp [ownOf, hc] at h; exact .inl h
    | true => simp [ownOf, hc] at h; exact h.imp id fun h => ⟨rfl, h⟩
theorem nodup_ownRow {g : GI} {sz : Nat} {xs : List (List D)} {dp : Bool} {ve : Nat} (h : dp = true → g.blk ∉ g.sub ∧ g.sub.Nodup) : (ownOf g (some (.row sz xs dp false ve))).Nodup := by
  by_cases hc : g.cap = 0
  · simp [ownOf, hc]
  · cases dp with
    | false => simp [ownOf, hc]
    | true => simp only [ownOf, hc, if_false, if_true]; exact List.nodup_cons.2 (h rfl)

section step
variable {B : Ctx} {G G' : Nat → GI} {s : St} {a : Act} {w w' : World}

theorem RelG.put (h : RelG B G s a w) {v : Value} {av : AV} (d : Nat) (hd : d < s.n) (hv : AVR w G s.heap (Ban B.F G s.heap) v av) :
    RelG B G { s with env := upd s.env d av } (a.put (some d) v) w := by
  obtain ⟨h1, h2, h3, h4, h5, h6, h7, h8, h9, h10, h11, h12⟩ := h
  refine ⟨h1, fun t => ?_, by simpa [Act.put] using h3, by simpa [Act.put] using h4, h5, h6, h7, h8, h9, h10, h11, h12⟩
  show AVR w G s.heap _ ((a.put (some d) v).tmps.getD t undef) (upd s.env d av t)
  by_cases ht : t = d
  · subst ht
    rw [upd_same]
    have : (a.put (some t) v).tmps.getD t undef = v := by
      simp [Act.put, Array.getD_eq_getD_getElem?, Array.getElem?_setIfInBounds_self_of_lt (h3.symm ▸ hd)]
    rw [this]
    exact hv
  · rw [upd_ne _ _ ht]
    have : (a.put (some d) v).tmps.getD t undef = a.tmps.getD t undef := by
      simp [Act.put, Array.getD_eq_getD_getElem?, Array.getElem?_setIfInBounds_ne (Ne.symm ht)]
    rw [this]
    exact h2 t

/-- The world goes on: keys of T have turned, their blocks alone are written. -/
theorem RelG.step (h : RelG B G s a w) (H' : Nat → Option Ob) (T : Nat → Prop) (hr : Rest w w')
    (hw : ∀ b, b < w.heap.size → (∀ k, T k → b ∉ ownOf (G k) (s.heap k)) → w'.heap[b]? = w.heap[b]?)
    (hk : ∀ k, ¬ T k → H' k = s.heap k ∧ G' k = G k)
    (hT : ∀ k o, T k → s.heap k = some o → ∃ o', H' k = some o' ∧ Ob.to (G k) (G' k) o o')
    (hsub : ∀ k, T k → ∀ b ∈ ownOf (G' k) (H' k), (∃ k0, T k0 ∧ b ∈ ownOf (G k0) (s.heap k0)) ∨ w.heap.size ≤ b)
    (hnd : ∀ k, T k → (ownOf (G' k) (H' k)).Nodup)
    (hdis : ∀ k k', T k → T k' → ∀ b, b ∈ ownOf (G' k) (H' k) → b ∈ ownOf (G' k') (H' k') → k = k')
    (hobj : ∀ k o, T k → H' k = some o → ObR w' G' H' (Ban B.F G' H') (G' k) o) : RelG B G' { s with heap := H' } a w' := by
  have hw1 : ∀ b, b < w.heap.size → ¬ Ban B.F G s.heap b → w'.heap[b]? = w.heap[b]? := fun b hb hn => hw b hb fun k _ hm => hn (.inl ⟨k, hm⟩)
  have hA : ∀ b, b < w.heap.size → Ban B.F G' H' b → Ban B.F G s.heap b := by
    rintro b hb (⟨k, hm⟩ | hf)
    case inr => exact .inr hf
    left
    by_cases ht : T k
    · rcases hsub k ht b hm with ⟨k0, _, hm0⟩ | hge
      · exact ⟨k0, hm0⟩
      · omega
    · obtain ⟨e1, e2⟩ := hk k ht
      rw [e1, e2] at hm
      exact ⟨k, hm⟩
  have hH : ∀ k o, s.heap k = some o → ∃ o', H' k = some o' ∧ Ob.to (G k) (G' k) o o' := by
    intro k o ho
    by_cases ht : T k
    · exact hT k o ht ho
    · obtain ⟨e1, e2⟩ := hk k ht
      exact ⟨o, e1.trans ho, e2 ▸ Ob.to.refl _ _⟩
  have hkw : ∀ k, ¬ T k → ∀ b ∈ ownOf (G k) (s.heap k), w'.heap[b]? = w.heap[b]? := by
    intro k ht b hb
    refine hw b (h.own_lt ⟨k, hb⟩) fun k0 ht0 hm => ?_
    have := h.disj k k0 b hb hm
    exact ht (this ▸ ht0)
  have hM := AVR.mono_both (w := w) (w' := w') (G := G) (G' := G') (H := s.heap) (H' := H') (Av := Ban B.F G s.heap) (Av' := Ban B.F G' H') hw1 hA hH
  refine ⟨?_, fun t => hM.1 (h.env t), h.size, h.defers, ?_, ?_, ?_, h.rest.trans hr, ?_, h.ban, Nat.le_trans h.base hr.size, hM.1 h.anc⟩
  · intro k o ho
    by_cases ht : T k
    · exact hobj k o ht ho
    · obtain ⟨e1, e2⟩ := hk k ht
      have ho' : s.heap k = some o := e1 ▸ ho
      rw [e2]
      exact (h.obj k o ho').mono hw1 hA hH fun b hb => hkw k ht b (by rw [ho']; exact hb)
  · intro k
    by_cases ht : T k
    · exact hnd k ht
    · obtain ⟨e1, e2⟩ := hk k ht
      show (ownOf (G' k) (H' k)).Nodup
      rw [e1, e2]
      exact h.nodup k
  · intro k k' b hb hb'
    have hb : b ∈ ownOf (G' k) (H' k) := hb
    have hb' : b ∈ ownOf (G' k') (H' k') := hb'
    by_cases ht : T k <;> by_cases ht' : T k'
    · exact hdis k k' ht ht' b hb hb'
    · obtain ⟨e1, e2⟩ := hk k' ht'
      rw [e1, e2] at hb'
      rcases hsub k ht b hb with ⟨k0, h0, hm⟩ | hge
      · exact absurd (h.disj k0 k' b hm hb' ▸ h0) ht'
      · have := h.own_lt ⟨k', hb'⟩; omega
    · obtain ⟨e1, e2⟩ := hk k ht
      rw [e1, e2] at hb
      rcases hsub k' ht' b hb' with ⟨k0, h0, hm⟩ | hge
      · exact absurd (h.disj k0 k b hm hb ▸ h0) ht
      · have := h.own_lt ⟨k, hb⟩; omega
    · obtain ⟨e1, e2⟩ := hk k ht
      obtain ⟨e3, e4⟩ := hk k' ht'
      rw [e1, e2] at hb
      rw [e3, e4] at hb'
      exact h.disj k k' b hb hb'
  · intro k b hb
    have hb : b ∈ ownOf (G' k) (H' k) := hb
    by_cases ht : T k
    · rcases hsub k ht b hb with ⟨k0, h0, hm⟩ | hge
      · exact h.ge k0 b hm
      · exact .inl (Nat.le_trans h.base hge)
    · obtain ⟨e1, e2⟩ := hk k ht
      rw [e1, e2] at hb
      exact h.ge k b hb
  · intro b hb hM
    rw [← h.below b hb hM]
    refine hw b (Nat.lt_of_lt_of_le hb h.base) fun k _ hm => ?_
    rcases h.ge k b hm with h1 | h1
    · omega
    · exact hM h1

/-- Nothing that is known has turned; the world has more blocks, or has drawn. -/
theorem RelG.grow (h : RelG B G s a w) (hr : Rest w w') (hw : ∀ b, b < w.heap.size → w'.heap[b]? = w.heap[b]?) : RelG B G s a w' :=
  h.step (w' := w') (G' := G) s.heap (fun _ => False) hr (fun b hb _ => hw b hb) (fun k _ => ⟨rfl, rfl⟩) (fun _ _ hf => hf.elim) (fun _ hf => hf.elim) (fun _ hf => hf.elim) (fun _ _ hf => hf.elim) (fun _ _ hf => hf.elim)

/-- A new object. -/
theorem RelG.new (h : RelG B G s a w) (k : Nat) (gi : GI) (o : Ob) (hk : s.heap k = none) (hr : Rest w w') (hw : ∀ b, b < w.heap.size → w'.heap[b]? = w.heap[b]?)
    (hnew : ∀ b ∈ ownOf gi (some o), w.heap.size ≤ b) (hnd : (ownOf gi (some o)).Nodup)
    (hobj : ObR w' (upd G k gi) (upd s.heap k (some o)) (Ban B.F (upd G k gi) (upd s.heap k (some o))) gi o) :
    RelG B (upd G k gi) { s with heap := upd s.heap k (some o) } a w' := by
  refine h.step (w' := w') (G' := upd G k gi) (upd s.heap k (some o)) (fun i => i = k) hr (fun b hb _ => hw b hb) (fun i hi => ⟨upd_ne _ _ hi, upd_ne _ _ hi⟩) ?_ ?_ ?_ ?_ ?_
  · rintro i o' rfl ho; rw [hk] at ho; cases ho
  · rintro i rfl b hb; rw [upd_same, upd_same] at hb; exact .inr (hnew b hb)
  · rintro i rfl; rw [upd_same, upd_same]; exact hnd
  · rintro i j rfl rfl _ _ _; rfl
  · rintro i o' rfl ho
    rw [upd_same] at ho ⊢
    cases ho
    exact hobj

/-- Own blocks of the state behind a new object. -/
theorem own_new {G : Nat → GI} {H : Nat → Option Ob} {k : Nat} {gi : GI} {o : Ob} {b : Nat} (hb : Own (upd G k gi) (upd H k (some o)) b) : Own G H b ∨ b ∈ ownOf gi (some o) := by
  obtain ⟨i, hi⟩ := hb
  by_cases e : i = k
  · subst e; rw [upd_same, upd_same] at hi; exact .inr hi
  · rw [upd_ne _ _ e, upd_ne _ _ e] at hi; exact .inl ⟨i, hi⟩

/-- The blocks that are barred behind a new object. -/
theorem ban_new {B : Ctx} {G : Nat → GI} {H : Nat → Option Ob} {k : Nat} {gi : GI} {o : Ob} {b : Nat} (hb : Ban B.F (upd G k gi) (upd H k (some o)) b) : Ban B.F G H b ∨ b ∈ ownOf gi (some o) := by
  rcases hb with hb | hb
  · exact (own_new hb).imp .inl id
  · exact .inl (.inr hb)

/-- An object is no more. -/
theorem RelG.kill (h : RelG B G s a w) (k : Nat) (hk : s.heap k ≠ none) : RelG B G { s with heap := upd s.heap k (some .dead) } a w := by
  refine h.step (w' := w) (G' := G) (upd s.heap k (some .dead)) (fun i => i = k) (.refl w) (fun _ _ _ => rfl) (fun i hi => ⟨upd_ne _ _ hi, rfl⟩) ?_ ?_ ?_ ?_ ?_
  · rintro i o' rfl ho; exact ⟨.dead, upd_same .., .dead _⟩
  · rintro i rfl b hb; rw [upd_same] at hb; simp [ownOf] at hb
  · rintro i rfl; rw [upd_same]; simp [ownOf]
  · rintro i j rfl rfl _ _ _; rfl
  · rintro i o' rfl ho
    rw [upd_same] at ho
    cases ho
    trivial

end step
end Go.Fs
