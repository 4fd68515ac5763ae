/- A part of the proof: an evaluator of the program's code over plain data, proved sound, or a function's walk by it. No conditions beyond those in the theorems. -/
import Derived.Test.YtbgbnmghhmfihaaFsH
set_option linter.unusedVariables false
set_option linter.constructorNameAsVariable false
namespace Go.Fs
open Go.RowKit

section rel
variable {P : Program} {T : Tab} {B : Ctx} {G : Nat → GI} {s : St} {a : Act} {w w' : World}

/-- A row takes the place of objects that were given up for it. -/
theorem RelG.putRow (h : RelG B G s a w) {H1 : Nat → Option Ob} (hkeys : ∀ k, H1 k = s.heap k ∨ (s.heap k ≠ none ∧ H1 k = some .dead)) {k : Nat} (hk : H1 k = none) (gi : GI) (sz : Nat) (xs : List (List D)) (dp : Bool) (ve : Nat)
    (hr : Rest w w') (hw : ∀ b, b < w.heap.size → (∀ i, H1 i ≠ s.heap i → b ∉ ownOf (G i) (s.heap i)) → w'.heap[b]? = w.heap[b]?)
    (hsub : ∀ b ∈ ownOf gi (some (.row sz xs dp false ve)), (∃ i, H1 i ≠ s.heap i ∧ b ∈ ownOf (G i) (s.heap i)) ∨ w.heap.size ≤ b)
    (hnd : (ownOf gi (some (.row sz xs dp false ve))).Nodup)
    (hobj : RowR w' (Ban B.F (upd G k gi) (upd H1 k (some (.row sz xs dp false ve)))) gi sz xs dp false) :
    RelG B (upd G k gi) { s with heap := upd H1 k (some (.row sz xs dp false ve)) } a w' := by
  have hks : s.heap k = none := by
    rcases hkeys k with e | ⟨_, e⟩
    · rw [← e]; exact hk
    · rw [hk] at e; cases e
  have hdead : ∀ i, H1 i ≠ s.heap i → H1 i = some .dead := fun i hn => (hkeys i).elim (fun e => absurd e hn) fun e => e.2
  have hne : ∀ i, H1 i ≠ s.heap i → i ≠ k := fun i hn e => by subst e; rw [hk, hks] at hn; exact hn rfl
  refine h.step (w' := w') (G' := upd G k gi) _ (fun i => i = k ∨ H1 i ≠ s.heap i) hr ?_ ?_ ?_ ?_ ?_ ?_ ?_
  · intro b hb hn
    exact hw b hb fun i hi => hn i (.inr hi)
  · intro i hi
    simp only [not_or, ne_eq, Classical.not_not] at hi
    exact ⟨(upd_ne _ _ hi.1).trans hi.2, upd_ne _ _ hi.1⟩
  · intro i o hi ho
    have hi' : i ≠ k := fun e => by subst e; rw [hks] at ho; cases ho
    have hd := hdead i (hi.resolve_left hi')
    exact ⟨.dead, by rw [upd_ne _ _ hi']; exact hd, .dead _⟩
  · intro i hi b hb
    by_cases e : i = k
    · subst e
      rw [upd_same, upd_same] at hb
      rcases hsub b hb with ⟨j, hj, hm⟩ | hge
      · exact .inl ⟨j, .inr hj, hm⟩
      · exact .inr hge
    · rw [upd_ne _ _ e, upd_ne _ _ e, hdead i (hi.resolve_left e)] at hb
      simp [ownOf] at hb
  · intro i hi
    by_cases e : i = k
    · subst e; rw [upd_same, upd_same]; exact hnd
    · rw [upd_ne _ _ e, upd_ne _ _ e, hdead i (hi.resolve_left e)]
      simp [ownOf]
  · intro i j hi hj b hb hb'
    by_cases e : i = k
    · by_cases e2 : j = k
      · rw [e, e2]
      · rw [upd_ne _ _ e2, upd_ne _ _ e2, hdead j (hj.resolve_left e2)] at hb'
        simp [ownOf] at hb'
    · rw [upd_ne _ _ e, upd_ne _ _ e, hdead i (hi.resolve_left e)] at hb
      simp [ownOf] at hb
  · intro i o hi ho
    by_cases e : i = k
    · subst e; rw [upd_same] at ho ⊢; cases ho; exact hobj
    · rw [upd_ne _ _ e, hdead i (hi.resolve_left e)] at ho
      cases ho
      trivial

theorem own_put {H1 : Nat → Option Ob} {k : Nat} {gi : GI} {o : Ob} {b : Nat} (hb : Ban B.F (upd G k gi) (upd H1 k (some o)) b) : Ban B.F G H1 b ∨ b ∈ ownOf gi (some o) := ban_new hb

theorem ban_kill {k b : Nat} (hb : Ban B.F G (upd s.heap k (some .dead)) b) : Ban B.F G s.heap b := hb.imp (fun h => (own_kill h).1) id

end rel
end Go.Fs
