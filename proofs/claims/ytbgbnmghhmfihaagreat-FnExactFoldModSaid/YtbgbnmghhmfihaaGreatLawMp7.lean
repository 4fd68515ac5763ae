/- A part of the proof: an evaluator of the program's code over plain data, proved sound, and walks of the program's functions by it. No conditions beyond those in the theorems. -/
import Derived.Test.YtbgbnmghhmfihaaGreatLawMp6
set_option linter.unusedVariables false
set_option linter.unusedSimpArgs false
set_option linter.constructorNameAsVariable false
set_option linter.unusedSectionVars false
set_option linter.defProp false
set_option linter.unusedVariables false
set_option linter.constructorNameAsVariable false
namespace Go.Fs
open Go.RowKit

/-! ### a list that lies in an element of one's own row, taken out: the row keeps a hole -/
mutual
def spA (k ve i o k' sz : Nat) : AV → AV
  | .m j v i' o' => if j = k ∧ v = ve then (if i' = i ∧ o' = o then .r k' else if o' < sz then .m k (ve + 1) i' o' else .x) else .m j v i' o'
  | .g cs => .g (spL k ve i o k' sz cs)
  | .f fn caps => .f fn (spL k ve i o k' sz caps)
  | .t vs => .t (spL k ve i o k' sz vs)
  | .d x => .d x
  | .z n => .z n
  | .r j => .r j
  | .a j o' => .a j o'
  | .e j i' o' => .e j i' o'
  | .q cs o' => .q cs o'
  | .mp j => .mp j
  | .x => .x
def spL (k ve i o k' sz : Nat) : List AV → List AV
  | [] => []
  | a :: as => spA k ve i o k' sz a :: spL k ve i o k' sz as
end
def spOb (k ve i o k' sz : Nat) : Ob → Ob
  | .row sz xs dp fz v => .row sz xs dp fz v
  | .box cs => .box (spL k ve i o k' sz cs)
  | .map kv => .map kv
  | .dead => .dead
def spM (k ve i o k' sz : Nat) : Option Ob → Option Ob
  | some ob => some (spOb k ve i o k' sz ob)
  | none => none
def spH (k ve i o k' sz : Nat) (xs : List (List D)) (z : Nat) (ys : List (List D)) (H : Nat → Option Ob) : Nat → Option Ob := fun j =>
  if j = k' then some (.row z ys true false 0) else if j = k then some (.row sz (setCell xs i o .u) true false (ve + 1)) else spM k ve i o k' sz (H j)
def spS (k ve i o k' sz : Nat) (xs : List (List D)) (z : Nat) (ys : List (List D)) (s : St) : St := { n := s.n, env := fun t => spA k ve i o k' sz (s.env t), heap := spH k ve i o k' sz xs z ys s.heap }

section rel
variable {B : Ctx} {G : Nat → GI} {s : St} {a : Act} {w : World}

theorem ownOf_sp (k ve i o k' sz : Nat) (g : GI) (ob : Ob) : ownOf g (some (spOb k ve i o k' sz ob)) = ownOf g (some ob) := by cases ob <;> rfl

theorem RelG.split (h : RelG B G s a w) {k ve i o k' sz z : Nat} {xs ys : List (List D)} (hk : s.heap k = some (.row sz xs true false ve)) (hi : i < xs.length) (ho : o < sz)
    (hy : (xs.getD i []).getD o .u = .l z ys) (hn : s.heap k' = none) (ha : spA k ve i o k' sz B.aa = B.aa) : ∃ G', RelG B G' (spS k ve i o k' sz xs z ys s) a w := by
  have hrow : RowR w (Ban B.F G s.heap) (G k) sz xs true false := h.obj k _ hk
  obtain ⟨c1, c2, c3, c4, c5, c6, c7, c8, c9, c10⟩ := hrow
  have hkk : k' ≠ k := fun e => by rw [e, hk] at hn; cases hn
  have hcap : (G k).cap ≠ 0 := by omega
  have hcell := cell_get c6 hi ho
  rw [hy] at hcell
  obtain ⟨v, S1, Sm, S2, hv, htr, hsub, hrep⟩ := c7.at hcell
  have hnd : ((G k).blk :: (G k).sub).Nodup := by
    have := h.nodup k
    rw [hk] at this
    simpa [ownOf, hcap] using this
  rw [hsub] at hnd
  -- the list that is taken out
  obtain ⟨gi, hgi1, hgi2, hgi3, hgi4⟩ : ∃ gi : GI, (∀ Av, RowR w Av gi z ys true false) ∧ (∃ a, v = .slice a ys.length gi.cap ∧ (0 < gi.cap → a = some ⟨gi.blk, gi.off, none⟩)) ∧ (∀ b ∈ ownOf gi (some (.row z ys true false 0)), b ∈ Sm) ∧ (ownOf gi (some (.row z ys true false 0))).Nodup := by
    cases htr with
    | z a c _ hc =>
      obtain rfl := hc rfl
      exact ⟨{ blk := 0, off := 0, cap := 0, vs := [], sub := [] }, fun Av => RowR.mkVoid w Av 0 0 z true false, ⟨a, rfl, fun h => absurd h (Nat.lt_irrefl 0)⟩, fun b hb => by simp [ownOf] at hb, by simp [ownOf]⟩
    | l g o' c _ cur e fr vs _ S hg hc hm hl hv' h1 hx ho' hs =>
      have hfr := ho' rfl
      refine ⟨{ blk := g, off := o', cap := c, vs := vs, sub := S }, fun Av => ⟨fun _ => ⟨cur, e, by rw [hg, hfr.1], hfr.2, hv'⟩, hc, hm, hl, h1, hx, hs, fun _ => ?_, (fun h => by rcases h with h | h <;> cases h), (fun h => by cases h)⟩, ⟨_, rfl, fun _ => rfl⟩, fun b hb => ?_, ?_⟩
      · have : (S1 ++ ((g :: S) ++ S2)).Nodup := (List.nodup_cons.1 hnd).2
        have := (List.nodup_append.1 (List.nodup_append.1 this).2.1).1
        exact (List.nodup_cons.1 this).2
      · simp only [ownOf] at hb
        split at hb
        · cases hb
        · simpa using hb
      · have : (S1 ++ ((g :: S) ++ S2)).Nodup := (List.nodup_cons.1 hnd).2
        have := (List.nodup_append.1 (List.nodup_append.1 this).2.1).1
        simp only [ownOf]
        split
        · exact List.nodup_nil
        · simpa using this
  have hgk : ∀ Av : Nat → Prop, RowR w Av { G k with sub := S1 ++ S2 } sz (setCell xs i o .u) true false := fun Av => by
    have hsl : ∃ a len cap, v = .slice a len cap := by
      obtain ⟨a, e, _⟩ := hgi2
      exact ⟨_, _, _, e⟩
    obtain ⟨a1, l1, cp1, hvs⟩ := hsl
    refine ⟨c1, by rw [setCell_len]; exact c2, c3, by rw [setCell_len]; exact c4, c5, setCell_uni c6 hi o .u, ?_, fun _ => ?_, (fun h => by rcases h with h | h <;> cases h), (fun h => by cases h)⟩
    · rw [setCell_flat c6 .u hi ho]
      exact hrep (w' := w) (d' := .u) (Si := []) (by rw [hvs]; exact .u a1 l1 cp1) fun b hb => rfl
    · have h1 := (List.nodup_cons.1 hnd).2
      have h2 := List.nodup_append.1 h1
      have h3 := List.nodup_append.1 h2.2.1
      exact List.nodup_append.2 ⟨h2.1, h3.2.1, fun x hx y hy => h2.2.2 x hx y (List.mem_append_right _ hy)⟩
  have hkk2 : ¬ k = k' := fun e => hkk e.symm
  generalize hG' : (fun j => if j = k' then gi else if j = k then { G k with sub := S1 ++ S2 } else G j : Nat → GI) = G'
  have g1 : G' k' = gi := by rw [← hG']; simp
  have g2 : G' k = { G k with sub := S1 ++ S2 } := by rw [← hG']; simp [hkk2]
  have g3 : ∀ j, j ≠ k' → j ≠ k → G' j = G j := fun j h1 h2 => by rw [← hG']; simp [h1, h2]
  let H' := spH k ve i o k' sz xs z ys s.heap
  have e1 : H' k' = some (.row z ys true false 0) := by simp [H', spH]
  have e2 : H' k = some (.row sz (setCell xs i o .u) true false (ve + 1)) := by simp [H', spH, hkk2]
  have e3 : ∀ j, j ≠ k' → j ≠ k → H' j = spM k ve i o k' sz (s.heap j) := fun j h1 h2 => by simp [H', spH, h1, h2]
  have e4 : ∀ j ob, j ≠ k → s.heap j = some ob → j ≠ k' ∧ H' j = some (spOb k ve i o k' sz ob) := fun j ob hj hob => by
    have : j ≠ k' := fun e => by rw [e, hn] at hob; cases hob
    exact ⟨this, by rw [e3 j this hj, hob]; rfl⟩
  -- what is owned
  have own1 : ∀ b ∈ ownOf gi (some (.row z ys true false 0)), b ∈ ownOf (G k) (s.heap k) := fun b hb => by
    rw [hk]
    simp only [ownOf, if_neg hcap, if_true]
    rw [hsub]
    exact .tail _ (List.mem_append_right _ (List.mem_append_left _ (hgi3 b hb)))
  have own2 : ∀ b ∈ ownOf { G k with sub := S1 ++ S2 } (some (.row sz (setCell xs i o .u) true false (ve + 1))), b ∈ ownOf (G k) (s.heap k) := fun b hb => by
    rw [hk]
    simp only [ownOf, if_neg hcap, if_true] at hb ⊢
    rw [hsub]
    cases hb with
    | head => exact .head _
    | tail _ hb =>
      refine .tail _ ?_
      rcases List.mem_append.1 hb with hb | hb
      · exact List.mem_append_left _ hb
      · exact List.mem_append_right _ (List.mem_append_right _ hb)
  have own3 : ∀ b, b ∈ ownOf gi (some (.row z ys true false 0)) → b ∈ ownOf { G k with sub := S1 ++ S2 } (some (.row sz (setCell xs i o .u) true false (ve + 1))) → False := fun b h1 h2 => by
    have h1 := hgi3 b h1
    simp only [ownOf, if_neg hcap, if_true] at h2
    have hn1 := List.nodup_cons.1 hnd
    cases h2 with
    | head => exact hn1.1 (List.mem_append_right _ (List.mem_append_left _ h1))
    | tail _ h2 =>
      have hn2 := List.nodup_append.1 hn1.2
      rcases List.mem_append.1 h2 with h2 | h2
      · exact hn2.2.2 b h2 b (List.mem_append_left _ h1) rfl
      · exact (List.nodup_append.1 hn2.2.1).2.2 b h1 b h2 rfl
  have ownj : ∀ j b, b ∈ ownOf (G' j) (H' j) → ∃ j0, b ∈ ownOf (G j0) (s.heap j0) ∧ (j ≠ k' → j0 = j) ∧ (j = k' → j0 = k) := fun j b hb => by
    by_cases h1 : j = k'
    · subst h1
      rw [g1, e1] at hb
      exact ⟨k, own1 b hb, fun h => absurd rfl h, fun _ => rfl⟩
    · by_cases h2 : j = k
      · subst h2
        rw [g2, e2] at hb
        exact ⟨j, own2 b hb, fun _ => rfl, fun h => absurd h h1⟩
      · rw [g3 j h1 h2, e3 j h1 h2] at hb
        refine ⟨j, ?_, fun _ => rfl, fun h => absurd h h1⟩
        cases hs : s.heap j with
        | none => rw [hs] at hb; simp [spM, ownOf] at hb
        | some ob => rw [hs] at hb; simp only [spM] at hb; rw [ownOf_sp] at hb; exact hb
  have hA : ∀ b, Ban B.F G' H' b → Ban B.F G s.heap b := by
    rintro b (⟨j, hj⟩ | hf)
    · obtain ⟨j0, hj0, _⟩ := ownj j b hj
      exact .inl ⟨j0, hj0⟩
    · exact .inr hf
  -- values
  have key : ∀ {v' : Value} {av : AV}, AVR w G s.heap (Ban B.F G s.heap) v' av → AVR w G' H' (Ban B.F G' H') v' (spA k ve i o k' sz av) := by
    intro v' av hav
    refine AVR.rec (w := w) (G := G) (H := s.heap) (Av := Ban B.F G s.heap) (motive_1 := fun v' av _ => AVR w G' H' (Ban B.F G' H') v' (spA k ve i o k' sz av)) (motive_2 := fun vs as _ => AVRL w G' H' (Ban B.F G' H') vs (spL k ve i o k' sz as))
      ?_ ?_ ?_ ?_ ?_ ?_ ?_ ?_ ?_ ?_ ?_ ?_ ?_ ?_ ?_ ?_ ?_ ?_ ?_ ?_ hav
    · intro v x S h1 h hS
      exact .d v x S h1 h fun b hb hn => hS b hb (hA b hn)
    · intro sz; exact .z sz
    · intro j sz' xs' dp fz ve' a' hj ha'
      by_cases hjk : j = k
      · subst hjk
        rw [hk] at hj
        cases hj
        have := AVR.r (w := w) (G := G') (H := H') (Av := Ban B.F G' H') j sz (setCell xs i o .u) true false (ve + 1) a' e2 (by rw [g2]; exact ha')
        rw [g2, setCell_len] at this
        exact this
      · obtain ⟨q1, q2⟩ := e4 j _ hjk hj
        have := AVR.r (w := w) (G := G') (H := H') (Av := Ban B.F G' H') j sz' xs' dp fz ve' a' q2 (by rw [g3 j q1 hjk]; exact ha')
        rw [g3 j q1 hjk] at this
        exact this
    · intro j v hj
      have hjk : j ≠ k := fun e => by rw [e, hk] at hj; cases hj
      exact .rd j v (e4 j _ hjk hj).2
    · intro j o' cs hj
      have hjk : j ≠ k := fun e => by rw [e, hk] at hj; cases hj
      obtain ⟨q1, q2⟩ := e4 j _ hjk hj
      have := AVR.a (w := w) (G := G') (H := H') (Av := Ban B.F G' H') j o' _ q2
      rw [g3 j q1 hjk] at this
      exact this
    · intro j o' v hj
      have hjk : j ≠ k := fun e => by rw [e, hk] at hj; cases hj
      exact .ad j o' v (e4 j _ hjk hj).2
    · intro j i' o' sz' xs' dp fz ve' hj hi'
      by_cases hjk : j = k
      · subst hjk
        rw [hk] at hj
        cases hj
        have := AVR.e (w := w) (G := G') (H := H') (Av := Ban B.F G' H') j i' o' sz _ true false (ve + 1) e2 (by rw [setCell_len]; exact hi')
        rw [g2] at this
        exact this
      · obtain ⟨q1, q2⟩ := e4 j _ hjk hj
        have := AVR.e (w := w) (G := G') (H := H') (Av := Ban B.F G' H') j i' o' sz' xs' dp fz ve' q2 hi'
        rw [g3 j q1 hjk] at this
        exact this
    · intro j i' o' v hj
      have hjk : j ≠ k := fun e => by rw [e, hk] at hj; cases hj
      exact .ed j i' o' v (e4 j _ hjk hj).2
    · intro j i' o' sz' xs' dp fz ve' v2 z' ys' hj hjj hv2 h1
      by_cases hjk : j = k
      · subst hjk
        rw [hk] at hj
        cases hj
        simp only [spA, and_self, if_true]
        by_cases hio : i' = i ∧ o' = o
        · rw [if_pos hio]
          obtain ⟨rfl, rfl⟩ := hio
          rw [hv] at hv2
          cases hv2
          obtain ⟨a2, q1, q2⟩ := hgi2
          rw [q1]
          have := AVR.r (w := w) (G := G') (H := H') (Av := Ban B.F G' H') k' z ys true false 0 a2 e1 (by rw [g1]; exact q2)
          rw [g1] at this
          exact this
        · rw [if_neg hio]
          by_cases hos : o' < sz
          rotate_left
          · rw [if_neg hos]; exact .x _
          rw [if_pos hos]
          have hsame : i' * sz + o' ≠ i * sz + o := fun e => hio (by
            have d1 : (i' * sz + o') / sz = i' := by rw [Nat.mul_comm, Nat.mul_add_div (by omega), Nat.div_eq_of_lt hos, Nat.add_zero]
            have d2 : (i * sz + o) / sz = i := by rw [Nat.mul_comm, Nat.mul_add_div (by omega), Nat.div_eq_of_lt ho, Nat.add_zero]
            have d3 : i' = i := by rw [← d1, ← d2, e]
            subst d3
            exact ⟨rfl, by omega⟩)
          · refine .m j i' o' sz _ true false (ve + 1) v2 z' ys' e2 ?_ (by rw [g2]; exact hv2) h1
            rw [setCell_flat c6 .u hi ho, List.getElem?_set_ne (fun e => hsame e.symm)]
            exact hjj
      · obtain ⟨q1, q2⟩ := e4 j _ hjk hj
        simp only [spA]
        rw [if_neg (fun e => hjk e.1)]
        exact .m j i' o' sz' xs' dp fz ve' v2 z' ys' q2 hjj (by rw [g3 j q1 hjk]; exact hv2) h1
    · intro j i' o' sz' xs' dp fz ve1 ve2 v2 hj hlt
      by_cases hjk : j = k
      · subst hjk
        rw [hk] at hj
        cases hj
        simp only [spA]
        rw [if_neg (fun e => by omega)]
        exact .mo j i' o' sz _ true false ve1 (ve + 1) v2 e2 (by omega)
      · obtain ⟨q1, q2⟩ := e4 j _ hjk hj
        simp only [spA]
        rw [if_neg (fun e => hjk e.1)]
        exact .mo j i' o' sz' xs' dp fz ve1 ve2 v2 q2 hlt
    · intro j ve1 i' o' v2 hj
      have hjk : j ≠ k := fun e => by rw [e, hk] at hj; cases hj
      simp only [spA]
      rw [if_neg (fun e => hjk e.1)]
      exact .md j ve1 i' o' v2 (e4 j _ hjk hj).2
    · intro g base o' cur el fr vs cs S hg hv' h1 h hb hS
      exact .q g base o' cur el fr vs cs S hg hv' h1 h (fun hn => hb (hA _ hn)) fun b hb hn => hS b hb (hA b hn)
    · intro cs as _ ih; exact .g cs _ ih
    · intro fn cs as _ ih; exact .f fn cs _ ih
    · intro vs as _ ih; exact .t vs _ ih
    · intro j kv hj
      have hjk : j ≠ k := fun e => by rw [e, hk] at hj; cases hj
      obtain ⟨q1, q2⟩ := e4 j _ hjk hj
      have := AVR.mp (w := w) (G := G') (H := H') (Av := Ban B.F G' H') j kv q2
      rw [g3 j q1 hjk] at this
      exact this
    · intro j v hj
      have hjk : j ≠ k := fun e => by rw [e, hk] at hj; cases hj
      exact .mpd j v (e4 j _ hjk hj).2
    · intro v; exact .x v
    · exact .nil
    · intro v av vs as _ _ ih ihs; exact .cons v _ vs _ ih ihs
  have keyL : ∀ {vs : List Value} {as : List AV}, AVRL w G s.heap (Ban B.F G s.heap) vs as → AVRL w G' H' (Ban B.F G' H') vs (spL k ve i o k' sz as) := fun {vs as} h => by
    have := key (.t vs.toArray as (by simpa using h))
    simp only [spA] at this
    cases this with
    | t _ _ h => simpa using h
  refine ⟨G', ?_, fun t => key (h.env t), h.size, h.defers, fun j => ?_, fun j j' b hb hb' => ?_, fun j b hb => ?_, h.rest, h.below, h.ban, h.base, ?_⟩
  · intro j ob hob
    have hob : H' j = some ob := hob
    by_cases h1 : j = k'
    · subst h1
      rw [e1] at hob
      cases hob
      rw [g1]
      exact hgi1 _
    · by_cases h2 : j = k
      · subst h2
        rw [e2] at hob
        cases hob
        rw [g2]
        exact hgk _
      · rw [e3 j h1 h2] at hob
        rw [g3 j h1 h2]
        cases hs : s.heap j with
        | none => rw [hs] at hob; cases hob
        | some ob' =>
          rw [hs] at hob
          simp only [spM, Option.some.injEq] at hob
          subst hob
          have hob := h.obj j ob' hs
          cases ob' with
          | row sz' xs' dp fz ve' =>
            obtain ⟨c1, c2, c3, c4, c5, c6, c7, c8, c9, c10⟩ := hob
            exact ⟨c1, c2, c3, c4, c5, c6, c7, c8, fun hd b hb hn => c9 hd b hb (hA b hn), fun hf hp hn => c10 hf hp (hA _ hn)⟩
          | box cs =>
            obtain ⟨cur, e, q1, q2, q3⟩ := hob
            exact ⟨cur, e, q1, keyL q2, q3⟩
          | map kv => exact hob
          | dead => trivial
  · show (ownOf (G' j) (H' j)).Nodup
    by_cases h1 : j = k'
    · subst h1
      rw [g1, e1]
      exact hgi4
    · by_cases h2 : j = k
      · subst h2
        rw [g2, e2]
        simp only [ownOf, if_neg hcap, if_true]
        have hn1 := List.nodup_cons.1 hnd
        refine List.nodup_cons.2 ⟨fun hm => hn1.1 ?_, (hgk (fun _ => True)).nodup rfl⟩
        rcases List.mem_append.1 hm with hm | hm
        · exact List.mem_append_left _ hm
        · exact List.mem_append_right _ (List.mem_append_right _ hm)
      · rw [g3 j h1 h2, e3 j h1 h2]
        have := h.nodup j
        cases hs : s.heap j with
        | none => simp [spM, ownOf]
        | some ob => rw [hs] at this; simp only [spM]; rw [ownOf_sp]; exact this
  · have hb : b ∈ ownOf (G' j) (H' j) := hb
    have hb' : b ∈ ownOf (G' j') (H' j') := hb'
    obtain ⟨j0, p1, p2, p3⟩ := ownj j b hb
    obtain ⟨j1, q1, q2, q3⟩ := ownj j' b hb'
    have hjj := h.disj j0 j1 b p1 q1
    by_cases h1 : j = k' <;> by_cases h2 : j' = k'
    · rw [h1, h2]
    · have a1 := p3 h1
      have a2 := q2 h2
      have : j' = k := by rw [← a2, ← hjj, a1]
      subst this
      subst h1
      rw [g1, e1] at hb
      rw [g2, e2] at hb'
      exact (own3 b hb hb').elim
    · have a1 := p2 h1
      have a2 := q3 h2
      have : j = k := by rw [← a1, hjj, a2]
      subst this
      subst h2
      rw [g1, e1] at hb'
      rw [g2, e2] at hb
      exact (own3 b hb' hb).elim
    · rw [← p2 h1, hjj, q2 h2]
  · obtain ⟨j0, p1, _⟩ := ownj j b hb
    exact h.ge j0 b p1
  · have := key h.anc
    rw [ha] at this
    exact this
end rel
end Go.Fs
