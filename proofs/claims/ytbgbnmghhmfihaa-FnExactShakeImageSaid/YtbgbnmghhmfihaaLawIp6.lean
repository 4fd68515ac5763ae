/- A part of the proof: an evaluator of the program's code over plain data, proved sound, and walks of the program's functions by it. No conditions beyond those in the theorems. -/
import Derived.Orders
import Derived.Deep.LoopGhost
import Derived.Test.YtbgbnmghhmfihaaLawIp5
set_option linter.unusedVariables false
set_option linter.constructorNameAsVariable false
namespace Go.Fs
open Go.RowKit

/-! ### a list that lies in an element of one's own row, taken out: the row keeps a hole -/
mutual
def spA (k ve i o k' sz : Nat) : AV → AV
  | .m j v i' o' => if j = k ∧ v = ve then (if i' = i ∧ o' = o then .r k' else if o' < sz then .m k (ve + 1) i' o' else .x) else .m j v i' o'
  | .g cs => .g (spL k ve i o k' sz cs)
  | .f fn caps => .f fn (spL k ve i o k' sz caps)
  | .t vs => .t (spL k ve i o k' sz vs)
  | .d x => .d x
  | .z n => .z n
  | .r j => .r j
  | .a j o' => .a j o'
  | .e j i' o' => .e j i' o'
  | .q cs o' => .q cs o'
  | .mp j => .mp j
  | .x => .x
def spL (k ve i o k' sz : Nat) : List AV → List AV
  | [] => []
  | a :: as => spA k ve i o k' sz a :: spL k ve i o k' sz as
end
def spOb (k ve i o k' sz : Nat) : Ob → Ob
  | .row sz xs dp fz v => .row sz xs dp fz v
  | .box cs => .box (spL k ve i o k' sz cs)
  | .map kv => .map kv
  | .dead => .dead
def spM (k ve i o k' sz : Nat) : Option Ob → Option Ob
  | some ob => some (spOb k ve i o k' sz ob)
  | none => none
def spH (k ve i o k' sz : Nat) (xs : List (List D)) (z : Nat) (ys : List (List D)) (H : Nat → Option Ob) : Nat → Option Ob := fun j =>
  if j = k' then some (.row z ys true false 0) else if j = k then some (.row sz (setCell xs i o .u) true false (ve + 1)) else spM k ve i o k' sz (H j)
def spS (k ve i o k' sz : Nat) (xs : List (List D)) (z : Nat) (ys : List (List D)) (s : St) : St := { n := s.n, env := fun t => spA k ve i o k' sz (s.env t), heap := spH k ve i o k' sz xs z ys s.heap }

section rel
variable {B : Ctx} {G : Nat → GI} {s : St} {a : Act} {w : World}

theorem ownOf_sp (k ve i o k' sz : Nat) (g : GI) (ob : Ob) : ownOf g (some (spOb k ve i o k' sz ob)) = ownOf g (some ob) := by cases ob <;> rfl

theorem RelG.split (h : RelG B G s a w) {k ve i o k' sz z : Nat} {xs ys : List (List D)} (hk : s.heap k = some (.row sz xs true false ve)) (hi : i < xs.length) (ho : o < sz)
    (hy : (xs.getD i []).getD o .u = .l z ys) (hn : s.heap k' = none) (ha : spA k ve i o k' sz B.aa = B.aa) : ∃ G', RelG B G' (spS k ve i o k' sz xs z ys s) a w := by
  have hrow : RowR w (Ban B.F G s.heap) (G k) sz xs true false := h.obj k _ hk
  obtain ⟨c1, c2, c3, c4, c5, c6, c7, c8, c9, c10⟩ := hrow
  have hkk : k' ≠ k := fun e => by rw [e, hk] at hn; cases hn
  have hcap : (G k).cap ≠ 0 := by omega
  have hcell := cell_get c6 hi ho
  rw [hy] at hcell
  obtain ⟨v, S1, Sm, S2, hv, htr, hsub, hrep⟩ := c7.at hcell
  have hnd : ((G k).blk :: (G k).sub).Nodup := by
    have := h.nodup k
    rw [hk] at this
    simpa [ownOf, hcap] using this
  rw [hsub] at hnd
  -- the list that is taken out
  obtain ⟨gi, hgi1, hgi2, hgi3, hgi4⟩ : ∃ gi : GI, (∀ Av, RowR w Av gi z ys true false) ∧ (∃ a, v = .slice a ys.length gi.cap ∧ (0 < gi.cap → a = some ⟨gi.blk, gi.off, none⟩)) ∧ (∀ b ∈ ownOf gi (some (.row z ys true false 0)), b ∈ Sm) ∧ (ownOf gi (some (.row z ys true false 0))).Nodup := by
    cases htr with
    | z a c _ hc =>
      obtain rfl := hc rfl
      exact ⟨{ blk := 0, off := 0, cap := 0, vs := [], sub := [] }, fun Av => RowR.mkVoid w Av 0 0 z true false, ⟨a, rfl, fun h => absurd h (Nat.lt_irrefl 0)⟩, fun b hb => by simp [ownOf] at hb, by simp [ownOf]⟩
    | l g o' c _ cur e fr vs _ S hg hc hm hl hv' h1 hx ho' hs =>
      have hfr := ho' rfl
      refine ⟨{ blk := g, off := o', cap := c, vs := vs, sub := S }, fun Av => ⟨fun _ => ⟨cur, e, by rw [hg, hfr.1], hfr.2, hv'⟩, hc, hm, hl, h1, hx, hs, fun _ => ?_, (fun h => by rcases h with h | h <;> cases h), (fun h => by cases h)⟩, ⟨_, rfl, fun _ => rfl⟩, fun b hb => ?_, ?_⟩
      · have : (S1 ++ ((g :: S) ++ S2)).Nodup := (List.nodup_cons.1 hnd).2
        have := (List.nodup_append.1 (List.nodup_append.1 this).2.1).1
        exact (List.nodup_cons.1 this).2
      · simp only [ownOf] at hb
        split at hb
        · cases hb
        · simpa using hb
      · have : (S1 ++ ((g :: S) ++ S2)).Nodup := (List.nodup_cons.1 hnd).2
        have := (List.nodup_append.1 (List.nodup_append.1 this).2.1).1
        simp only [ownOf]
        split
        · exact List.nodup_nil
        · simpa using this
  have hgk : ∀ Av : Nat → Prop, RowR w Av { G k with sub := S1 ++ S2 } sz (setCell xs i o .u) true false := fun Av => by
    have hsl : ∃ a len cap, v = .slice a len cap := by
      obtain ⟨a, e, _⟩ := hgi2
      exact ⟨_, _, _, e⟩
    obtain ⟨a1, l1, cp1, hvs⟩ := hsl
    refine ⟨c1, by rw [setCell_len]; exact c2, c3, by rw [setCell_len]; exact c4, c5, setCell_uni c6 hi o .u, ?_, fun _ => ?_, (fun h => by rcases h with h | h <;> cases h), (fun h => by cases h)⟩
    · rw [setCell_flat c6 .u hi ho]
      exact hrep (w' := w) (d' := .u) (Si := []) (by rw [hvs]; exact .u a1 l1 cp1) fun b hb => rfl
    · have h1 := (List.nodup_cons.1 hnd).2
      have h2 := List.nodup_append.1 h1
      have h3 := List.nodup_append.1 h2.2.1
      exact List.nodup_append.2 ⟨h2.1, h3.2.1, fun x hx y hy => h2.2.2 x hx y (List.mem_append_right _ hy)⟩
  have hkk2 : ¬ k = k' := fun e => hkk e.symm
  generalize hG' : (fun j => if j = k' then gi else if j = k then { G k with sub := S1 ++ S2 } else G j : Nat → GI) = G'
  have g1 : G' k' = gi := by rw [← hG']; simp
  have g2 : G' k = { G k with sub := S1 ++ S2 } := by rw [← hG']; simp [hkk2]
  have g3 : ∀ j, j ≠ k' → j ≠ k → G' j = G j := fun j h1 h2 => by rw [← hG']; simp [h1, h2]
  let H' := spH k ve i o k' sz xs z ys s.heap
  have e1 : H' k' = some (.row z ys true false 0) := by simp [H', spH]
  have e2 : H' k = some (.row sz (setCell xs i o .u) true false (ve + 1)) := by simp [H', spH, hkk2]
  have e3 : ∀ j, j ≠ k' → j ≠ k → H' j = spM k ve i o k' sz (s.heap j) := fun j h1 h2 => by simp [H', spH, h1, h2]
  have e4 : ∀ j ob, j ≠ k → s.heap j = some ob → j ≠ k' ∧ H' j = some (spOb k ve i o k' sz ob) := fun j ob hj hob => by
    have : j ≠ k' := fun e => by rw [e, hn] at hob; cases hob
    exact ⟨this, by rw [e3 j this hj, hob]; rfl⟩
  -- what is owned
  have own1 : ∀ b ∈ ownOf gi (some (.row z ys true false 0)), b ∈ ownOf (G k) (s.heap k) := fun b hb => by
    rw [hk]
    simp only [ownOf, if_neg hcap, if_true]
    rw [hsub]
    exact .tail _ (List.mem_append_right _ (List.mem_append_left _ (hgi3 b hb)))
  have own2 : ∀ b ∈ ownOf { G k with sub := S1 ++ S2 } (some (.row sz (setCell xs i o .u) true false (ve + 1))), b ∈ ownOf (G k) (s.heap k) := fun b hb => by
    rw [hk]
    simp only [ownOf, if_neg hcap, if_true] at hb ⊢
    rw [hsub]
    cases hb with
    | head => exact .head _
    | tail _ hb =>
      refine .tail _ ?_
      rcases List.mem_append.1 hb with hb | hb
      · exact List.mem_append_left _ hb
      · exact List.mem_append_right _ (List.mem_append_right _ hb)
  have own3 : ∀ b, b ∈ ownOf gi (some (.row z ys true false 0)) → b ∈ ownOf { G k with sub := S1 ++ S2 } (some (.row sz (setCell xs i o .u) true false (ve + 1))) → False := fun b h1 h2 => by
    have h1 := hgi3 b h1
    simp only [ownOf, if_neg hcap, if_true] at h2
    have hn1 := List.nodup_cons.1 hnd
    cases h2 with
    | head => exact hn1.1 (List.mem_append_right _ (List.mem_append_left _ h1))
    | tail _ h2 =>
      have hn2 := List.nodup_append.1 hn1.2
      rcases List.mem_append.1 h2 with h2 | h2
      · exact hn2.2.2 b h2 b (List.mem_append_left _ h1) rfl
      · exact (List.nodup_append.1 hn2.2.1).2.2 b h1 b h2 rfl
  have ownj : ∀ j b, b ∈ ownOf (G' j) (H' j) → ∃ j0, b ∈ ownOf (G j0) (s.heap j0) ∧ (j ≠ k' → j0 = j) ∧ (j = k' → j0 = k) := fun j b hb => by
    by_cases h1 : j = k'
    · subst h1
      rw [g1, e1] at hb
      exact ⟨k, own1 b hb, fun h => absurd rfl h, fun _ => rfl⟩
    · by_cases h2 : j = k
      · subst h2
        rw [g2, e2] at hb
        exact ⟨j, own2 b hb, fun _ => rfl, fun h => absurd h h1⟩
      · rw [g3 j h1 h2, e3 j h1 h2] at hb
        refine ⟨j, ?_, fun _ => rfl, fun h => absurd h h1⟩
        cases hs : s.heap j with
        | none => rw [hs] at hb; simp [spM, ownOf] at hb
        | some ob => rw [hs] at hb; simp only [spM] at hb; rw [ownOf_sp] at hb; exact hb
  have hA : ∀ b, Ban B.F G' H' b → Ban B.F G s.heap b := by
    rintro b (⟨j, hj⟩ | hf)
    · obtain ⟨j0, hj0, _⟩ := ownj j b hj
      exact .inl ⟨j0, hj0⟩
    · exact .inr hf
  -- values
  have key : ∀ {v' : Value} {av : AV}, AVR w G s.heap (Ban B.F G s.heap) v' av → AVR w G' H' (Ban B.F G' H') v' (spA k ve i o k' sz av) := by
    intro v' av hav
    refine AVR.rec (w := w) (G := G) (H := s.heap) (Av := Ban B.F G s.heap) (motive_1 := fun v' av _ => AVR w G' H' (Ban B.F G' H') v' (spA k ve i o k' sz av)) (motive_2 := fun vs as _ => AVRL w G' H' (Ban B.F G' H') vs (spL k ve i o k' sz as))
      ?_ ?_ ?_ ?_ ?_ ?_ ?_ ?_ ?_ ?_ ?_ ?_ ?_ ?_ ?_ ?_ ?_ ?_ ?_ ?_ hav
    · intro v x S h1 h hS
      exact .d v x S h1 h fun b hb hn => hS b hb (hA b hn)
    · intro sz; exact .z sz
    · intro j sz' xs' dp fz ve' a' hj ha'
      by_cases hjk : j = k
      · subst hjk
        rw [hk] at hj
        cases hj
        have := AVR.r (w := w) (G := G') (H := H') (Av := Ban B.F G' H') j sz (setCell xs i o .u) true false (ve + 1) a' e2 (by rw [g2]; exact ha')
        rw [g2, setCell_len] at this
        exact this
      · obtain ⟨q1, q2⟩ := e4 j _ hjk hj
        have := AVR.r (w := w) (G := G') (H := H') (Av := Ban B.F G' H') j sz' xs' dp fz ve' a' q2 (by rw [g3 j q1 hjk]; exact ha')
        rw [g3 j q1 hjk] at this
        exact this
    · intro j v hj
      have hjk : j ≠ k := fun e => by rw [e, hk] at hj; cases hj
      exact .rd j v (e4 j _ hjk hj).2
    · intro j o' cs hj
      have hjk : j ≠ k := fun e => by rw [e, hk] at hj; cases hj
      obtain ⟨q1, q2⟩ := e4 j _ hjk hj
      have := AVR.a (w := w) (G := G') (H := H') (Av := Ban B.F G' H') j o' _ q2
      rw [g3 j q1 hjk] at this
      exact this
    · intro j o' v hj
      have hjk : j ≠ k := fun e => by rw [e, hk] at hj; cases hj
      exact .ad j o' v (e4 j _ hjk hj).2
    · intro j i' o' sz' xs' dp fz ve' hj hi'
      by_cases hjk : j = k
      · subst hjk
        rw [hk] at hj
        cases hj
        have := AVR.e (w := w) (G := G') (H := H') (Av := Ban B.F G' H') j i' o' sz _ true false (ve + 1) e2 (by rw [setCell_len]; exact hi')
        rw [g2] at this
        exact this
      · obtain ⟨q1, q2⟩ := e4 j _ hjk hj
        have := AVR.e (w := w) (G := G') (H := H') (Av := Ban B.F G' H') j i' o' sz' xs' dp fz ve' q2 hi'
        rw [g3 j q1 hjk] at this
        exact this
    · intro j i' o' v hj
      have hjk : j ≠ k := fun e => by rw [e, hk] at hj; cases hj
      exact .ed j i' o' v (e4 j _ hjk hj).2
    · intro j i' o' sz' xs' dp fz ve' v2 z' ys' hj hjj hv2 h1
      by_cases hjk : j = k
      · subst hjk
        rw [hk] at hj
        cases hj
        simp only [spA, and_self, if_true]
        by_cases hio : i' = i ∧ o' = o
        · rw [if_pos hio]
          obtain ⟨rfl, rfl⟩ := hio
          rw [hv] at hv2
          cases hv2
          obtain ⟨a2, q1, q2⟩ := hgi2
          rw [q1]
          have := AVR.r (w := w) (G := G') (H := H') (Av := Ban B.F G' H') k' z ys true false 0 a2 e1 (by rw [g1]; exact q2)
          rw [g1] at this
          exact this
        · rw [if_neg hio]
          by_cases hos : o' < sz
          rotate_left
          · rw [if_neg hos]; exact .x _
          rw [if_pos hos]
          have hsame : i' * sz + o' ≠ i * sz + o := fun e => hio (by
            have d1 : (i' * sz + o') / sz = i' := by rw [Nat.mul_comm, Nat.mul_add_div (by omega), Nat.div_eq_of_lt hos, Nat.add_zero]
            have d2 : (i * sz + o) / sz = i := by rw [Nat.mul_comm, Nat.mul_add_div (by omega), Nat.div_eq_of_lt ho, Nat.add_zero]
            have d3 : i' = i := by rw [← d1, ← d2, e]
            subst d3
            exact ⟨rfl, by omega⟩)
          · refine .m j i' o' sz _ true false (ve + 1) v2 z' ys' e2 ?_ (by rw [g2]; exact hv2) h1
            rw [setCell_flat c6 .u hi ho, List.getElem?_set_ne (fun e => hsame e.symm)]
            exact hjj
      · obtain ⟨q1, q2⟩ := e4 j _ hjk hj
        simp only [spA]
        rw [if_neg (fun e => hjk e.1)]
        exact .m j i' o' sz' xs' dp fz ve' v2 z' ys' q2 hjj (by rw [g3 j q1 hjk]; exact hv2) h1
    · intro j i' o' sz' xs' dp fz ve1 ve2 v2 hj hlt
      by_cases hjk : j = k
      · subst hjk
        rw [hk] at hj
        cases hj
        simp only [spA]
        rw [if_neg (fun e => by omega)]
        exact .mo j i' o' sz _ true false ve1 (ve + 1) v2 e2 (by omega)
      · obtain ⟨q1, q2⟩ := e4 j _ hjk hj
        simp only [spA]
        rw [if_neg (fun e => hjk e.1)]
        exact .mo j i' o' sz' xs' dp fz ve1 ve2 v2 q2 hlt
    · intro j ve1 i' o' v2 hj
      have hjk : j ≠ k := fun e => by rw [e, hk] at hj; cases hj
      simp only [spA]
      rw [if_neg (fun e => hjk e.1)]
      exact .md j ve1 i' o' v2 (e4 j _ hjk hj).2
    · intro g base o' cur el fr vs cs S hg hv' h1 h hb hS
      exact .q g base o' cur el fr vs cs S hg hv' h1 h (fun hn => hb (hA _ hn)) fun b hb hn => hS b hb (hA b hn)
    · intro cs as _ ih; exact .g cs _ ih
    · intro fn cs as _ ih; exact .f fn cs _ ih
    · intro vs as _ ih; exact .t vs _ ih
    · intro j kv hj
      have hjk : j ≠ k := fun e => by rw [e, hk] at hj; cases hj
      obtain ⟨q1, q2⟩ := e4 j _ hjk hj
      have := AVR.mp (w := w) (G := G') (H := H') (Av := Ban B.F G' H') j kv q2
      rw [g3 j q1 hjk] at this
      exact this
    · intro j v hj
      have hjk : j ≠ k := fun e => by rw [e, hk] at hj; cases hj
      exact .mpd j v (e4 j _ hjk hj).2
    · intro v; exact .x v
    · exact .nil
    · intro v av vs as _ _ ih ihs; exact .cons v _ vs _ ih ihs
  have keyL : ∀ {vs : List Value} {as : List AV}, AVRL w G s.heap (Ban B.F G s.heap) vs as → AVRL w G' H' (Ban B.F G' H') vs (spL k ve i o k' sz as) := fun {vs as} h => by
    have := key (.t vs.toArray as (by simpa using h))
    simp only [spA] at this
    cases this with
    | t _ _ h => simpa using h
  refine ⟨G', ?_, fun t => key (h.env t), h.size, h.defers, fun j => ?_, fun j j' b hb hb' => ?_, fun j b hb => ?_, h.rest, h.below, h.ban, h.base, ?_⟩
  · intro j ob hob
    have hob : H' j = some ob := hob
    by_cases h1 : j = k'
    · subst h1
      rw [e1] at hob
      cases hob
      rw [g1]
      exact hgi1 _
    · by_cases h2 : j = k
      · subst h2
        rw [e2] at hob
        cases hob
        rw [g2]
        exact hgk _
      · rw [e3 j h1 h2] at hob
        rw [g3 j h1 h2]
        cases hs : s.heap j with
        | none => rw [hs] at hob; cases hob
        | some ob' =>
          rw [hs] at hob
          simp only [spM, Option.some.injEq] at hob
          subst hob
          have hob := h.obj j ob' hs
          cases ob' with
          | row sz' xs' dp fz ve' =>
            obtain ⟨c1, c2, c3, c4, c5, c6, c7, c8, c9, c10⟩ := hob
            exact ⟨c1, c2, c3, c4, c5, c6, c7, c8, fun hd b hb hn => c9 hd b hb (hA b hn), fun hf hp hn => c10 hf hp (hA _ hn)⟩
          | box cs =>
            obtain ⟨cur, e, q1, q2, q3⟩ := hob
            exact ⟨cur, e, q1, keyL q2, q3⟩
          | map kv => exact hob
          | dead => trivial
  · show (ownOf (G' j) (H' j)).Nodup
    by_cases h1 : j = k'
    · subst h1
      rw [g1, e1]
      exact hgi4
    · by_cases h2 : j = k
      · subst h2
        rw [g2, e2]
        simp only [ownOf, if_neg hcap, if_true]
        have hn1 := List.nodup_cons.1 hnd
        refine List.nodup_cons.2 ⟨fun hm => hn1.1 ?_, (hgk (fun _ => True)).nodup rfl⟩
        rcases List.mem_append.1 hm with hm | hm
        · exact List.mem_append_left _ hm
        · exact List.mem_append_right _ (List.mem_append_right _ hm)
      · rw [g3 j h1 h2, e3 j h1 h2]
        have := h.nodup j
        cases hs : s.heap j with
        | none => simp [spM, ownOf]
        | some ob => rw [hs] at this; simp only [spM]; rw [ownOf_sp]; exact this
  · have hb : b ∈ ownOf (G' j) (H' j) := hb
    have hb' : b ∈ ownOf (G' j') (H' j') := hb'
    obtain ⟨j0, p1, p2, p3⟩ := ownj j b hb
    obtain ⟨j1, q1, q2, q3⟩ := ownj j' b hb'
    have hjj := h.disj j0 j1 b p1 q1
    by_cases h1 : j = k' <;> by_cases h2 : j' = k'
    · rw [h1, h2]
    · have a1 := p3 h1
      have a2 := q2 h2
      have : j' = k := by rw [← a2, ← hjj, a1]
      subst this
      subst h1
      rw [g1, e1] at hb
      rw [g2, e2] at hb'
      exact (own3 b hb hb').elim
    · have a1 := p2 h1
      have a2 := q3 h2
      have : j = k := by rw [← a1, hjj, a2]
      subst this
      subst h2
      rw [g1, e1] at hb'
      rw [g2, e2] at hb
      exact (own3 b hb' hb).elim
    · rw [← p2 h1, hjj, q2 h2]
  · obtain ⟨j0, p1, _⟩ := ownj j b hb
    exact h.ge j0 b p1
  · have := key h.anc
    rw [ha] at this
    exact this
end rel
end Go.Fs

set_option linter.unusedVariables false
set_option linter.constructorNameAsVariable false
namespace Go.Fs
open Go.RowKit

/-! ### a walk of the mind -/
def OkO {α : Type} (o : Option α) (K : α → Prop) : Prop := match o with
  | some a => K a
  | none => False
def splitB (v : Bool) (X Y : Prop) : Prop := match v with
  | true => X
  | false => Y
def envL (L : List (Nat × AV)) : Nat → AV := L.foldr (fun x f => upd f x.1 x.2) fun _ => .x
def obL (L : List (Nat × Option Ob)) : Nat → Option Ob := L.foldr (fun x f => upd f x.1 x.2) fun _ => none
def updL (L : List (Nat × Ob)) (H : Nat → Option Ob) : Nat → Option Ob := L.foldr (fun x f => upd f x.1 (some x.2)) H
def wkS (live : List Nat) (ren : List (Nat × Nat)) (s : St) : St :=
  { n := s.n, env := envL (live.map fun t => (t, mapA ren (s.env t))), heap := obL (ren.map fun x => (x.2, match s.heap x.1 with | some o => some (mapOb ren o) | none => none)) }

theorem wkS_eq (live : List Nat) (ren : List (Nat × Nat)) (s : St) : wkS live ren s = wk live ren s := by
  have e1 : ∀ (f : Nat → AV) (t : Nat), envL (live.map fun t => (t, f t)) t = if live.contains t then f t else .x := by
    intro f t
    induction live with
    | nil => rfl
    | cons x xs ih =>
      simp only [envL, List.map_cons, List.foldr_cons, upd, List.contains_cons] at ih ⊢
      by_cases e : t = x
      · subst e; simp
      · simp [e]; simpa using ih
  have e2 : ∀ (f : Nat → Option Ob) (k : Nat), obL (ren.map fun x => (x.2, f x.1)) k = match oldK ren k with | some k0 => f k0 | none => none := by
    intro f k
    induction ren with
    | nil => rfl
    | cons x xs ih =>
      simp only [obL, oldK, List.map_cons, List.foldr_cons, upd, List.lookup_cons] at ih ⊢
      by_cases e : k = x.2
      · subst e; simp
      · have e' : (k == x.2) = false := by simpa using e
        rw [if_neg e, e']
        exact ih
  unfold wkS wk
  congr 1
  · funext t; exact e1 _ t
  · funext k
    have := e2 (fun k => match s.heap k with | some o => some (mapOb ren o) | none => none) k
    exact this

theorem updL_eq (L : List (Nat × Ob)) (H : Nat → Option Ob) : updL L H = ovr L H := by
  funext k
  induction L with
  | nil => rfl
  | cons x xs ih =>
    obtain ⟨j, o⟩ := x
    simp only [updL, ovr, List.foldr_cons, upd, List.lookup_cons] at ih ⊢
    by_cases e : k = j
    · subst e; simp
    · have e' : (k == j) = false := by simpa using e
      rw [if_neg e, e']
      exact ih

/-- What is known of a function. -/
inductive Summ where
  | own (F : List D → Option D)
  | shared (F : List D → Option D)
  | io (F : D → List D → Option (D × D))

def SumOK (P : Program) (S : Nat → Option Summ) : Prop := ∀ f s, S f = some s → match s with
  | .own F => ∀ ds r, F ds = some r → FnOK P f (ds.map .d) { ret := r }
  | .shared F => ∀ ds r, F ds = some r → FnOK P f (ds.map .d) { ret := r, deep := false }
  | .io F => ∀ x ds r, F x ds = some r → FnOK P f (.io x :: ds.map .d) { ret := r.1, io := some r.2 }

structure Env where
  T : Tab
  S : Nat → Option Summ
  aa : AV

def putK (s : St) (dst : Option Nat) (av : AV) (H : Nat → Option Ob) (K : St → Prop) : Prop := match dst with
  | some d => d < s.n ∧ K { n := s.n, env := upd s.env d av, heap := H }
  | none => K { n := s.n, env := s.env, heap := H }
def keyOf (dst : Option Nat) : Nat := match dst with
  | some d => 100000 + 100 * d
  | none => 99000
def freeAll (H : Nat → Option Ob) : List (Nat × Ob) → Bool
  | [] => true
  | x :: xs => (match H x.1 with | none => true | some _ => false) && freeAll H xs
def apart (ks js : List Nat) : Bool := ks.all fun k => !js.contains k
/-! What follows stands behind names: so a walk does not look into it before it gets there. -/
def thenF {α β : Type} (F : α → Option β) (K : β → Prop) (a : α) : Prop := OkO (F a) K
def compK {α β : Type} (f : α → β) (K : β → Prop) (a : α) : Prop := K (f a)
def ownK (s : St) (dst : Option Nat) (K : St → Prop) (r : D) : Prop := freeAll s.heap (adObs (keyOf dst) (partsD r)) = true ∧
  putK s dst (retAV r (adCells (keyOf dst) (partsD r))) (updL (adObs (keyOf dst) (partsD r)) s.heap) K
def sharedK2 (s : St) (dst : Option Nat) (H1 : Nat → Option Ob) (K : St → Prop) (r : D) : Prop := putK s dst (retAV r ((partsD r).map .d)) H1 K
def sharedK (s : St) (dst : Option Nat) (F : List D → Option D) (args : List AV) (K : St → Prop) (H1 : Nat → Option Ob) : Prop := args.flatMap (keyA H1) = args.flatMap (keyA s.heap) ∧ OkO (borL H1 args) (thenF F (sharedK2 s dst H1 K))
def nestK (s : St) (dst : Option Nat) (k i o sz ve : Nat) (xs : List (List D)) (rest : List AV) (K : St → Prop) (r : D × D) : Prop := apart [k] (rest.flatMap (keyA s.heap)) = true ∧
  freeAll s.heap (adObs (keyOf dst) (partsD r.1)) = true ∧
  putK s dst (retAV r.1 (adCells (keyOf dst) (partsD r.1))) (updL ((k, .row sz (setCell xs i o r.2) true false (ve + 1)) :: adObs (keyOf dst) (partsD r.1)) s.heap) K
def ioK3 (s : St) (dst : Option Nat) (r : D × D) (K : St → Prop) (os : List (Nat × Ob)) : Prop := freeAll s.heap (adObs (keyOf dst) (partsD r.1)) = true ∧
  putK s dst (retAV r.1 (adCells (keyOf dst) (partsD r.1))) (updL (os ++ adObs (keyOf dst) (partsD r.1)) s.heap) K
def ioK2 (s : St) (dst : Option Nat) (io : AV) (ks : List Nat) (rest : List AV) (K : St → Prop) (r : D × D) : Prop := nodupB ks = true ∧ apart ks (rest.flatMap (keyA s.heap)) = true ∧
  OkO (ioObs s.heap (cellsA io) (cellsD r.2)) (ioK3 s dst r K)
def ioK (s : St) (dst : Option Nat) (F : D → List D → Option (D × D)) (io : AV) (rest : List AV) (K : St → Prop) (x : List D × List Nat) : Prop := OkO (borL s.heap rest) (thenF (F (ioD io x.1)) (ioK2 s dst io x.2 rest K))
def callW (A : Env) (s : St) (dst : Option Nat) (f : FuncId) (args : List AV) (K : St → Prop) : Prop := match A.S f with
  | none => False
  | some (.own F) => OkO (borL s.heap args) (thenF F (ownK s dst K))
  | some (.shared F) => OkO (frzL s.heap (args.flatMap (keyA s.heap))) (sharedK s dst F args K)
  | some (.io F) => match args with
    | [] => False
    | .m k ve i o :: rest => match s.heap k with
      | some (.row sz xs true false ve') => (ve' = ve ∧ i < xs.length ∧ o < sz) ∧ OkO (borL s.heap rest) (thenF (F ((xs.getD i []).getD o .u)) (nestK s dst k i o sz ve' xs rest K))
      | _ => False
    | io :: rest => OkO (ioCs s.heap (cellsA io)) (ioK s dst F io rest K)

/-- What a function value holds is of one cell each. -/
def capsOK : List D → Bool
  | [] => true
  | .g _ :: _ => false
  | .t _ :: _ => false
  | _ :: ds => capsOK ds
theorem tr_one {w : World} {own : Bool} {v : Value} {d : D} {S : List Nat} (h : Tr w own v d S) (h1 : ∀ cs, d ≠ .g cs) (h2 : ∀ vs, d ≠ .t vs) : v.oneCell' = true := by
  cases h with
  | g cs ds S h => exact absurd rfl (h1 _)
  | t vs ds S h => exact absurd rfl (h2 _)
  | _ => rfl
theorem caps_avrl {w : World} {G : Nat → GI} {H : Nat → Option Ob} {Av : Nat → Prop} : ∀ {vs : List Value} {ds : List D} {S : List Nat}, TrL w false vs ds S → capsOK ds = true → (∀ b ∈ S, ¬ Av b) → AVRL w G H Av vs (ds.map .d)
  | _, _, _, .nil, _, _ => .nil
  | _, _, _, .cons v d S vs ds Ss h hs, hc, hS => by
    have h1 : (∀ cs, d ≠ .g cs) ∧ (∀ vs, d ≠ .t vs) ∧ capsOK ds = true := by
      cases d <;> simp_all [capsOK]
    exact .cons _ _ _ _ (.d v d S (tr_one h h1.1 h1.2.1) h fun b hb => hS b (by simp [hb])) (caps_avrl hs h1.2.2 fun b hb => hS b (by simp [hb]))

def zargs (T : Tab) (s : St) : List Operand → List TypeId → List AV
  | [], _ => []
  | x :: xs, [] => s.ev x :: zargs T s xs []
  | x :: xs, t :: ts => fixZ T t (s.ev x) :: zargs T s xs ts

def litS (s : St) (x : Operand) (b : Bool) : St := match x with
  | .tmp t => { n := s.n, env := upd s.env t (.d (.b b)), heap := s.heap }
  | _ => s

def valK (s : St) (dst : Option Nat) (K : St → Prop) (y : AV × (Nat → Option Ob)) : Prop := putK s dst y.1 y.2 K
def putH (s : St) (dst : Option Nat) (H : Nat → Option Ob) (K : St → Prop) (y : AV) : Prop := putK s dst y H K
def heapK (s : St) (K : St → Prop) (H : Nat → Option Ob) : Prop := K { n := s.n, env := s.env, heap := H }
def storeK (T : Tab) (s : St) (ty : TypeId) (ad : Operand) (K : St → Prop) (m : AV × (Nat → Option Ob)) : Prop := OkO (opStore T m.2 ty (s.ev ad) m.1) (heapK s K)
/-- A variable keeps what it is given; a row takes a copy. -/
def storeW (T : Tab) (s : St) (ty : TypeId) (ad v : Operand) (K : St → Prop) : Prop := match s.ev ad with
  | .a _ _ => OkO (opStore T s.heap ty (s.ev ad) (s.ev v)) (heapK s K)
  | _ => OkO (demote s.heap (s.ev v)) (storeK T s ty ad K)
def nilK (s : St) (dst : Option Nat) (neg : Bool) (K : St → Prop) (d : D) : Prop := match d with
  | .l _ xs => ∀ b : Bool, (b = true → xs = []) → putK s dst (.d (.b (if neg then !b else b))) s.heap K
  | _ => False
def valW (A : Env) (o : Oper) (s : St) (K : St → Prop) : Prop := OkO (valOp A.T s o) (valK s o.dst K)

def awpOp (A : Env) (o : Oper) (s : St) (K : St → Prop) : Prop := match o.op with
  | .pick c x y => match s.ev c with
    | .d (.b v) => splitB v (putK (litS s c true) o.dst (fixZ A.T o.type ((litS s c true).ev x)) s.heap K) (putK (litS s c false) o.dst (fixZ A.T o.type ((litS s c false).ev y)) s.heap K)
    | _ => False
  | .store ty ad v => match o.dst with
    | none => storeW A.T s ty ad v K
    | some _ => False
  | .call c => match c.callee with
    | .value f => match s.ev f with
      | .f fn caps => callW A s o.dst fn (zargs A.T s c.args.toList c.argTypes.toList ++ caps) K
      | .d (.f fn caps) => capsOK caps = true ∧ callW A s o.dst fn (zargs A.T s c.args.toList c.argTypes.toList ++ caps.map .d) K
      | _ => False
    | _ => valW A o s K
  | .convert src dst x => match A.T.kd src with
    | some (.slice _) => OkO (opB2S A.T s.heap src dst (s.ev x)) (putH s o.dst s.heap K)
    | _ => valW A o s K
  | .binOp op ty x y _ => match nilCmp A.T op ty y with
    | some neg => OkO (borC s.heap (s.ev x)) (nilK s o.dst neg K)
    | none => valW A o s K
  | .makeMap ty none => OkO (opMkMap A.T s.heap (o.dst.getD 0) ty) (valK s o.dst K)
  | .lookup ty m k ok => OkO (opMapGet A.T s.heap ty (s.ev m) (s.ev k) ok) (putH s o.dst s.heap K)
  | .mapUpdate ty m k x => match o.dst with
    | none => OkO (opMapSet A.T s.heap ty (s.ev m) (s.ev k) (s.ev x)) (heapK s K)
    | some _ => False
  | _ => valW A o s K

def dstAt (ops : List Oper) (j : Nat) : Option Nat := match ops[j]? with
  | some o => o.dst
  | none => none

/-- An operation that a condition may leave out. -/
def awpG (A : Env) (ops : List Oper) (o : Oper) (s : St) (K : St → Prop) : Prop := match o.guard with
  | none => awpOp A o s K
  | some (j, want) => match dstAt ops j with
    | none => putK s o.dst (.t []) s.heap K
    | some t => match s.env t with
      | .d (.b v) => splitB v (match want with | true => awpOp A o (litS s (.tmp t) true) K | false => putK (litS s (.tmp t) true) o.dst (.t []) s.heap K)
          (match want with | true => putK (litS s (.tmp t) false) o.dst (.t []) s.heap K | false => awpOp A o (litS s (.tmp t) false) K)
      | .t [] => putK s o.dst (.t []) s.heap K
      | _ => False

def awpOps (A : Env) (ops : List Oper) (K : St → Prop) : List Oper → St → Prop
  | [], s => K s
  | o :: os, s => awpG A ops o s (awpOps A ops K os)

def awpAny (A : Env) (ops : Array Oper) (K : St → Prop) : Nat → Array Bool → St → Prop
  | 0, listed, s => Region.ready .any ops listed = [] ∧ K s
  | n + 1, listed, s => (Region.ready .any ops listed = [] → K s) ∧ ∀ i ∈ Region.ready .any ops listed, match ops.toList[i]? with
    | some o => awpG A ops.toList o s (awpAny A ops K n (listed.setIfInBounds i true))
    | none => False

def fixA (ren : List (Nat × Nat)) : AV → Bool
  | .d _ => true
  | .z _ => true
  | .r k => (match ren.lookup k with | some j => j == k | none => false)
  | .a k _ => (match ren.lookup k with | some j => j == k | none => false)
  | .x => true
  | _ => false
def fixAA (ren : List (Nat × Nat)) : AV → Bool
  | .g cs => cs.all (fixA ren)
  | av => fixA ren av

theorem fixA_ok {ren : List (Nat × Nat)} {av : AV} (h : fixA ren av = true) : mapA ren av = av := by
  cases av <;> simp only [fixA, mapA] at h ⊢ <;> try (cases h; done)
  all_goals
    split at h
    · rename_i j hj; simp at h; subst h; rw [hj]
    · cases h
theorem fixAA_ok {ren : List (Nat × Nat)} {av : AV} (h : fixAA ren av = true) : mapA ren av = av := by
  cases av <;> simp only [fixAA] at h <;> try exact fixA_ok h
  rename_i cs
  simp only [mapA]
  congr 1
  induction cs with
  | nil => rfl
  | cons x xs ih =>
    simp only [List.all_cons, Bool.and_eq_true] at h
    simp only [mapL]
    rw [fixA_ok h.1, ih h.2]

/-- Whatever is known as the one may be known as the other. -/
def Sem (aa : AV) (s s' : St) : Prop := ∀ (B : Ctx) (G : Nat → GI) (a : Act) (w : World), B.aa = aa → RelG B G s a w → ∃ G', RelG B G' s' a w
theorem Sem.refl (aa : AV) (s : St) : Sem aa s s := fun B G a w _ h => ⟨G, h⟩
theorem Sem.trans {aa : AV} {s s' s'' : St} (h : Sem aa s s') (h' : Sem aa s' s'') : Sem aa s s'' := fun B G a w hB hr => by
  obtain ⟨G', hr'⟩ := h B G a w hB hr
  exact h' B G' a w hB hr'
theorem sem_wk {aa : AV} {s : St} (live : List Nat) {ren : List (Nat × Nat)} (h1 : renOK ren = true) (h2 : fixAA ren aa = true) : Sem aa s (wkS live ren s) := fun B G a w hB hr => by
  rw [wkS_eq]
  exact ⟨_, hr.wk live h1 (by rw [hB]; exact fixAA_ok h2)⟩
theorem sem_split {aa : AV} {s : St} {k ve i o k' sz z : Nat} {xs ys : List (List D)} (hk : s.heap k = some (.row sz xs true false ve)) (hi : i < xs.length) (ho : o < sz) (hy : (xs.getD i []).getD o .u = .l z ys) (hn : s.heap k' = none) (ha : spA k ve i o k' sz aa = aa) : Sem aa s (spS k ve i o k' sz xs z ys s) := fun B G a w hB hr =>
  hr.split hk hi ho hy hn (by rw [hB]; exact ha)
/-- What may be said of a state that is known less well. -/
def Via (A : Env) (J : St → Prop) (s : St) : Prop := ∃ s', Sem A.aa s s' ∧ J s'

def thenS (K : St → Prop) (Q : Exit → St → Prop) : Exit → St → Prop
  | .normal, s => K s
  | e, s => Q e s
def blkS (id : Nat) (Q : Exit → St → Prop) : Exit → St → Prop
  | .exit id', s => if id' = id then Q .normal s else Q (.exit id') s
  | e, s => Q e s

def awp (A : Env) : Code → (Exit → St → Prop) → St → Prop
  | .skip, Q, s => Q .normal s
  | .region _ ops false, Q, s => awpOps A ops.toList (Q .normal) ops.toList s
  | .region _ ops true, Q, s => awpAny A ops (Q .normal) ops.size (Array.replicate ops.size false) s
  | .seq x y, Q, s => awp A x (thenS (awp A y Q) Q) s
  | .cond c x y, Q, s => match s.ev c with
    | .d (.b v) => splitB v (awp A x Q (litS s c true)) (awp A y Q (litS s c false))
    | _ => False
  | .block id b, Q, s => awp A b (blkS id Q) s
  | .loop b, Q, s => ∃ I : Nat → St → Prop, (∃ n, Via A (I n) s) ∧ ∀ n s, I n s → awp A b (thenS (fun s' => ∃ m, m < n ∧ Via A (I m) s') Q) s
  | .exit id, Q, s => Q (.exit id) s
  | .label _, Q, s => Q .normal s
  | .goto l, Q, s => Q (.goto l) s
  | .ret, Q, s => Q .ret s
  | _, _, _ => False

/-! ### more is asked of less -/
theorem putK_mono {s : St} {dst : Option Nat} {av : AV} {H : Nat → Option Ob} {K K' : St → Prop} (hk : ∀ s, K s → K' s) (h : putK s dst av H K) : putK s dst av H K' := by
  cases dst with
  | none => exact hk _ h
  | some d => exact ⟨h.1, hk _ h.2⟩
theorem OkO_mono {α : Type} {o : Option α} {K K' : α → Prop} (hk : ∀ a, K a → K' a) (h : OkO o K) : OkO o K' := by
  cases o with
  | none => exact h
  | some a => exact hk a h
theorem splitB_mono {v : Bool} {X X' Y Y' : Prop} (hx : X → X') (hy : Y → Y') (h : splitB v X Y) : splitB v X' Y' := by
  cases v
  · exact hy h
  · exact hx h
theorem callW_mono {A : Env} {s : St} {dst : Option Nat} {f : FuncId} {args : List AV} {K K' : St → Prop} (hk : ∀ s, K s → K' s) (h : callW A s dst f args K) : callW A s dst f args K' := by
  unfold callW at h ⊢
  split at h
  · exact h
  · exact OkO_mono (fun ds h => OkO_mono (fun r h => ⟨h.1, putK_mono hk h.2⟩) h) h
  · exact OkO_mono (fun H1 h => ⟨h.1, OkO_mono (fun ds h => OkO_mono (fun r h => putK_mono hk h) h) h.2⟩) h
  · split at h
    · exact h
    · split at h
      · exact ⟨h.1, OkO_mono (fun ds h => OkO_mono (fun r h => ⟨h.1, h.2.1, putK_mono hk h.2.2⟩) h) h.2⟩
      · exact h
    · exact OkO_mono (fun x h => OkO_mono (fun ds h => OkO_mono (fun r h => ⟨h.1, h.2.1, OkO_mono (fun os h => ⟨h.1, putK_mono hk h.2⟩) h.2.2⟩) h) h) h
theorem awpOp_mono {A : Env} {o : Oper} {s : St} {K K' : St → Prop} (hk : ∀ s, K s → K' s) (h : awpOp A o s K) : awpOp A o s K' := by
  have val : valW A o s K → valW A o s K' := OkO_mono fun y h => putK_mono hk h
  unfold awpOp at h ⊢
  split at h
  · split at h
    · exact splitB_mono (putK_mono hk) (putK_mono hk) h
    · exact h
  · split at h
    · unfold storeW at h ⊢
      split at h
      · exact OkO_mono (fun H h => hk _ h) h
      · exact OkO_mono (fun m h => OkO_mono (fun H h => hk _ h) h) h
    · exact h
  · split at h
    · split at h
      · exact callW_mono hk h
      · exact ⟨h.1, callW_mono hk h.2⟩
      · exact h
    · exact val h
  · split at h
    · exact OkO_mono (fun y h => putK_mono hk h) h
    · exact val h
  · split at h
    · refine OkO_mono (fun d h => ?_) h
      unfold nilK at h ⊢
      split at h
      · exact fun b hb => putK_mono hk (h b hb)
      · exact h
    · exact val h
  · exact OkO_mono (fun y h => putK_mono hk h) h
  · exact OkO_mono (fun y h => putK_mono hk h) h
  · split at h
    · exact OkO_mono (fun H h => hk _ h) h
    · exact h
  · exact val h
theorem awpG_mono {A : Env} {ops : List Oper} {o : Oper} {s : St} {K K' : St → Prop} (hk : ∀ s, K s → K' s) (h : awpG A ops o s K) : awpG A ops o s K' := by
  unfold awpG at h ⊢
  split at h
  · exact awpOp_mono hk h
  · split at h
    · exact putK_mono hk h
    · split at h
      · refine splitB_mono (fun h => ?_) (fun h => ?_) h
        · split at h
          · exact awpOp_mono hk h
          · exact putK_mono hk h
        · split at h
          · exact putK_mono hk h
          · exact awpOp_mono hk h
      · exact putK_mono hk h
      · exact h
theorem awpOps_mono {A : Env} {ops : List Oper} {K K' : St → Prop} (hk : ∀ s, K s → K' s) : ∀ (os : List Oper) (s : St), awpOps A ops K os s → awpOps A ops K' os s
  | [], s, h => hk s h
  | o :: os, s, h => awpG_mono (awpOps_mono hk os) h
theorem awpAny_mono {A : Env} {ops : Array Oper} {K K' : St → Prop} (hk : ∀ s, K s → K' s) : ∀ (n : Nat) (l : Array Bool) (s : St), awpAny A ops K n l s → awpAny A ops K' n l s
  | 0, l, s, h => ⟨h.1, hk s h.2⟩
  | n + 1, l, s, h => by
    refine ⟨fun e => hk s (h.1 e), fun i hi => ?_⟩
    have := h.2 i hi
    split at this
    · exact awpG_mono (awpAny_mono hk n _) this
    · exact this
theorem awp_mono {A : Env} (c : Code) : ∀ {Q Q' : Exit → St → Prop}, (∀ e s, Q e s → Q' e s) → ∀ s, awp A c Q s → awp A c Q' s := by
  induction c with
  | skip => exact fun hq s h => hq _ _ h
  | label l => exact fun hq s h => hq _ _ h
  | exit id => exact fun hq s h => hq _ _ h
  | goto l => exact fun hq s h => hq _ _ h
  | ret => exact fun hq s h => hq _ _ h
  | rangeFunc f ps x y => exact fun hq s h => h
  | scope b => exact fun hq s h => h
  | refuse why => exact fun hq s h => h
  | region id ops dr =>
    intro Q Q' hq s h
    cases dr with
    | false => exact awpOps_mono (hq _) _ _ h
    | true => exact awpAny_mono (hq _) _ _ _ h
  | seq x y ihx ihy =>
    intro Q Q' hq s h
    refine ihx (Q := thenS (awp A y Q) Q) (fun e s h => ?_) s h
    cases e with
    | normal => exact ihy hq s h
    | _ => exact hq _ _ h
  | cond c x y ihx ihy =>
    intro Q Q' hq s h
    simp only [awp] at h ⊢
    split at h
    · exact splitB_mono (ihx hq _) (ihy hq _) h
    · exact h
  | block id b ih =>
    intro Q Q' hq s h
    refine ih (Q := blkS id Q) (fun e s h => ?_) s h
    cases e with
    | exit id' =>
      simp only [blkS] at h ⊢
      split at h
      · rename_i e; rw [if_pos e]; exact hq _ _ h
      · rename_i e; rw [if_neg e]; exact hq _ _ h
    | _ => exact hq _ _ h
  | loop b ih =>
    intro Q Q' hq s h
    obtain ⟨I, h0, h1⟩ := h
    refine ⟨I, h0, fun n s hi => ih (fun e s h => ?_) s (h1 n s hi)⟩
    cases e with
    | normal => exact h
    | _ => exact hq _ _ h

section rel
variable {P : Program} {A : Env} {B : Ctx}

theorem OkO_inv {α : Type} {o : Option α} {K : α → Prop} (h : OkO o K) : ∃ a, o = some a ∧ K a := by
  cases o with
  | none => exact h.elim
  | some a => exact ⟨a, rfl, h⟩

/-- What a property of states says of an act and a world. -/
def Say (B : Ctx) (K : St → Prop) (K' : Act → World → Prop) : Prop := ∀ G s a w, RelG B G s a w → K s → K' a w

theorem putK_ok {G : Nat → GI} {s : St} {a : Act} {w : World} {H : Nat → Option Ob} (h : RelG B G { s with heap := H } a w) {v : Value} {av : AV} (hv : AVR w G H (Ban B.F G H) v av) {dst : Option Nat} {K : St → Prop} {K' : Act → World → Prop} (hK : Say B K K')
    (hp : putK s dst av H K) : K' (a.put dst v) w := by
  cases dst with
  | none => exact hK _ _ _ _ h hp
  | some d =>
    obtain ⟨hd, hp⟩ := hp
    exact hK _ _ _ _ (h.put d hd hv) hp

theorem litS_ok {s : St} {x : Operand} {v : Bool} (h : s.ev x = .d (.b v)) : litS s x v = s := by
  cases x with
  | tmp t =>
    have h : s.env t = .d (.b v) := h
    have : upd s.env t (.d (.b v)) = s.env := by
      funext i
      by_cases e : i = t
      · subst e; simp [upd, h]
      · simp [upd, e]
    simp [litS, this]
  | _ => rfl

theorem splitB_inv {v : Bool} {X Y : Prop} (h : splitB v X Y) : (v = true → X) ∧ (v = false → Y) := by
  cases v
  · exact ⟨fun e => (by cases e), fun _ => h⟩
  · exact ⟨fun _ => h, fun e => (by cases e)⟩

theorem zargs_ok {T : Tab} {G : Nat → GI} {s : St} {a : Act} {w : World} (h : RelG B G s a w) : ∀ (xs : List Operand) (ts : List TypeId), AVRL w G s.heap (Ban B.F G s.heap) (xs.map a.eval) (zargs T s xs ts)
  | [], _ => .nil
  | x :: xs, [] => .cons _ _ _ _ (h.ev x) (zargs_ok h xs [])
  | x :: xs, t :: ts => .cons _ _ _ _ (fixZ_ok t (h.ev x)) (zargs_ok h xs ts)

theorem freeAll_ok {H : Nat → Option Ob} : ∀ {L : List (Nat × Ob)}, freeAll H L = true → ∀ x ∈ L, H x.1 = none
  | [], _, x, hx => by cases hx
  | y :: L, h, x, hx => by
    simp only [freeAll, Bool.and_eq_true] at h
    rcases List.mem_cons.1 hx with rfl | hx
    · cases e : H x.1 with
      | none => rfl
      | some o => rw [e] at h; simp at h
    · exact freeAll_ok h.2 x hx

theorem does_wp {o : Oper} {a : Act} {w : World} {f : FuncId} {args : Array Value} {K : Act → World → Prop} {Q : Exit → Act → World → Prop} (he : execOp a.eval o = callFunc f args) (h : Does P f args w fun v w' => K (a.put o.dst v) w') : o.wp P a w K Q := by
  unfold Oper.wp
  rw [he]
  rcases h with ⟨h1, h2⟩ | ⟨v, w', h1, h2⟩
  · rw [h1]
    exact h2.mono fun e w' he => by
      cases e with
      | returned v => exact he
      | panicked c => exact he.elim
      | outgrown => exact he.elim
  · rw [h1]; exact h2

theorem callW_ok (hS : SumOK P A.S) {G : Nat → GI} {s : St} {a : Act} {w : World} (h : RelG B G s a w) {dst : Option Nat} {f : FuncId} {vs : List Value} {args : List AV} (hargs : AVRL w G s.heap (Ban B.F G s.heap) vs args) {K : St → Prop} {K' : Act → World → Prop} (hK : Say B K K')
    (hc : callW A s dst f args K) : Does P f vs.toArray w fun v w' => K' (a.put dst v) w' := by
  unfold callW at hc
  split at hc
  · exact hc.elim
  · rename_i F hF
    obtain ⟨ds, hb, hc⟩ := OkO_inv hc
    obtain ⟨r, hr, hfree, hc⟩ := OkO_inv hc
    have hSf := hS f _ hF ds r hr
    have := call_own h (io := none) (iov := none) (by simp) (fun _ => rfl) hargs (ds0 := []) (ks := []) rfl hb List.nodup_nil (by simp) (out := { ret := r }) (by simpa [ioIn] using hSf) rfl rfl (key := keyOf dst)
      (freeAll_ok hfree) (os := []) rfl
    refine Does.mono (by simpa using this) fun v w' hv => ?_
    obtain ⟨G', h1, h2⟩ := hv
    rw [← updL_eq] at h1 h2
    exact putK_ok h1 h2 hK hc
  · rename_i F hF
    obtain ⟨H1, hf, hks, hc⟩ := OkO_inv hc
    obtain ⟨ds, hb, hc⟩ := OkO_inv hc
    obtain ⟨r, hr, hc⟩ := OkO_inv hc
    have := call_shared h hargs hf hks hb (out := { ret := r, deep := false }) (hS f _ hF ds r hr) rfl
    exact this.mono fun v w' hv => putK_ok hv.1 hv.2 hK hc
  · rename_i F hF
    split at hc
    · exact hc.elim
    · rename_i k ve i o rest
      split at hc
      case h_2 => exact hc.elim
      rename_i sz xs ve' hk
      obtain ⟨⟨rfl, hi, ho⟩, hc⟩ := hc
      obtain ⟨ds, hb, hc⟩ := OkO_inv hc
      obtain ⟨r, hr, hap, hfree, hc⟩ := OkO_inv hc
      cases hargs with
      | cons v _ vs _ hv hvs =>
        have := call_nest h hk hi ho hv hvs hb (by simpa [apart] using hap) (hS f _ hF _ ds r hr) (key := keyOf dst) (freeAll_ok hfree)
        refine Does.mono this fun v w' hv => ?_
        obtain ⟨G', h1, h2⟩ := hv
        rw [← updL_eq] at h1 h2
        exact putK_ok h1 h2 hK hc
    · rename_i io rest _
      obtain ⟨x, hx, hc⟩ := OkO_inv hc
      obtain ⟨ds, hb, hc⟩ := OkO_inv hc
      obtain ⟨r, hr, hn, hap, hc⟩ := OkO_inv hc
      obtain ⟨os, hos, hfree, hc⟩ := OkO_inv hc
      cases hargs with
      | cons v _ vs _ hv hvs =>
        have := call_own h (io := some io) (iov := some v) (fun av e => ⟨v, rfl, by cases e; exact hv⟩) (by simp) hvs (ds0 := x.1) (ks := x.2) hx hb (nodupB_ok hn) (fun k hk => by
            have := List.all_eq_true.1 hap k hk
            simpa using this) (out := { ret := r.1, io := some r.2 }) (hS f _ hF _ ds r hr) rfl rfl (key := keyOf dst) (freeAll_ok hfree) (os := os) hos
        refine Does.mono (by simpa using this) fun v w' hv => ?_
        obtain ⟨G', h1, h2⟩ := hv
        rw [← updL_eq] at h1 h2
        exact putK_ok h1 h2 hK hc

theorem awpOp_ok (hT : A.T.ok P = true) (hS : SumOK P A.S) {G : Nat → GI} {s : St} {a : Act} {w : World} (h : RelG B G s a w) {o : Oper} {K : St → Prop} {K' : Act → World → Prop} {Q : Exit → Act → World → Prop} (hK : Say B K K') (hw : awpOp A o s K) : o.wp P a w K' Q := by
  have val : valW A o s K → o.wp P a w K' Q := by
    intro hv
    obtain ⟨y, hm, hp⟩ := OkO_inv hv
    obtain ⟨v, w', G', hr, h1, h2⟩ := valOp_ok hT h hm
    unfold Oper.wp
    rw [hr]
    exact putK_ok h1 h2 hK hp
  unfold awpOp at hw
  split at hw
  · rename_i c x y hop
    split at hw
    case h_2 => exact hw.elim
    rename_i v hev
    obtain ⟨h1, h2⟩ := splitB_inv hw
    have hb : a.eval c = .bool v := by have := h.ev c; rw [hev] at this; exact this.inv_bool
    unfold Oper.wp
    obtain ⟨dst, op, type, pos, after, guard⟩ := o
    simp only at hop
    subst hop
    have hrun : ∀ u, (if v then a.eval x else a.eval y) = u → (execOp a.eval ⟨dst, .pick c x y, type, pos, after, guard⟩).run P w = .ok (.value u) w := by
      intro u e
      simp only [execOp, hb, asBool, pure_bind, e]
      rfl
    cases v with
    | true =>
      have h1 := h1 rfl
      rw [litS_ok hev] at h1
      rw [hrun _ rfl]
      exact putK_ok h (fixZ_ok type (h.ev x)) hK h1
    | false =>
      have h2 := h2 rfl
      rw [litS_ok hev] at h2
      rw [hrun _ rfl]
      exact putK_ok h (fixZ_ok type (h.ev y)) hK h2
  · rename_i ty ad v hop
    split at hw
    case h_2 => exact hw.elim
    rename_i hd
    obtain ⟨H, w', G', hr, h1, hw⟩ : ∃ H w' G', (Instr.storeAt ty (a.eval ad) (a.eval v)).run P w = .ok () w' ∧ RelG B G' { s with heap := H } a w' ∧ K { s with heap := H } := by
      unfold storeW at hw
      split at hw
      · obtain ⟨H, m2, hw⟩ := OkO_inv hw
        obtain ⟨w', G', hr, h1⟩ := opStore_ok hT h (h.ev ad) (h.ev v) m2
        exact ⟨H, w', G', hr, h1, hw⟩
      · obtain ⟨m, m1, hw⟩ := OkO_inv hw
        obtain ⟨H, m2, hw⟩ := OkO_inv hw
        obtain ⟨e1, v1⟩ := demote_ok h (h.ev v) m1
        obtain ⟨w', G', hr, h1⟩ := opStore_ok (s := { s with heap := m.2 }) hT e1.rel (e1.avr (h.ev ad)) v1 m2
        exact ⟨H, w', G', hr, h1, hw⟩
    unfold Oper.wp
    obtain ⟨dst, op, type, pos, after, guard⟩ := o
    simp only at hop hd
    subst hop hd
    have : (execOp a.eval ⟨none, .store ty ad v, type, pos, after, guard⟩).run P w = .ok .skip w' := by
      simp only [execOp, Sem.run_bind, hr, Result.andThen_ok]
      rfl
    rw [this]
    exact hK _ _ _ _ h1 hw
  · rename_i c hop
    split at hw
    case h_2 => exact val hw
    rename_i f hf
    have go : ∀ {fn : FuncId} {cs : Array Value} {caps : List AV}, a.eval f = .func (.func fn) #[] cs → AVRL w G s.heap (Ban B.F G s.heap) cs.toList caps → callW A s o.dst fn (zargs A.T s c.args.toList c.argTypes.toList ++ caps) K → o.wp P a w K' Q := by
      intro fn cs caps hfe hcs hw
      refine does_wp (f := fn) (args := (c.args.toList.map a.eval ++ cs.toList).toArray) ?_ (callW_ok hS h ((zargs_ok h _ _).append hcs) hK hw)
      obtain ⟨dst, op, type, pos, after, guard⟩ := o
      simp only at hop
      subst hop
      obtain ⟨callee, args, argTypes⟩ := c
      simp only at hf
      subst hf
      simp only [execOp, resolve, hfe, Deferred.ofValue, pure_bind, invoke]
      congr 1
      apply Array.ext'
      simp
    split at hw
    · rename_i fn caps hev
      have hfv := h.ev f
      rw [hev] at hfv
      generalize hfe : a.eval f = fv at hfv
      cases hfv with
      | f _ cs _ hcs => exact go hfe hcs hw
    · rename_i fn caps hev
      have hfv := h.ev f
      rw [hev] at hfv
      generalize hfe : a.eval f = fv at hfv
      cases hfv with
      | d _ _ S h1 ht hS' =>
        cases ht with
        | f _ cs _ _ hcs => exact go hfe (caps_avrl hcs hw.1 hS') hw.2
    · exact hw.elim
  · rename_i src dst' x hop
    split at hw
    case h_2 => exact val hw
    obtain ⟨y, hm, hp⟩ := OkO_inv hw
    obtain ⟨v, hr, h2⟩ := opB2S_ok hT h (h.ev x) hm
    unfold Oper.wp
    obtain ⟨dst, op, type, pos, after, guard⟩ := o
    simp only at hop
    subst hop
    have : (execOp a.eval ⟨dst, .convert src dst' x, type, pos, after, guard⟩).run P w = .ok (.value v) w := by
      simp only [execOp, Sem.run_bind, hr, Result.andThen_ok]
      rfl
    rw [this]
    exact putK_ok h h2 hK hp
  · rename_i op ty x y yt hop
    split at hw
    case h_2 => exact val hw
    rename_i neg hc
    obtain ⟨d, hb, hw⟩ := OkO_inv hw
    unfold nilK at hw
    split at hw
    case h_2 => exact hw.elim
    rename_i sz xs
    obtain ⟨b, hb1, hr⟩ := nilCmp_ok hT h hc hb
    unfold Oper.wp
    obtain ⟨dst, op', type, pos, after, guard⟩ := o
    simp only at hop
    subst hop
    have : (execOp a.eval ⟨dst, .binOp op ty x y yt, type, pos, after, guard⟩).run P w = .ok (.value (.bool (if neg then !b else b))) w := by
      simp only [execOp] at hr ⊢
      rw [Sem.run_bind, hr, Result.andThen_ok]
      rfl
    rw [this]
    exact putK_ok h (.sc rfl (.b _)) hK (hw b hb1)
  · rename_i ty hop
    obtain ⟨y, hm, hp⟩ := OkO_inv hw
    obtain ⟨v, w', G', hr, h1, h2⟩ := opMkMap_ok (P := P) h hm
    unfold Oper.wp
    obtain ⟨dst, op, type, pos, after, guard⟩ := o
    simp only at hop
    subst hop
    have : (execOp a.eval ⟨dst, .makeMap ty none, type, pos, after, guard⟩).run P w = .ok (.value v) w' := by
      simp only [execOp, Option.map_none, Sem.run_bind, hr, Result.andThen_ok]
      rfl
    rw [this]
    exact putK_ok h1 h2 hK hp
  · rename_i ty m k ok hop
    obtain ⟨y, hm, hp⟩ := OkO_inv hw
    obtain ⟨v, hr, h2⟩ := opMapGet_ok hT h (h.ev m) (h.ev k) hm
    unfold Oper.wp
    obtain ⟨dst, op, type, pos, after, guard⟩ := o
    simp only at hop
    subst hop
    have : (execOp a.eval ⟨dst, .lookup ty m k ok, type, pos, after, guard⟩).run P w = .ok (.value v) w := by
      simp only [execOp, Sem.run_bind, hr, Result.andThen_ok]
      rfl
    rw [this]
    exact putK_ok h h2 hK hp
  · rename_i ty m k x hop
    split at hw
    case h_2 => exact hw.elim
    rename_i hd
    obtain ⟨H, m2, hw⟩ := OkO_inv hw
    obtain ⟨w', G', hr, h1⟩ := opMapSet_ok hT h (h.ev m) (h.ev k) (h.ev x) m2
    unfold Oper.wp
    obtain ⟨dst, op, type, pos, after, guard⟩ := o
    simp only at hop hd
    subst hop hd
    have : (execOp a.eval ⟨none, .mapUpdate ty m k x, type, pos, after, guard⟩).run P w = .ok .skip w' := by
      simp only [execOp, Sem.run_bind, hr, Result.andThen_ok]
      rfl
    rw [this]
    exact hK _ _ _ _ h1 hw
  · exact val hw

theorem awpG_ok (hT : A.T.ok P = true) (hS : SumOK P A.S) {G : Nat → GI} {s : St} {a : Act} {w : World} (h : RelG B G s a w) {ops : Array Oper} {i : Nat} {o : Oper} (ho : ops[i]? = some o) {K : St → Prop} {K' : Act → World → Prop} {Q : Exit → Act → World → Prop} (hK : Say B K K') (hw : awpG A ops.toList o s K) :
    wpOp P ops Q i K' a w := by
  have run : Region.wanted o (yielded ops a.tmps) = true → awpOp A o s K → wpOp P ops Q i K' a w := by
    intro h1 h2
    unfold wpOp
    rw [ho]
    simp only [h1, if_true]
    exact .inl (awpOp_ok hT hS h hK h2)
  have leave : Region.wanted o (yielded ops a.tmps) = false → putK s o.dst (.t []) s.heap K → wpOp P ops Q i K' a w := by
    intro h1 h2
    unfold wpOp
    rw [ho]
    simp only [h1]
    exact putK_ok h (.t #[] [] .nil) hK h2
  unfold awpG at hw
  split at hw
  · rename_i hg
    exact run (by simp [Region.wanted, hg]) hw
  · rename_i j want hg
    have hy : ∀ t, dstAt ops.toList j = some t → yielded ops a.tmps j = match a.tmps[t]? with | some (.bool b) => some b | _ => none := by
      intro t ht
      unfold dstAt at ht
      rw [Array.getElem?_toList] at ht
      unfold yielded
      cases e : ops[j]? with
      | none => rw [e] at ht; cases ht
      | some o' =>
        rw [e] at ht
        simp only at ht
        simp only [Option.bind_some, ht]
        cases a.tmps[t]? with
        | none => rfl
        | some u => cases u <;> rfl
    split at hw
    · rename_i hd
      refine leave ?_ hw
      unfold dstAt at hd
      rw [Array.getElem?_toList] at hd
      have : yielded ops a.tmps j = none := by
        unfold yielded
        cases e : ops[j]? with
        | none => rfl
        | some o' => rw [e] at hd; simp only at hd; simp [hd]
      simp [Region.wanted, hg, this]
    · rename_i t ht
      have hy := hy t ht
      split at hw
      · rename_i v hv
        have hb := h.env t
        rw [hv] at hb
        have hb : a.tmps.getD t undef = .bool v := hb.inv_bool
        have ht : a.tmps[t]? = some (.bool v) := by
          cases e : a.tmps[t]? with
          | none => rw [Array.getD_eq_getD_getElem?, e] at hb; cases hb
          | some u => rw [Array.getD_eq_getD_getElem?, e] at hb; simp at hb; rw [hb]
        rw [ht] at hy
        have hwant : Region.wanted o (yielded ops a.tmps) = (v == want) := by
          simp only [Region.wanted, hg, hy]
          cases v <;> cases want <;> rfl
        obtain ⟨h1, h2⟩ := splitB_inv hw
        have hl : litS s (.tmp t) v = s := litS_ok (x := .tmp t) hv
        cases v with
        | true =>
          have h1 := h1 rfl
          rw [hl] at h1
          cases want with
          | true => exact run hwant h1
          | false => exact leave hwant h1
        | false =>
          have h2 := h2 rfl
          rw [hl] at h2
          cases want with
          | true => exact leave hwant h2
          | false => exact run hwant h2
      · rename_i hv
        have hb := h.env t
        rw [hv] at hb
        refine leave ?_ hw
        have hn : yielded ops a.tmps j = none := by
          rw [hy]
          cases e : a.tmps[t]? with
          | none => rfl
          | some u =>
            rw [Array.getD_eq_getD_getElem?, e] at hb
            simp only [Option.getD_some] at hb
            cases hb with
            | t vs _ h => rfl
        simp [Region.wanted, hg, hn]
      · exact hw.elim

theorem awpOps_ok (hT : A.T.ok P = true) (hS : SumOK P A.S) {ops : Array Oper} {K : St → Prop} {Q : Exit → Act → World → Prop} (hK : Say B K (Q .normal)) :
    ∀ (os pre : List Oper), ops.toList = pre ++ os → Say B (awpOps A ops.toList K os) (wpOps P ops Q (List.range' pre.length os.length))
  | [], pre, _ => fun G s a w h hw => hK G s a w h hw
  | o :: os, pre, e => fun G s a w h hw => by
    have ih := awpOps_ok hT hS (ops := ops) hK os (pre ++ [o]) (by rw [e]; simp)
    have ho : ops[pre.length]? = some o := by rw [← Array.getElem?_toList, e]; simp
    show wpOps P ops Q (List.range' pre.length (os.length + 1)) a w
    rw [List.range'_succ, wpOps_cons]
    have hl : (pre ++ [o]).length = pre.length + 1 := by simp
    rw [hl] at ih
    exact awpG_ok hT hS h ho ih hw

theorem awpAny_ok (hT : A.T.ok P = true) (hS : SumOK P A.S) {ops : Array Oper} {K : St → Prop} {Q : Exit → Act → World → Prop} (hK : Say B K (Q .normal)) :
    ∀ (n : Nat) (listed : Array Bool), Say B (awpAny A ops K n listed) (wpAny P .any ops Q n listed)
  | 0, listed => fun G s a w h hw => ⟨hw.1, hK G s a w h hw.2⟩
  | n + 1, listed => fun G s a w h hw => by
    refine ⟨fun e => hK G s a w h (hw.1 e), fun i hi => ?_⟩
    have := hw.2 i hi
    split at this
    case h_2 => exact this.elim
    rename_i o ho
    exact awpG_ok hT hS h (by rw [← Array.getElem?_toList]; exact ho) (awpAny_ok hT hS hK n _) this

theorem Via_ok (hA : B.aa = A.aa) {J : St → Prop} {J' : Act → World → Prop} (hJ : Say B J J') : Say B (Via A J) J' := by
  rintro G s a w h ⟨s', h1, h3⟩
  obtain ⟨G', h2⟩ := h1 _ G a w hA h
  exact hJ _ _ _ _ h2 h3

theorem drawn_rel {G : Nat → GI} {s : St} {a : Act} {w : World} (h : RelG B G s a w) (n : Nat) : RelG B G s a { w with drawn := n } := by
  refine h.grow ⟨rfl, rfl, rfl, Nat.le_refl _⟩ fun b hb => rfl

/-- The walk of the mind is the walk of the code. -/
theorem awp_ok (hT : A.T.ok P = true) (hS : SumOK P A.S) (hm : P.follows .mixedOrders = true) (hA : B.aa = A.aa) :
    ∀ (c : Code) {Q : Exit → St → Prop} {Q' : Exit → Act → World → Prop}, (∀ e, Say B (Q e) (Q' e)) → Say B (awp A c Q) (c.wp P Q') := by
  intro c
  induction c with
  | skip => exact fun hQ G s a w h hw => wp_skip (hQ _ _ _ _ _ h hw)
  | label l => exact fun hQ G s a w h hw => wp_label (hQ _ _ _ _ _ h hw)
  | exit id => exact fun hQ G s a w h hw => wp_exit (hQ _ _ _ _ _ h hw)
  | goto l => exact fun hQ G s a w h hw => wp_goto (hQ _ _ _ _ _ h hw)
  | ret => exact fun hQ G s a w h hw => wp_ret (hQ _ _ _ _ _ h hw)
  | rangeFunc f ps x y => exact fun hQ G s a w h hw => hw.elim
  | scope b => exact fun hQ G s a w h hw => hw.elim
  | refuse why => exact fun hQ G s a w h hw => hw.elim
  | region id ops dr =>
    intro Q Q' hQ G s a w h hw
    cases dr with
    | false =>
      have := awpOps_ok hT hS (ops := ops) (hQ .normal) ops.toList [] rfl G s a w h hw
      refine wp_region ?_
      rw [List.range_eq_range']
      simpa using this
    | true => exact wp_region_any hm (awpAny_ok hT hS (hQ .normal) _ _ G s a _ (drawn_rel h _) hw)
  | seq x y ihx ihy =>
    intro Q Q' hQ G s a w h hw
    refine wp_seq (ihx (Q := thenS (awp A y Q) Q) (fun e => ?_) G s a w h hw)
    cases e with
    | normal => exact ihy hQ
    | exit id => exact hQ (.exit id)
    | goto l => exact hQ (.goto l)
    | ret => exact hQ .ret
    | panic ch => exact hQ (.panic ch)
    | outgrown => exact hQ .outgrown
  | cond c x y ihx ihy =>
    intro Q Q' hQ G s a w h hw
    simp only [awp] at hw
    split at hw
    case h_2 => exact hw.elim
    rename_i v hev
    have hb : a.eval c = .bool v := by have := h.ev c; rw [hev] at this; exact this.inv_bool
    obtain ⟨h1, h2⟩ := splitB_inv hw
    cases v with
    | true =>
      have h1 := h1 rfl
      rw [litS_ok hev] at h1
      exact wp_cond_true hb (ihx hQ G s a w h h1)
    | false =>
      have h2 := h2 rfl
      rw [litS_ok hev] at h2
      exact wp_cond_false hb (ihy hQ G s a w h h2)
  | block id b ih =>
    intro Q Q' hQ G s a w h hw
    refine wp_block (ih (Q := blkS id Q) (fun e => ?_) G s a w h hw)
    cases e with
    | exit id' =>
      intro G s a w h hw
      simp only [blkS] at hw
      simp only [Exit.inBlock]
      split
      · rename_i e; rw [if_pos e] at hw; exact hQ .normal _ _ _ _ h hw
      · rename_i e; rw [if_neg e] at hw; exact hQ (.exit id') _ _ _ _ h hw
    | normal => exact hQ .normal
    | goto l => exact hQ (.goto l)
    | ret => exact hQ .ret
    | panic ch => exact hQ (.panic ch)
    | outgrown => exact hQ .outgrown
  | loop b ih =>
    intro Q Q' hQ G s a w h hw
    obtain ⟨I, ⟨n, hs⟩, hI⟩ := hw
    refine wp_loop_ghost (fun n a w => ∃ G s, RelG B G s a w ∧ I n s) n (Via_ok hA (J := I n) (J' := fun a w => ∃ G s, RelG B G s a w ∧ I n s) (fun G s a w h hi => ⟨G, s, h, hi⟩) G s a w h hs) ?_
    rintro n a w ⟨G, s, h, hi⟩
    refine ih (Q := thenS (fun s' => ∃ m, m < n ∧ Via A (I m) s') Q) (fun e => ?_) G s a w h (hI n s hi)
    cases e with
    | normal =>
      rintro G s a w h ⟨m, hm, hv⟩
      exact ⟨m, hm, Via_ok hA (J := I m) (J' := fun a w => ∃ G s, RelG B G s a w ∧ I m s) (fun G s a w h hi => ⟨G, s, h, hi⟩) G s a w h hv⟩
    | exit id => exact hQ (.exit id)
    | goto l => exact hQ (.goto l)
    | ret => exact hQ .ret
    | panic ch => exact hQ (.panic ch)
    | outgrown => exact hQ .outgrown

/-- What is left to show at the end. -/
def EndA (T : Tab) (aa : AV) (rs : List ResultVar) (out : Ret) : Exit → St → Prop
  | .normal, s => outR T s aa rs = some out
  | .ret, s => outR T s aa rs = some out
  | _, _ => False

theorem fnOK_awp (hT : A.T.ok P = true) (hS : SumOK P A.S) (hm : P.follows .mixedOrders = true) {f : FuncId} {fn : Func} {c : Code} (hf : P.funcs[f]? = some fn) (hb : fn.body = some c) (hnm : (fn.name == "runtime.NumGoroutine") = false) {rs : List ResultVar} (hres : fn.results.toList = rs)
    {ins : List In} (hi : insOK ins = true) (hn : ins.length ≤ fn.ntmps) (hA : A.aa = ancA ins) {out : Ret} (hbody : awp A c (EndA A.T A.aa rs out) (inSt fn.ntmps ins)) : FnOK P f ins out := by
  refine fnOK_of hT hf hb hnm hres hi hn fun B G a w h hB => ?_
  refine awp_ok hT hS hm (hB.trans hA.symm) c (Q := EndA A.T A.aa rs out) (fun e => ?_) G _ a w h hbody
  cases e with
  | normal => exact fun G s a w h ho => ⟨.inl rfl, G, s, h, by rw [hB, ← hA]; exact ho⟩
  | ret => exact fun G s a w h ho => ⟨.inr rfl, G, s, h, by rw [hB, ← hA]; exact ho⟩
  | _ => exact fun G s a w h ho => ho.elim
end rel
end Go.Fs
