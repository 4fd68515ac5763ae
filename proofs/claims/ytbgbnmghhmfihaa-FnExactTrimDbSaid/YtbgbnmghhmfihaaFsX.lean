/- A part of the proof: an evaluator of the program's code over plain data, proved sound, or a function's walk by it. No conditions beyond those in the theorems. -/
import Derived.Test.YtbgbnmghhmfihaaFsV
set_option linter.unusedVariables false
set_option linter.constructorNameAsVariable false
namespace Go.Fs
open Go.RowKit

/-! ### a list that lies in an element of one's own row, handed over to be written -/
theorem TrL.at {w : World} {own : Bool} : ∀ {vs : List Value} {ds : List D} {S : List Nat}, TrL w own vs ds S → ∀ {j : Nat} {d : D}, ds[j]? = some d → ∃ v S1 Sm S2, vs[j]? = some v ∧ Tr w own v d Sm ∧ S = S1 ++ (Sm ++ S2) ∧
    ∀ {w' : World} {d' : D} {Si : List Nat}, Tr w' own v d' Si → (∀ b, b ∈ S1 ∨ b ∈ S2 → w'.heap[b]? = w.heap[b]?) → TrL w' own vs (ds.set j d') (S1 ++ (Si ++ S2))
  | _, _, _, .nil, j, d, h => by simp at h
  | _, _, _, .cons v d0 S vs ds Ss h hs, 0, d, e => by
    obtain rfl : d0 = d := by simpa using e
    refine ⟨v, [], S, Ss, rfl, h, rfl, fun {w' d' Si} h' hk => ?_⟩
    show TrL w' own (v :: vs) (d' :: ds) (Si ++ Ss)
    exact .cons _ _ _ _ _ _ h' (hs.keep fun b hb => hk b (.inr hb))
  | _, _, _, .cons v d0 S vs ds Ss h hs, j + 1, d, e => by
    obtain ⟨u, S1, Sm, S2, e1, e2, e3, e4⟩ := hs.at (j := j) (by simpa using e)
    refine ⟨u, S ++ S1, Sm, S2, by simpa using e1, e2, by rw [e3]; simp, fun h' hk => ?_⟩
    have := TrL.cons v d0 S vs _ _ (h.keep fun b hb => hk b (.inl (by simp [hb]))) (e4 h' fun b hb => hk b (hb.imp (fun hb => by simp [hb]) id))
    rw [List.append_assoc]
    exact this

theorem cell_get : ∀ {xs : List (List D)} {sz : Nat} (h : ∀ x ∈ xs, x.length = sz) {i o : Nat}, i < xs.length → o < sz → xs.flatten[i * sz + o]? = some ((xs.getD i []).getD o .u)
  | [], _, _, i, o, hi, _ => by simp at hi
  | x :: xs, sz, h, 0, o, hi, ho => by
    have := h x (by simp)
    simp [List.getElem?_append_left (show o < x.length by omega), List.getElem?_eq_getElem (show o < x.length by omega)]
  | x :: xs, sz, h, i + 1, o, hi, ho => by
    have hx := h x (by simp)
    have := cell_get (xs := xs) (fun y hy => h y (by simp [hy])) (i := i) (by simpa using hi) ho
    rw [List.flatten_cons, List.getElem?_append_right (by rw [hx, Nat.succ_mul]; omega)]
    have e : (i + 1) * sz + o - x.length = i * sz + o := by rw [hx, Nat.succ_mul]; omega
    rw [e, this]
    simp

def setCell (xs : List (List D)) (i o : Nat) (y : D) : List (List D) := xs.set i ((xs.getD i []).set o y)

theorem setCell_flat : ∀ {xs : List (List D)} {sz : Nat} (h : ∀ x ∈ xs, x.length = sz) {i o : Nat} (y : D), i < xs.length → o < sz → (setCell xs i o y).flatten = xs.flatten.set (i * sz + o) y
  | [], _, _, i, o, y, hi, _ => by simp at hi
  | x :: xs, sz, h, 0, o, y, hi, ho => by
    have := h x (by simp)
    simp [setCell, List.set_append_left o y (show o < x.length by omega)]
  | x :: xs, sz, h, i + 1, o, y, hi, ho => by
    have hx := h x (by simp)
    have := setCell_flat (xs := xs) (fun y hy => h y (by simp [hy])) (i := i) y (by simpa using hi) ho
    rw [List.flatten_cons, List.set_append_right _ _ (by rw [hx, Nat.succ_mul]; omega)]
    have e : (i + 1) * sz + o - x.length = i * sz + o := by rw [hx, Nat.succ_mul]; omega
    rw [e, ← this]
    simp [setCell]

theorem setCell_len (xs : List (List D)) (i o : Nat) (y : D) : (setCell xs i o y).length = xs.length := by simp [setCell]
theorem setCell_uni {xs : List (List D)} {sz : Nat} (h : ∀ x ∈ xs, x.length = sz) {i : Nat} (hi : i < xs.length) (o : Nat) (y : D) : ∀ x ∈ setCell xs i o y, x.length = sz := by
  intro x hx
  rcases List.mem_or_eq_of_mem_set hx with hx | rfl
  · exact h x hx
  · rw [List.length_set]
    have : xs.getD i [] = xs[i] := by simp [List.getElem?_eq_getElem hi]
    rw [this]
    exact h _ (List.getElem_mem hi)

section rel
variable {P : Program} {T : Tab} {B : Ctx} {G : Nat → GI} {s : St} {a : Act} {w w' : World}

theorem call_nest (h : RelG B G s a w) {f : FuncId} {k ve i o sz : Nat} {xs : List (List D)} (hk : s.heap k = some (.row sz xs true false ve)) (hi : i < xs.length) (ho : o < sz)
    {v : Value} (hv : AVR w G s.heap (Ban B.F G s.heap) v (.m k ve i o)) {rest : List AV} {vs : List Value} (hrest : AVRL w G s.heap (Ban B.F G s.heap) vs rest) {ds : List D} (hb : borL s.heap rest = some ds)
    (hdis : k ∉ rest.flatMap (keyA s.heap)) {ret y : D} (hf : FnOK P f (.io ((xs.getD i []).getD o .u) :: ds.map .d) { ret := ret, io := some y })
    {key : Nat} (hfree : ∀ x ∈ adObs key (partsD ret), s.heap x.1 = none) :
    Does P f (v :: vs).toArray w fun u w' => ∃ G', RelG B G' { s with heap := ovr ((k, .row sz (setCell xs i o y) true false (ve + 1)) :: adObs key (partsD ret)) s.heap } a w' ∧
      AVR w' G' (ovr ((k, .row sz (setCell xs i o y) true false (ve + 1)) :: adObs key (partsD ret)) s.heap) (Ban B.F G' (ovr ((k, .row sz (setCell xs i o y) true false (ve + 1)) :: adObs key (partsD ret)) s.heap)) u (retAV ret (adCells key (partsD ret))) := by
  have hR : RowR w (Ban B.F G s.heap) (G k) sz xs true false := h.obj k _ hk
  have hc : (G k).cap ≠ 0 := by have := hR.cap; omega
  have hownk : ∀ b, b ∈ ownOf (G k) (s.heap k) ↔ b = (G k).blk ∨ b ∈ (G k).sub := fun b => by rw [hk]; simp [ownOf, hc]
  have hnd := h.nodup k
  rw [hk] at hnd
  have hnd : (G k).blk ∉ (G k).sub ∧ (G k).sub.Nodup := by simpa [ownOf, hc] using hnd
  -- the list handed over
  have hcell := cell_get hR.uni hi ho
  obtain ⟨v', S1, Sm, S2, e1, t1, eS, back⟩ := hR.tr.at hcell
  obtain ⟨rfl, h1⟩ : v' = v ∧ v.oneCell' = true := by
    cases hv with
    | m _ _ _ sz' xs' dp fz _ _ z ys hk' hj hv' h1 =>
      rw [hk] at hk'; cases hk'
      rw [e1] at hv'
      exact ⟨Option.some.inj hv', h1⟩
    | mo _ _ _ sz' xs' dp fz _ ve' _ hk' hlt => rw [hk] at hk'; cases hk'; omega
    | md _ _ _ _ _ hk' => rw [hk] at hk'; cases hk'
  have hsub : ∀ b, b ∈ (G k).sub ↔ b ∈ S1 ∨ b ∈ Sm ∨ b ∈ S2 := fun b => by rw [eS]; simp
  have hnS := hnd.2
  rw [eS] at hnS
  obtain ⟨n1, n2, n3⟩ := List.nodup_append.1 hnS
  obtain ⟨n4, n5, n6⟩ := List.nodup_append.1 n2
  obtain ⟨Sd, u1, u2⟩ := borL_ok h hrest hb
  refine (hf w _ Sd (Sm ++ []) (.io v' _ Sm vs _ Sd [] t1 (flat_one h1) u1) (by simpa using n4) fun b hb hbd => ?_).mono fun u w' hp => ?_
  · have hb : b ∈ Sm := by simpa using hb
    exact hdis ((u2 b hbd).2 k ((hownk b).2 (.inr ((hsub b).2 (.inr (.inl hb))))))
  obtain ⟨hr, hkeep, S', Si, r1, r2, r3, r4, r5, r6, r7, _⟩ := hp
  obtain ⟨r7, r8⟩ := r7 rfl
  obtain ⟨v1, vs1, e, ht⟩ := r3
  simp only [List.cons.injEq] at e
  obtain ⟨rfl, rfl⟩ := e
  simp only [List.append_nil] at hkeep r5 r8
  have hlt : ∀ b, b ∈ ownOf (G k) (s.heap k) → b < w.heap.size := fun b hb => h.own_lt ⟨k, hb⟩
  have hblk : (G k).blk < w.heap.size := hlt _ ((hownk _).2 (.inl rfl))
  have hSub : ∀ b ∈ (G k).sub, b < w.heap.size := fun b hb => hlt _ ((hownk _).2 (.inr hb))
  have hblkm : (G k).blk ∉ Sm := fun hb => hnd.1 ((hsub _).2 (.inr (.inl hb)))
  have hS1m : ∀ b ∈ S1, b ∉ Sm := fun b hb hb' => n3 b hb b (by simp [hb']) rfl
  have hS2m : ∀ b ∈ S2, b ∉ Sm := fun b hb hb' => n6 b hb' b hb rfl
  have hS12 : ∀ b ∈ S1, b ∉ S2 := fun b hb hb' => n3 b hb b (by simp [hb']) rfl
  have hcellsd := cells_tr ht (flat_one h1)
  have back' : TrL w' true (G k).vs (xs.flatten.set (i * sz + o) y) (S1 ++ (Si ++ S2)) := back ht fun b hb => by
    rcases hb with hb | hb
    · exact hkeep b (hSub b ((hsub b).2 (.inl hb))) (hS1m b hb)
    · exact hkeep b (hSub b ((hsub b).2 (.inr (.inr hb)))) (hS2m b hb)
  have hSi1 : ∀ b ∈ Si, b ∉ S1 := fun b hb hb' => (r5 b hb).elim (fun h1 => by have := hSub b ((hsub b).2 (.inl hb')); omega) fun h1 => hS1m b hb' h1
  have hSi2 : ∀ b ∈ Si, b ∉ S2 := fun b hb hb' => (r5 b hb).elim (fun h1 => by have := hSub b ((hsub b).2 (.inr (.inr hb'))); omega) fun h1 => hS2m b hb' h1
  have hSiblk : (G k).blk ∉ Si := fun hb => (r5 _ hb).elim (fun h1 => by omega) hblkm
  have hS'1 : ∀ b ∈ S', b ∉ S1 := fun b hb hb' => (r8 b hb).elim (fun h1 => by have := hSub b ((hsub b).2 (.inl hb')); omega) fun h1 => hS1m b hb' h1
  have hS'2 : ∀ b ∈ S', b ∉ S2 := fun b hb hb' => (r8 b hb).elim (fun h1 => by have := hSub b ((hsub b).2 (.inr (.inr hb'))); omega) fun h1 => hS2m b hb' h1
  have hS'blk : (G k).blk ∉ S' := fun hb => (r8 _ hb).elim (fun h1 => by omega) hblkm
  let gi : GI := { (G k) with sub := S1 ++ (Si ++ S2) }
  have hrow : ∀ Av, RowR w' Av gi sz (setCell xs i o y) true false := fun Av => by
    refine ⟨fun _ => ?_, by rw [setCell_len]; exact hR.cap, hR.max, by rw [setCell_len]; exact hR.len, hR.one, setCell_uni hR.uni hi o y, by rw [setCell_flat hR.uni y hi ho]; exact back', fun _ => ?_, by simp, by simp⟩
    · obtain ⟨cur, e, c1, c2, c3⟩ := hR.cells (by omega)
      exact ⟨cur, e, (hkeep _ hblk hblkm).trans c1, c2, c3⟩
    · refine List.nodup_append.2 ⟨n1, List.nodup_append.2 ⟨r4, n5, fun x hx y hy e => ?_⟩, fun x hx y hy e => ?_⟩
      · subst e; exact hSi2 x hx hy
      · subst e
        rcases List.mem_append.1 hy with hy | hy
        · exact hSi1 x hy hx
        · exact hS12 x hx hy
  have hgi : ∀ b, b ∈ ownOf gi (some (.row sz (setCell xs i o y) true false (ve + 1))) ↔ b = (G k).blk ∨ b ∈ S1 ∨ b ∈ Si ∨ b ∈ S2 := fun b => by simp [ownOf, gi, hc]
  have hgn : (ownOf gi (some (.row sz (setCell xs i o y) true false (ve + 1)))).Nodup := nodup_ownRow fun _ => by
    refine ⟨fun hb => ?_, (hrow fun _ => False).nodup rfl⟩
    have hb : (G k).blk ∈ S1 ++ (Si ++ S2) := hb
    simp only [List.mem_append] at hb
    rcases hb with hb | hb | hb
    · exact hnd.1 ((hsub _).2 (.inl hb))
    · exact hSiblk hb
    · exact hnd.1 ((hsub _).2 (.inr (.inr hb)))
  obtain ⟨us, p1, p2, p3⟩ := parts_tr r1 r2
  obtain ⟨L2, b1, b2, b3, b4⟩ := adEnts p1 r7 p2 key
  have hfree2 : ∀ x ∈ L2, s.heap x.1 = none := fun x hx => hfree (x.1, x.2.2) (by rw [← b1]; exact List.mem_map.2 ⟨x, hx, rfl⟩)
  have hkL : k ∉ L2.map (·.1) := fun hm => by
    obtain ⟨x, hx, e⟩ := List.mem_map.1 hm
    have := hfree2 x hx
    rw [e, hk] at this; cases this
  have hS'gi : ∀ b ∈ S', b ∉ ownOf gi (some (.row sz (setCell xs i o y) true false (ve + 1))) := fun b hb hm => by
    rcases (hgi b).1 hm with rfl | hm | hm | hm
    · exact hS'blk hb
    · exact hS'1 b hb hm
    · exact r6 b hb hm
    · exact hS'2 b hb hm
  have hkeys : (((k, gi, Ob.row sz (setCell xs i o y) true false (ve + 1)) :: L2).map (·.1)).Nodup := by
    rw [List.map_cons]; exact List.nodup_cons.2 ⟨hkL, b3.keys⟩
  obtain ⟨hrel, havr⟩ := h.steps ((k, gi, .row sz (setCell xs i o y) true false (ve + 1)) :: L2) hkeys hr (fun b hb hn => hkeep b hb fun hbS => by
      refine hn (k, gi, .row sz (setCell xs i o y) true false (ve + 1)) (by simp) ?_
      exact (hownk b).2 (.inr ((hsub b).2 (.inr (.inl hbS))))) (fun x hx o' ho' => by
      rcases List.mem_cons.1 hx with rfl | hx
      · have ho' : s.heap k = some o' := ho'
        rw [hk] at ho'; cases ho'
        exact .row _ _ _ _ _ _ _ _ _ (setCell_len ..) rfl rfl rfl (.inl (Nat.lt_succ_self _))
      · have := hfree2 x hx; rw [ho'] at this; cases this) (fun x hx b hb => by
      rcases List.mem_cons.1 hx with rfl | hx
      · have mine : ∀ {b}, b ∈ ownOf (G k) (s.heap k) → ∃ y' ∈ (k, gi, Ob.row sz (setCell xs i o y) true false (ve + 1)) :: L2, b ∈ ownOf (G y'.1) (s.heap y'.1) := fun {b} hb => ⟨_, List.mem_cons_self, hb⟩
        rcases (hgi b).1 hb with rfl | hm | hm | hm
        · exact .inl (mine ((hownk _).2 (.inl rfl)))
        · exact .inl (mine ((hownk _).2 (.inr ((hsub _).2 (.inl hm)))))
        · rcases r5 b hm with h1 | h1
          · exact .inr h1
          · exact .inl (mine ((hownk _).2 (.inr ((hsub _).2 (.inr (.inl h1))))))
        · exact .inl (mine ((hownk _).2 (.inr ((hsub _).2 (.inr (.inr hm))))))
      · rcases r8 b (b3.sub x hx b hb) with h1 | h1
        · exact .inr h1
        · exact .inl ⟨_, List.mem_cons_self, (hownk _).2 (.inr ((hsub _).2 (.inr (.inl h1))))⟩) (fun x hx => by
      rcases List.mem_cons.1 hx with rfl | hx
      · exact hgn
      · exact b3.nd x hx) (fun x hx y' hy b hb hb' => by
      rcases List.mem_cons.1 hx with rfl | hx <;> rcases List.mem_cons.1 hy with rfl | hy
      · rfl
      · exact absurd hb (hS'gi b (b3.sub y' hy b hb'))
      · exact absurd hb' (hS'gi b (b3.sub x hx b hb))
      · exact b3.dis x hx y' hy b hb hb') (fun x hx => by
      rcases List.mem_cons.1 hx with rfl | hx
      · exact hrow _
      · obtain ⟨sz', xs', ve', e, hR'⟩ := b3.row x hx
        rw [e]
        exact hR' _)
  have hmapO : ((k, gi, Ob.row sz (setCell xs i o y) true false (ve + 1)) :: L2).map (fun x => (x.1, x.2.2)) = (k, .row sz (setCell xs i o y) true false (ve + 1)) :: adObs key (partsD ret) := by rw [List.map_cons, b1]
  rw [hmapO] at hrel havr
  refine ⟨_, hrel, p3 (b4 _ _ _ (fun x hx => ?_) fun b hb hba => ?_)⟩
  · have hx' : x ∈ (k, gi, Ob.row sz (setCell xs i o y) true false (ve + 1)) :: L2 := by simp [hx]
    exact ⟨ovG_in hkeys hx', by rw [← hmapO]; exact ovr_in hkeys hx'⟩
  · rw [← hmapO] at hba
    rcases hba with ⟨j, hm⟩ | hF
    · by_cases hj : j ∈ ((k, gi, Ob.row sz (setCell xs i o y) true false (ve + 1)) :: L2).map (·.1)
      · obtain ⟨x, hx, rfl⟩ := List.mem_map.1 hj
        rw [ovG_in hkeys hx, ovr_in hkeys hx] at hm
        rcases List.mem_cons.1 hx with rfl | hx
        · exact absurd hm (hS'gi b hb)
        · exact ⟨x, hx, hm⟩
      · rw [ovG_out hj, ovr_out hj] at hm
        exfalso
        rcases r8 b hb with h1 | h1
        · have := h.own_lt ⟨j, hm⟩; omega
        · refine hj (List.mem_map.2 ⟨_, List.mem_cons_self, h.disj k j b ((hownk b).2 (.inr ((hsub b).2 (.inr (.inl h1))))) hm⟩)
    · exfalso
      rcases r8 b hb with h1 | h1
      · have := (h.ban b hF).1
        have := h.base
        omega
      · exact h.noF (k := k) ((hownk b).2 (.inr ((hsub b).2 (.inr (.inl h1))))) hF
end rel
end Go.Fs
