/- A part of the proof: an evaluator of the program's code over plain data, proved sound, and walks of the program's functions by it. No conditions beyond those in the theorems. -/
import Derived.Laws.BytesString
import Derived.Laws.Cover3
import Derived.Test.YtbgbnmghhmfihaaGreatLawMp5
set_option linter.unusedVariables false
set_option linter.unusedSimpArgs false
set_option linter.constructorNameAsVariable false
set_option linter.unusedSectionVars false
set_option linter.defProp false
set_option linter.unusedVariables false
set_option linter.constructorNameAsVariable false
namespace Go.Fs
open Go.RowKit

/-! ### a list that lies in an element of one's own row, handed over to be written -/
theorem TrL.at {w : World} {own : Bool} : ∀ {vs : List Value} {ds : List D} {S : List Nat}, TrL w own vs ds S → ∀ {j : Nat} {d : D}, ds[j]? = some d → ∃ v S1 Sm S2, vs[j]? = some v ∧ Tr w own v d Sm ∧ S = S1 ++ (Sm ++ S2) ∧
    ∀ {w' : World} {d' : D} {Si : List Nat}, Tr w' own v d' Si → (∀ b, b ∈ S1 ∨ b ∈ S2 → w'.heap[b]? = w.heap[b]?) → TrL w' own vs (ds.set j d') (S1 ++ (Si ++ S2))
  | _, _, _, .nil, j, d, h => by simp at h
  | _, _, _, .cons v d0 S vs ds Ss h hs, 0, d, e => by
    obtain rfl : d0 = d := by simpa using e
    refine ⟨v, [], S, Ss, rfl, h, rfl, fun {w' d' Si} h' hk => ?_⟩
    show TrL w' own (v :: vs) (d' :: ds) (Si ++ Ss)
    exact .cons _ _ _ _ _ _ h' (hs.keep fun b hb => hk b (.inr hb))
  | _, _, _, .cons v d0 S vs ds Ss h hs, j + 1, d, e => by
    obtain ⟨u, S1, Sm, S2, e1, e2, e3, e4⟩ := hs.at (j := j) (by simpa using e)
    refine ⟨u, S ++ S1, Sm, S2, by simpa using e1, e2, by rw [e3]; simp, fun h' hk => ?_⟩
    have := TrL.cons v d0 S vs _ _ (h.keep fun b hb => hk b (.inl (by simp [hb]))) (e4 h' fun b hb => hk b (hb.imp (fun hb => by simp [hb]) id))
    rw [List.append_assoc]
    exact this

theorem cell_get : ∀ {xs : List (List D)} {sz : Nat} (h : ∀ x ∈ xs, x.length = sz) {i o : Nat}, i < xs.length → o < sz → xs.flatten[i * sz + o]? = some ((xs.getD i []).getD o .u)
  | [], _, _, i, o, hi, _ => by simp at hi
  | x :: xs, sz, h, 0, o, hi, ho => by
    have := h x (by simp)
    simp [List.getElem?_append_left (show o < x.length by omega), List.getElem?_eq_getElem (show o < x.length by omega)]
  | x :: xs, sz, h, i + 1, o, hi, ho => by
    have hx := h x (by simp)
    have := cell_get (xs := xs) (fun y hy => h y (by simp [hy])) (i := i) (by simpa using hi) ho
    rw [List.flatten_cons, List.getElem?_append_right (by rw [hx, Nat.succ_mul]; omega)]
    have e : (i + 1) * sz + o - x.length = i * sz + o := by rw [hx, Nat.succ_mul]; omega
    rw [e, this]
    simp

def setCell (xs : List (List D)) (i o : Nat) (y : D) : List (List D) := xs.set i ((xs.getD i []).set o y)

theorem setCell_flat : ∀ {xs : List (List D)} {sz : Nat} (h : ∀ x ∈ xs, x.length = sz) {i o : Nat} (y : D), i < xs.length → o < sz → (setCell xs i o y).flatten = xs.flatten.set (i * sz + o) y
  | [], _, _, i, o, y, hi, _ => by simp at hi
  | x :: xs, sz, h, 0, o, y, hi, ho => by
    have := h x (by simp)
    simp [setCell, List.set_append_left o y (show o < x.length by omega)]
  | x :: xs, sz, h, i + 1, o, y, hi, ho => by
    have hx := h x (by simp)
    have := setCell_flat (xs := xs) (fun y hy => h y (by simp [hy])) (i := i) y (by simpa using hi) ho
    rw [List.flatten_cons, List.set_append_right _ _ (by rw [hx, Nat.succ_mul]; omega)]
    have e : (i + 1) * sz + o - x.length = i * sz + o := by rw [hx, Nat.succ_mul]; omega
    rw [e, ← this]
    simp [setCell]

theorem setCell_len (xs : List (List D)) (i o : Nat) (y : D) : (setCell xs i o y).length = xs.length := by simp [setCell]
theorem setCell_uni {xs : List (List D)} {sz : Nat} (h : ∀ x ∈ xs, x.length = sz) {i : Nat} (hi : i < xs.length) (o : Nat) (y : D) : ∀ x ∈ setCell xs i o y, x.length = sz := by
  intro x hx
  rcases List.mem_or_eq_of_mem_set hx with hx | rfl
  · exact h x hx
  · rw [List.length_set]
    have : xs.getD i [] = xs[i] := by simp [List.getElem?_eq_getElem hi]
    rw [this]
    exact h _ (List.getElem_mem hi)

section rel
variable {P : Program} {T : Tab} {B : Ctx} {G : Nat → GI} {s : St} {a : Act} {w w' : World}

theorem call_nest (h : RelG B G s a w) {f : FuncId} {k ve i o sz : Nat} {xs : List (List D)} (hk : s.heap k = some (.row sz xs true false ve)) (hi : i < xs.length) (ho : o < sz)
    {v : Value} (hv : AVR w G s.heap (Ban B.F G s.heap) v (.m k ve i o)) {rest : List AV} {vs : List Value} (hrest : AVRL w G s.heap (Ban B.F G s.heap) vs rest) {ds : List D} (hb : borL s.heap rest = some ds)
    (hdis : k ∉ rest.flatMap (keyA s.heap)) {ret y : D} (hf : FnOK P f (.io ((xs.getD i []).getD o .u) :: ds.map .d) { ret := ret, io := some y })
    {key : Nat} (hfree : ∀ x ∈ adObs key (partsD ret), s.heap x.1 = none) :
    Does P f (v :: vs).toArray w fun u w' => ∃ G', RelG B G' { s with heap := ovr ((k, .row sz (setCell xs i o y) true false (ve + 1)) :: adObs key (partsD ret)) s.heap } a w' ∧
      AVR w' G' (ovr ((k, .row sz (setCell xs i o y) true false (ve + 1)) :: adObs key (partsD ret)) s.heap) (Ban B.F G' (ovr ((k, .row sz (setCell xs i o y) true false (ve + 1)) :: adObs key (partsD ret)) s.heap)) u (retAV ret (adCells key (partsD ret))) := by
  have hR : RowR w (Ban B.F G s.heap) (G k) sz xs true false := h.obj k _ hk
  have hc : (G k).cap ≠ 0 := by have := hR.cap; omega
  have hownk : ∀ b, b ∈ ownOf (G k) (s.heap k) ↔ b = (G k).blk ∨ b ∈ (G k).sub := fun b => by rw [hk]; simp [ownOf, hc]
  have hnd := h.nodup k
  rw [hk] at hnd
  have hnd : (G k).blk ∉ (G k).sub ∧ (G k).sub.Nodup := by simpa [ownOf, hc] using hnd
  -- the list handed over
  have hcell := cell_get hR.uni hi ho
  obtain ⟨v', S1, Sm, S2, e1, t1, eS, back⟩ := hR.tr.at hcell
  obtain ⟨rfl, h1⟩ : v' = v ∧ v.oneCell' = true := by
    cases hv with
    | m _ _ _ sz' xs' dp fz _ _ z ys hk' hj hv' h1 =>
      rw [hk] at hk'; cases hk'
      rw [e1] at hv'
      exact ⟨Option.some.inj hv', h1⟩
    | mo _ _ _ sz' xs' dp fz _ ve' _ hk' hlt => rw [hk] at hk'; cases hk'; omega
    | md _ _ _ _ _ hk' => rw [hk] at hk'; cases hk'
  have hsub : ∀ b, b ∈ (G k).sub ↔ b ∈ S1 ∨ b ∈ Sm ∨ b ∈ S2 := fun b => by rw [eS]; simp
  have hnS := hnd.2
  rw [eS] at hnS
  obtain ⟨n1, n2, n3⟩ := List.nodup_append.1 hnS
  obtain ⟨n4, n5, n6⟩ := List.nodup_append.1 n2
  obtain ⟨Sd, u1, u2⟩ := borL_ok h hrest hb
  refine (hf w _ Sd (Sm ++ []) (.io v' _ Sm vs _ Sd [] t1 (flat_one h1) u1) (by simpa using n4) fun b hb hbd => ?_).mono fun u w' hp => ?_
  · have hb : b ∈ Sm := by simpa using hb
    exact hdis ((u2 b hbd).2 k ((hownk b).2 (.inr ((hsub b).2 (.inr (.inl hb))))))
  obtain ⟨hr, hkeep, S', Si, r1, r2, r3, r4, r5, r6, r7, _⟩ := hp
  obtain ⟨r7, r8⟩ := r7 rfl
  obtain ⟨v1, vs1, e, ht⟩ := r3
  simp only [List.cons.injEq] at e
  obtain ⟨rfl, rfl⟩ := e
  simp only [List.append_nil] at hkeep r5 r8
  have hlt : ∀ b, b ∈ ownOf (G k) (s.heap k) → b < w.heap.size := fun b hb => h.own_lt ⟨k, hb⟩
  have hblk : (G k).blk < w.heap.size := hlt _ ((hownk _).2 (.inl rfl))
  have hSub : ∀ b ∈ (G k).sub, b < w.heap.size := fun b hb => hlt _ ((hownk _).2 (.inr hb))
  have hblkm : (G k).blk ∉ Sm := fun hb => hnd.1 ((hsub _).2 (.inr (.inl hb)))
  have hS1m : ∀ b ∈ S1, b ∉ Sm := fun b hb hb' => n3 b hb b (by simp [hb']) rfl
  have hS2m : ∀ b ∈ S2, b ∉ Sm := fun b hb hb' => n6 b hb' b hb rfl
  have hS12 : ∀ b ∈ S1, b ∉ S2 := fun b hb hb' => n3 b hb b (by simp [hb']) rfl
  have hcellsd := cells_tr ht (flat_one h1)
  have back' : TrL w' true (G k).vs (xs.flatten.set (i * sz + o) y) (S1 ++ (Si ++ S2)) := back ht fun b hb => by
    rcases hb with hb | hb
    · exact hkeep b (hSub b ((hsub b).2 (.inl hb))) (hS1m b hb)
    · exact hkeep b (hSub b ((hsub b).2 (.inr (.inr hb)))) (hS2m b hb)
  have hSi1 : ∀ b ∈ Si, b ∉ S1 := fun b hb hb' => (r5 b hb).elim (fun h1 => by have := hSub b ((hsub b).2 (.inl hb')); omega) fun h1 => hS1m b hb' h1
  have hSi2 : ∀ b ∈ Si, b ∉ S2 := fun b hb hb' => (r5 b hb).elim (fun h1 => by have := hSub b ((hsub b).2 (.inr (.inr hb'))); omega) fun h1 => hS2m b hb' h1
  have hSiblk : (G k).blk ∉ Si := fun hb => (r5 _ hb).elim (fun h1 => by omega) hblkm
  have hS'1 : ∀ b ∈ S', b ∉ S1 := fun b hb hb' => (r8 b hb).elim (fun h1 => by have := hSub b ((hsub b).2 (.inl hb')); omega) fun h1 => hS1m b hb' h1
  have hS'2 : ∀ b ∈ S', b ∉ S2 := fun b hb hb' => (r8 b hb).elim (fun h1 => by have := hSub b ((hsub b).2 (.inr (.inr hb'))); omega) fun h1 => hS2m b hb' h1
  have hS'blk : (G k).blk ∉ S' := fun hb => (r8 _ hb).elim (fun h1 => by omega) hblkm
  let gi : GI := { (G k) with sub := S1 ++ (Si ++ S2) }
  have hrow : ∀ Av, RowR w' Av gi sz (setCell xs i o y) true false := fun Av => by
    refine ⟨fun _ => ?_, by rw [setCell_len]; exact hR.cap, hR.max, by rw [setCell_len]; exact hR.len, hR.one, setCell_uni hR.uni hi o y, by rw [setCell_flat hR.uni y hi ho]; exact back', fun _ => ?_, by simp, by simp⟩
    · obtain ⟨cur, e, c1, c2, c3⟩ := hR.cells (by omega)
      exact ⟨cur, e, (hkeep _ hblk hblkm).trans c1, c2, c3⟩
    · refine List.nodup_append.2 ⟨n1, List.nodup_append.2 ⟨r4, n5, fun x hx y hy e => ?_⟩, fun x hx y hy e => ?_⟩
      · subst e; exact hSi2 x hx hy
      · subst e
        rcases List.mem_append.1 hy with hy | hy
        · exact hSi1 x hy hx
        · exact hS12 x hx hy
  have hgi : ∀ b, b ∈ ownOf gi (some (.row sz (setCell xs i o y) true false (ve + 1))) ↔ b = (G k).blk ∨ b ∈ S1 ∨ b ∈ Si ∨ b ∈ S2 := fun b => by simp [ownOf, gi, hc]
  have hgn : (ownOf gi (some (.row sz (setCell xs i o y) true false (ve + 1)))).Nodup := nodup_ownRow fun _ => by
    refine ⟨fun hb => ?_, (hrow fun _ => False).nodup rfl⟩
    have hb : (G k).blk ∈ S1 ++ (Si ++ S2) := hb
    simp only [List.mem_append] at hb
    rcases hb with hb | hb | hb
    · exact hnd.1 ((hsub _).2 (.inl hb))
    · exact hSiblk hb
    · exact hnd.1 ((hsub _).2 (.inr (.inr hb)))
  obtain ⟨us, p1, p2, p3⟩ := parts_tr r1 r2
  obtain ⟨L2, b1, b2, b3, b4⟩ := adEnts p1 r7 p2 key
  have hfree2 : ∀ x ∈ L2, s.heap x.1 = none := fun x hx => hfree (x.1, x.2.2) (by rw [← b1]; exact List.mem_map.2 ⟨x, hx, rfl⟩)
  have hkL : k ∉ L2.map (·.1) := fun hm => by
    obtain ⟨x, hx, e⟩ := List.mem_map.1 hm
    have := hfree2 x hx
    rw [e, hk] at this; cases this
  have hS'gi : ∀ b ∈ S', b ∉ ownOf gi (some (.row sz (setCell xs i o y) true false (ve + 1))) := fun b hb hm => by
    rcases (hgi b).1 hm with rfl | hm | hm | hm
    · exact hS'blk hb
    · exact hS'1 b hb hm
    · exact r6 b hb hm
    · exact hS'2 b hb hm
  have hkeys : (((k, gi, Ob.row sz (setCell xs i o y) true false (ve + 1)) :: L2).map (·.1)).Nodup := by
    rw [List.map_cons]; exact List.nodup_cons.2 ⟨hkL, b3.keys⟩
  obtain ⟨hrel, havr⟩ := h.steps ((k, gi, .row sz (setCell xs i o y) true false (ve + 1)) :: L2) hkeys hr (fun b hb hn => hkeep b hb fun hbS => by
      refine hn (k, gi, .row sz (setCell xs i o y) true false (ve + 1)) (by simp) ?_
      exact (hownk b).2 (.inr ((hsub b).2 (.inr (.inl hbS))))) (fun x hx o' ho' => by
      rcases List.mem_cons.1 hx with rfl | hx
      · have ho' : s.heap k = some o' := ho'
        rw [hk] at ho'; cases ho'
        exact .row _ _ _ _ _ _ _ _ _ (setCell_len ..) rfl rfl rfl (.inl (Nat.lt_succ_self _))
      · have := hfree2 x hx; rw [ho'] at this; cases this) (fun x hx b hb => by
      rcases List.mem_cons.1 hx with rfl | hx
      · have mine : ∀ {b}, b ∈ ownOf (G k) (s.heap k) → ∃ y' ∈ (k, gi, Ob.row sz (setCell xs i o y) true false (ve + 1)) :: L2, b ∈ ownOf (G y'.1) (s.heap y'.1) := fun {b} hb => ⟨_, List.mem_cons_self, hb⟩
        rcases (hgi b).1 hb with rfl | hm | hm | hm
        · exact .inl (mine ((hownk _).2 (.inl rfl)))
        · exact .inl (mine ((hownk _).2 (.inr ((hsub _).2 (.inl hm)))))
        · rcases r5 b hm with h1 | h1
          · exact .inr h1
          · exact .inl (mine ((hownk _).2 (.inr ((hsub _).2 (.inr (.inl h1))))))
        · exact .inl (mine ((hownk _).2 (.inr ((hsub _).2 (.inr (.inr hm))))))
      · rcases r8 b (b3.sub x hx b hb) with h1 | h1
        · exact .inr h1
        · exact .inl ⟨_, List.mem_cons_self, (hownk _).2 (.inr ((hsub _).2 (.inr (.inl h1))))⟩) (fun x hx => by
      rcases List.mem_cons.1 hx with rfl | hx
      · exact hgn
      · exact b3.nd x hx) (fun x hx y' hy b hb hb' => by
      rcases List.mem_cons.1 hx with rfl | hx <;> rcases List.mem_cons.1 hy with rfl | hy
      · rfl
      · exact absurd hb (hS'gi b (b3.sub y' hy b hb'))
      · exact absurd hb' (hS'gi b (b3.sub x hx b hb))
      · exact b3.dis x hx y' hy b hb hb') (fun x hx => by
      rcases List.mem_cons.1 hx with rfl | hx
      · exact hrow _
      · obtain ⟨sz', xs', ve', e, hR'⟩ := b3.row x hx
        rw [e]
        exact hR' _)
  have hmapO : ((k, gi, Ob.row sz (setCell xs i o y) true false (ve + 1)) :: L2).map (fun x => (x.1, x.2.2)) = (k, .row sz (setCell xs i o y) true false (ve + 1)) :: adObs key (partsD ret) := by rw [List.map_cons, b1]
  rw [hmapO] at hrel havr
  refine ⟨_, hrel, p3 (b4 _ _ _ (fun x hx => ?_) fun b hb hba => ?_)⟩
  · have hx' : x ∈ (k, gi, Ob.row sz (setCell xs i o y) true false (ve + 1)) :: L2 := by simp [hx]
    exact ⟨ovG_in hkeys hx', by rw [← hmapO]; exact ovr_in hkeys hx'⟩
  · rw [← hmapO] at hba
    rcases hba with ⟨j, hm⟩ | hF
    · by_cases hj : j ∈ ((k, gi, Ob.row sz (setCell xs i o y) true false (ve + 1)) :: L2).map (·.1)
      · obtain ⟨x, hx, rfl⟩ := List.mem_map.1 hj
        rw [ovG_in hkeys hx, ovr_in hkeys hx] at hm
        rcases List.mem_cons.1 hx with rfl | hx
        · exact absurd hm (hS'gi b hb)
        · exact ⟨x, hx, hm⟩
      · rw [ovG_out hj, ovr_out hj] at hm
        exfalso
        rcases r8 b hb with h1 | h1
        · have := h.own_lt ⟨j, hm⟩; omega
        · refine hj (List.mem_map.2 ⟨_, List.mem_cons_self, h.disj k j b ((hownk b).2 (.inr ((hsub b).2 (.inr (.inl h1))))) hm⟩)
    · exfalso
      rcases r8 b hb with h1 | h1
      · have := (h.ban b hF).1
        have := h.base
        omega
      · exact h.noF (k := k) ((hownk b).2 (.inr ((hsub b).2 (.inr (.inl h1))))) hF
end rel
end Go.Fs

set_option linter.unusedVariables false
set_option linter.constructorNameAsVariable false
namespace Go.Fs
open Go.RowKit

/-! ### what one owns may be taken apart at the end; what is handed over may be used up -/
def moveM (H : Nat → Option Ob) : AV → Option (D × Bool × (Nat → Option Ob))
  | .m k ve i o => match H k with
    | some (.row sz xs true false ve') => if ve' = ve ∧ o < sz then (xs[i]?).bind fun cs => (cs[o]?).map fun x => (x, true, upd H k (some .dead)) else none
    | _ => none
  | av => moveC H av
def moveMs (H : Nat → Option Ob) : List AV → Option (List D × Bool × (Nat → Option Ob))
  | [] => some ([], true, H)
  | av :: avs => (moveM H av).bind fun x => (moveMs x.2.2 avs).bind fun y => some (x.1 :: y.1, x.2.1 && y.2.1, y.2.2)
def moveMV (H : Nat → Option Ob) : AV → Option (D × Bool × (Nat → Option Ob))
  | .g cs => (moveMs H cs).map fun m => (.g m.1, m.2.1, m.2.2)
  | av => moveM H av
def moveMVs (H : Nat → Option Ob) : List AV → Option (List D × Bool × (Nat → Option Ob))
  | [] => some ([], true, H)
  | av :: avs => (moveMV H av).bind fun x => (moveMVs x.2.2 avs).bind fun y => some (x.1 :: y.1, x.2.1 && y.2.1, y.2.2)
def outM (T : Tab) (s : St) (rs : List ResultVar) : Option Ret := (resL T s rs).bind fun avs => (moveMVs s.heap avs).bind fun y => some { ret := packD y.1, deep := y.2.1, io := none }

def EndM (T : Tab) (B : Ctx) (rs : List ResultVar) (out : Ret) : Exit → Act → World → Prop := fun e a w => (e = .normal ∨ e = .ret) ∧ ∃ G s, RelG B G s a w ∧ outM T s rs = some out
section rel
variable {P : Program} {T : Tab} {B : Ctx} {G : Nat → GI} {s : St} {a : Act} {w w' : World}

theorem moveM_ok (h : RelG B G s a w) {v : Value} {av : AV} (hv : AVR w G s.heap (Ban B.F G s.heap) v av) {d : D} {f : Bool} {H' : Nat → Option Ob} (hm : moveM s.heap av = some (d, f, H')) :
    Moved B G s a w H' ∧ ∃ S, Tr w f v d S ∧ v.oneCell' = true ∧ (∀ b ∈ S, ¬ Ban B.F G H' b) ∧ (f = true → S.Nodup ∧ ∀ b ∈ S, Own G s.heap b) := by
  unfold moveM at hm
  split at hm
  case h_2 => exact moveC_ok h hv hm
  rename_i k ve i o
  split at hm
  case h_2 => cases hm
  rename_i sz xs ve' hk
  split at hm
  case isFalse => cases hm
  rename_i hc0
  obtain ⟨rfl, ho⟩ := hc0
  obtain ⟨cs, e8, hm⟩ := Option.bind_eq_some_iff.1 hm
  obtain ⟨x, e9, hm⟩ := Option.map_eq_some_iff.1 hm
  simp only [Prod.mk.injEq] at hm
  obtain ⟨rfl, rfl, rfl⟩ := hm
  have hi : i < xs.length := (List.getElem?_eq_some_iff.1 e8).1
  have e5 : xs.getD i [] = cs := by rw [List.getD_eq_getElem?_getD, e8]; rfl
  have e6 : cs.getD o .u = x := by rw [List.getD_eq_getElem?_getD, e9]; rfl
  have hR : RowR w (Ban B.F G s.heap) (G k) sz xs true false := h.obj k _ hk
  have hc : (G k).cap ≠ 0 := by have := hR.cap; omega
  have hownk : ∀ b, b ∈ ownOf (G k) (s.heap k) ↔ b = (G k).blk ∨ b ∈ (G k).sub := fun b => by rw [hk]; simp [ownOf, hc]
  have hnd := h.nodup k
  rw [hk] at hnd
  have hnd : (G k).blk ∉ (G k).sub ∧ (G k).sub.Nodup := by simpa [ownOf, hc] using hnd
  have hcell := cell_get hR.uni hi ho
  rw [e5, e6] at hcell
  obtain ⟨v', S1, Sm, S2, e1, t1, eS, _⟩ := hR.tr.at hcell
  obtain ⟨rfl, h1⟩ : v' = v ∧ v.oneCell' = true := by
    cases hv with
    | m _ _ _ sz' xs' dp fz _ _ z ys hk' hj hv' h1 =>
      rw [hk] at hk'; cases hk'
      rw [e1] at hv'
      exact ⟨Option.some.inj hv', h1⟩
    | mo _ _ _ sz' xs' dp fz _ ve' _ hk' hlt => rw [hk] at hk'; cases hk'; omega
    | md _ _ _ _ _ hk' => rw [hk] at hk'; cases hk'
  have hnS := hnd.2
  rw [eS] at hnS
  obtain ⟨n1, n2, n3⟩ := List.nodup_append.1 hnS
  obtain ⟨n4, n5, n6⟩ := List.nodup_append.1 n2
  have hmem : ∀ b ∈ Sm, b ∈ ownOf (G k) (s.heap k) := fun b hb => (hownk b).2 (.inr (by rw [eS]; simp [hb]))
  have hne : s.heap k ≠ none := by rw [hk]; simp
  refine ⟨⟨h.kill k hne, fun hv => hv.kill k hne, fun b hb => (own_kill hb).1, fun i => by
    by_cases e : i = k
    · subst e; exact .inr ⟨hne, upd_same ..⟩
    · exact .inl (upd_ne _ _ e)⟩, Sm, t1, h1, fun b hb hn => ?_, fun _ => ⟨n4, fun b hb => ⟨k, hmem b hb⟩⟩⟩
  rcases hn with hn | hn
  · obtain ⟨_, i', hi', hm'⟩ := own_kill hn
    exact hi' (h.disj i' k b hm' (hmem b hb))
  · exact h.noF (hmem b hb) hn

theorem moveMs_ok : ∀ {s : St} (h : RelG B G s a w) {vs : List Value} {avs : List AV} (hv : AVRL w G s.heap (Ban B.F G s.heap) vs avs) {ds : List D} {f : Bool} {H' : Nat → Option Ob} (hm : moveMs s.heap avs = some (ds, f, H')),
    Moved B G s a w H' ∧ ∃ S, TrL w f vs ds S ∧ (∀ v ∈ vs, v.oneCell' = true) ∧ (∀ b ∈ S, ¬ Ban B.F G H' b) ∧ (f = true → S.Nodup ∧ ∀ b ∈ S, Own G s.heap b) := by
  intro s h vs avs hv
  induction avs generalizing s vs with
  | nil =>
    intro ds f H' hm
    cases hv
    simp only [moveMs, Option.some.injEq, Prod.mk.injEq] at hm
    obtain ⟨rfl, rfl, rfl⟩ := hm
    exact ⟨.refl h, [], .nil, by simp, by simp, fun _ => ⟨List.nodup_nil, by simp⟩⟩
  | cons av avs ih =>
    intro ds f H' hm
    cases hv with
    | cons v _ vs _ hv hvs =>
      simp only [moveMs, Option.bind_eq_some_iff] at hm
      obtain ⟨⟨d1, f1, H1⟩, m1, ⟨d2, f2, H2⟩, m2, hm⟩ := hm
      simp only [Option.some.injEq, Prod.mk.injEq] at hm
      obtain ⟨rfl, rfl, rfl⟩ := hm
      obtain ⟨M1, S1, t1, o1, n1, w1⟩ := moveM_ok h hv m1
      have hvs1 : AVRL w G H1 (Ban B.F G H1) vs avs := by
        have := M1.avr (.t vs.toArray avs (by simpa using hvs))
        cases this with
        | t _ _ h => simpa using h
      obtain ⟨M2, S2, t2, o2, n2, w2⟩ := ih M1.rel hvs1 m2
      refine ⟨M1.trans M2, S1 ++ S2, ?_, ?_, ?_, ?_⟩
      · by_cases e : (f1 && f2) = true
        · rw [e]
          simp at e
          rw [e.1] at t1
          rw [e.2] at t2
          exact .cons _ _ _ _ _ _ t1 t2
        · rw [Bool.not_eq_true] at e
          rw [e]
          exact .cons _ _ _ _ _ _ t1.shared t2.shared
      · intro u hu
        rcases List.mem_cons.1 hu with rfl | hu
        · exact o1
        · exact o2 u hu
      · intro b hb hn
        rcases List.mem_append.1 hb with hb | hb
        · exact n1 b hb (M2.ban hn)
        · exact n2 b hb hn
      · intro e
        simp at e
        obtain ⟨a1, a2⟩ := w1 e.1
        obtain ⟨b1, b2⟩ := w2 e.2
        refine ⟨List.nodup_append.2 ⟨a1, b1, fun x hx y hy e => ?_⟩, fun b hb => ?_⟩
        · subst e
          exact n1 x hx (.inl (b2 x hy))
        · rcases List.mem_append.1 hb with hb | hb
          · exact a2 b hb
          · exact M1.own b (b2 b hb)
theorem moveMV_ok (h : RelG B G s a w) {v : Value} {av : AV} (hv : AVR w G s.heap (Ban B.F G s.heap) v av) {d : D} {f : Bool} {H' : Nat → Option Ob} (hm : moveMV s.heap av = some (d, f, H')) :
    Moved B G s a w H' ∧ ∃ S, Tr w f v d S ∧ Flat v ∧ (∀ b ∈ S, ¬ Ban B.F G H' b) ∧ (f = true → S.Nodup ∧ ∀ b ∈ S, Own G s.heap b) := by
  cases hav : av with
  | g cs =>
    subst hav
    simp only [moveMV, Option.map_eq_some_iff, Prod.mk.injEq] at hm
    obtain ⟨⟨ds, f', H1⟩, m1, rfl, rfl, rfl⟩ := hm
    cases hv with
    | g vs _ hvs =>
      obtain ⟨M, S, t, o, n, w1⟩ := moveMs_ok h hvs m1
      exact ⟨M, S, .g _ _ _ t, o, n, w1⟩
  | _ =>
    subst hav
    obtain ⟨M, S, t, o, n, w1⟩ := moveM_ok h hv hm
    exact ⟨M, S, t, flat_one o, n, w1⟩

theorem moveMVs_ok : ∀ {s : St} (h : RelG B G s a w) {vs : List Value} {avs : List AV} (hv : AVRL w G s.heap (Ban B.F G s.heap) vs avs) {ds : List D} {f : Bool} {H' : Nat → Option Ob} (hm : moveMVs s.heap avs = some (ds, f, H')),
    Moved B G s a w H' ∧ ∃ S, TrL w f vs ds S ∧ (∀ v ∈ vs, Flat v) ∧ (∀ b ∈ S, ¬ Ban B.F G H' b) ∧ (f = true → S.Nodup ∧ ∀ b ∈ S, Own G s.heap b)
  | s, h, _, _, .nil, ds, f, H', hm => by
    simp only [moveMVs, Option.some.injEq, Prod.mk.injEq] at hm
    obtain ⟨rfl, rfl, rfl⟩ := hm
    exact ⟨.refl h, [], .nil, by simp, by simp, fun _ => ⟨List.nodup_nil, by simp⟩⟩
  | s, h, _, _, .cons v av vs avs hv hvs, ds, f, H', hm => by
    simp only [moveMVs, Option.bind_eq_some_iff] at hm
    obtain ⟨⟨d1, f1, H1⟩, m1, ⟨d2, f2, H2⟩, m2, hm⟩ := hm
    simp only [Option.some.injEq, Prod.mk.injEq] at hm
    obtain ⟨rfl, rfl, rfl⟩ := hm
    obtain ⟨M1, S1, t1, o1, n1, w1⟩ := moveMV_ok h hv m1
    obtain ⟨M2, S2, t2, o2, n2, w2⟩ := moveMVs_ok M1.rel (M1.avrl hvs) m2
    refine ⟨M1.trans M2, S1 ++ S2, ?_, ?_, ?_, ?_⟩
    · by_cases e : (f1 && f2) = true
      · rw [e]
        simp at e
        rw [e.1] at t1
        rw [e.2] at t2
        exact .cons _ _ _ _ _ _ t1 t2
      · rw [Bool.not_eq_true] at e
        rw [e]
        exact .cons _ _ _ _ _ _ t1.shared t2.shared
    · intro u hu
      rcases List.mem_cons.1 hu with rfl | hu
      · exact o1
      · exact o2 u hu
    · intro b hb hn
      rcases List.mem_append.1 hb with hb | hb
      · exact n1 b hb (M2.ban hn)
      · exact n2 b hb hn
    · intro e
      simp at e
      obtain ⟨a1, a2⟩ := w1 e.1
      obtain ⟨b1, b2⟩ := w2 e.2
      refine ⟨List.nodup_append.2 ⟨a1, b1, fun x hx y hy e => ?_⟩, fun b hb => ?_⟩
      · subst e
        exact n1 x hx (.inl (b2 x hy))
      · rcases List.mem_append.1 hb with hb | hb
        · exact a2 b hb
        · exact M1.own b (b2 b hb)
theorem leave_okM (hT : T.ok P = true) (h : RelG B G s a w') {fn : Func} {rs : List ResultVar} (hr : fn.results.toList = rs) {out : Ret} (ho : outM T s rs = some out) {args : List Value} {Sd M : List Nat}
    (hbase : B.base = w.heap.size) (hw0 : B.w0 = w) (hF : ∀ b, B.F b ↔ (b < w.heap.size ∧ b ∉ Sd ∧ b ∉ M)) (hM : ∀ b, B.M b ↔ b ∈ M) :
    ∃ v, (results fn a.tmps).run P w' = .ok v w' ∧ Post w args Sd M out v w' := by
  simp only [outM, Option.bind_eq_some_iff] at ho
  obtain ⟨avs, m0, ⟨ds, f, H2⟩, m2, ho⟩ := ho
  obtain ⟨us, v, hv, hus, hvs⟩ := run_results hT h (hr ▸ m0)
  refine ⟨v, hv, ?_⟩
  obtain ⟨M2, S, t2, o2, n2, w2⟩ := moveMVs_ok h hus m2
  have hlen : ds.length = us.length := by rw [← t2.length]
  -- the answer
  have hret : ∀ {fl : Bool} {S : List Nat}, TrL w' fl us ds S → ∃ S', Tr w' fl v (packD ds) S' ∧ (∀ b, b ∈ S' ↔ b ∈ S) ∧ (S.Nodup → S'.Nodup) := by
    intro fl S ht
    rcases hvs with ⟨t, rfl, rfl⟩ | ⟨h1, rfl⟩
    · cases ht with
      | cons _ d S1 _ ds1 S2 ht hts =>
        cases hts
        exact ⟨S1, ht, by simp, by simp⟩
    · have : packD ds = .t ds := by
        match ds, hlen with
        | [], _ => rfl
        | [d], hl => exact absurd hl.symm h1
        | _ :: _ :: _, _ => rfl
      rw [this]
      exact ⟨S, .t _ _ _ (by simpa using ht), fun _ => Iff.rfl, fun h => h⟩
  have hfl : RetFlat v := by
    rcases hvs with ⟨t, rfl, rfl⟩ | ⟨_, rfl⟩
    · exact .inl (o2 _ (by simp))
    · exact .inr ⟨_, rfl, by simpa using o2⟩
  have hge : ∀ b, Own G s.heap b → w.heap.size ≤ b ∨ b ∈ M := fun b ⟨k, hk⟩ => by
    have := h.ge k b hk
    rw [hbase] at this
    exact this.imp id (hM b).1
  have hrest : Rest w w' := hw0 ▸ h.rest
  have hkeep : ∀ b, b < w.heap.size → b ∉ M → w'.heap[b]? = w.heap[b]? := fun b hb hn => by
    rw [← hw0]
    exact h.below b (hbase ▸ hb) fun hm => hn ((hM b).1 hm)
  have hnF : ∀ {b : Nat}, ¬ B.F b → w.heap.size ≤ b ∨ b ∈ Sd ∨ b ∈ M := fun {b} hn => by
    rcases Nat.lt_or_ge b w.heap.size with h1 | h1
    · by_cases h2 : b ∈ Sd
      · exact .inr (.inl h2)
      · by_cases h3 : b ∈ M
        · exact .inr (.inr h3)
        · exact absurd ((hF b).2 ⟨h1, h2, h3⟩) hn
    · exact .inl h1
  simp only [Option.some.injEq] at ho
  subst ho
  obtain ⟨S', r1, r2, r3⟩ := hret t2
  refine ⟨hrest, hkeep, S', [], r1, hfl, rfl, List.nodup_nil, by simp, by simp, fun hf => ?_, fun b hb => hnF fun hf => n2 b ((r2 b).1 hb) (.inr hf)⟩
  obtain ⟨q1, q2⟩ := w2 hf
  exact ⟨r3 q1, fun b hb => hge b (q2 b ((r2 b).1 hb))⟩

theorem fnOK_ofM (hT : T.ok P = true) {f : FuncId} {fn : Func} {c : Code} (hf : P.funcs[f]? = some fn) (hb : fn.body = some c) (hnm : (fn.name == "runtime.NumGoroutine") = false) {rs : List ResultVar} (hres : fn.results.toList = rs)
    {ins : List In} (hi : insOK ins = true) (hn : ins.length ≤ fn.ntmps) {out : Ret} (hbody : ∀ B G a w, RelG B G (inSt fn.ntmps ins) a w → B.aa = .x → c.wp P (EndM T B rs out) a w) : FnOK P f ins out := by
  intro w args Sd M ha hM hd
  obtain ⟨B, G, hrel, h1, h2, h3, h4, h5, h6⟩ := enter_rel hi ha hM hd hn
  obtain ⟨b1, b2, b3, b4, b5, b6, b7, b8, b9, b10, b11, b12⟩ := hrel
  have hrel' : RelG { base := B.base, w0 := B.w0, F := B.F, M := B.M, av := undef, aa := .x } G (inSt fn.ntmps ins) { tmps := args.toArray ++ Array.replicate (fn.ntmps - args.toArray.size) undef, defers := [] } w :=
    ⟨b1, b2, b3, b4, b5, b6, b7, b8, b9, b10, b11, .x _⟩
  refine .inl ⟨?_, ?_⟩
  · have : ¬ fn.name = "runtime.NumGoroutine" := by simpa using hnm
    simp [callFunc, hf, hb, this]
  · refine calls_of_wp hf hb (wp_mono (hbody _ G _ w hrel' rfl) fun e a' w' he => ?_)
    obtain ⟨he, G', s', hr, ho⟩ := he
    obtain ⟨v, hv, hp⟩ := leave_okM hT (w := w) (args := args) (Sd := Sd) (M := M) hr hres ho h1 h2 h3 h4
    rcases he with rfl | rfl
    · exact ⟨hr.defers, v, hv, hp⟩
    · exact ⟨hr.defers, v, hv, hp⟩

/-- A call that uses up what it is handed first. -/
theorem call_eat (h : RelG B G s a w) {f : FuncId} {av : AV} {v : Value} (hv : AVR w G s.heap (Ban B.F G s.heap) v av)
    {rest : List AV} {vs : List Value} (hrest : AVRL w G s.heap (Ban B.F G s.heap) vs rest) {ds0 : List D} {ks : List Nat} (hic : ioCs s.heap (cellsA av) = some (ds0, ks)) {ds : List D} (hb : borL s.heap rest = some ds)
    (hks : ks.Nodup) (hdis : ∀ k ∈ ks, k ∉ rest.flatMap (keyA s.heap)) {ret : D} (hf : FnOK P f (.io (ioD av ds0) :: ds.map .d) { ret := ret })
    {key : Nat} (hfree : ∀ x ∈ adObs key (partsD ret), s.heap x.1 = none) :
    Does P f (v :: vs).toArray w fun u w' => ∃ G', RelG B G' { s with heap := ovr (ks.map (fun k => (k, Ob.dead)) ++ adObs key (partsD ret)) s.heap } a w' ∧
      AVR w' G' (ovr (ks.map (fun k => (k, Ob.dead)) ++ adObs key (partsD ret)) s.heap) (Ban B.F G' (ovr (ks.map (fun k => (k, Ob.dead)) ++ adObs key (partsD ret)) s.heap)) u (retAV ret (adCells key (partsD ret))) := by
  have hcv : AVRL w G s.heap (Ban B.F G s.heap) v.cells.toList (cellsA av) ∧ Flat v ∧ ∀ S, TrL w true v.cells.toList ds0 S → Tr w true v (ioD av ds0) S := by
    cases hav : av with
    | g cs =>
      subst hav
      cases hv with
      | g us _ hus =>
        obtain ⟨_, _, o, _⟩ := ioCs_ok h hus hic
        exact ⟨hus, o, fun S hS => .g _ _ _ hS⟩
    | _ =>
      subst hav
      simp only [cellsA] at hic
      obtain ⟨_, ht, o, _⟩ := ioCs_ok h (.cons _ _ _ _ hv .nil) hic
      have o1 := o v (by simp)
      have hc1 : v.cells = #[v] := by cases v <;> simp_all [Value.cells, Value.oneCell']
      rw [hc1]
      refine ⟨.cons _ _ _ _ hv .nil, flat_one o1, fun S hS => ?_⟩
      cases hS with
      | cons _ d S1 _ ds1 S2 h1 h2 =>
        cases h2
        simpa [ioD] using h1
  obtain ⟨hcv, hfl, hargs⟩ := hcv
  obtain ⟨S, t1, t2, t3, t4, t5⟩ := ioCs_ok h hcv hic
  obtain ⟨Sd, u1, u2⟩ := borL_ok h hrest hb
  have hA : ArgsR w (v :: vs) (.io (ioD av ds0) :: ds.map .d) Sd (S ++ []) := .io v _ S vs _ Sd [] (hargs S t1) hfl u1
  rw [List.append_nil] at hA
  refine (hf w _ Sd S hA (t4 hks) fun b hb hbd => ?_).mono fun u w' hp => ?_
  · obtain ⟨k, hk, hm⟩ := t3 b hb
    exact hdis k hk ((u2 b hbd).2 k hm)
  obtain ⟨hr, hkeep, S', Si, r1, r2, r3, r4, r5, r6, r7, _⟩ := hp
  obtain ⟨r7, r8⟩ := r7 rfl
  obtain ⟨us, p1, p2, p3⟩ := parts_tr r1 r2
  obtain ⟨L2, b1, b2, b3, b4⟩ := adEnts p1 r7 p2 key
  let L1 : List (Nat × GI × Ob) := ks.map fun k => (k, G k, Ob.dead)
  have a1 : L1.map (fun x => (x.1, x.2.2)) = ks.map (fun k => (k, Ob.dead)) := by simp [L1]
  have a2 : L1.map (·.1) = ks := by
    show (ks.map fun k => (k, G k, Ob.dead)).map (·.1) = ks
    rw [List.map_map]
    exact (List.map_congr_left fun _ _ => rfl).trans (List.map_id ks)
  have d1 : ∀ x ∈ L1, x.2.2 = Ob.dead := fun x hx => by
    obtain ⟨k, _, rfl⟩ := List.mem_map.1 hx; rfl
  have hkk : ∀ x ∈ L1, ∀ y ∈ L2, x.1 ≠ y.1 := by
    intro x hx y hy e
    have h1 : x.1 ∈ ks := by rw [← a2]; exact List.mem_map.2 ⟨x, hx, rfl⟩
    have h2 := hfree (y.1, y.2.2) (by rw [← b1]; exact List.mem_map.2 ⟨y, hy, rfl⟩)
    exact t5 x.1 h1 (by rw [e]; exact h2)
  have hkeys : ((L1 ++ L2).map (·.1)).Nodup := by
    rw [List.map_append]
    refine List.nodup_append.2 ⟨by rw [a2]; exact hks, b3.keys, fun i hi j hj e => ?_⟩
    obtain ⟨x, hx, rfl⟩ := List.mem_map.1 hi
    obtain ⟨y, hy, rfl⟩ := List.mem_map.1 hj
    exact hkk x hx y hy e
  have own0 : ∀ x ∈ L1, ownOf x.2.1 (some x.2.2) = [] := fun x hx => by rw [d1 x hx]; rfl
  have hM : ∀ b ∈ S, ∃ x ∈ L1 ++ L2, b ∈ ownOf (G x.1) (s.heap x.1) := fun b hb => by
    obtain ⟨k, hk, hm⟩ := t3 b hb
    rw [← a2] at hk
    obtain ⟨x, hx, rfl⟩ := List.mem_map.1 hk
    exact ⟨x, by simp [hx], hm⟩
  obtain ⟨hrel, havr⟩ := h.steps (L1 ++ L2) hkeys hr (fun b hb hn => hkeep b hb fun hbS => by
      obtain ⟨x, hx, hm⟩ := hM b hbS
      exact hn x hx hm) (fun x hx o ho => by
      rcases List.mem_append.1 hx with hx | hx
      · rw [d1 x hx]; exact .dead _
      · have := hfree (x.1, x.2.2) (by rw [← b1]; exact List.mem_map.2 ⟨x, hx, rfl⟩)
        rw [ho] at this; cases this) (fun x hx b hb => by
      rcases List.mem_append.1 hx with hx | hx
      · rw [own0 x hx] at hb; cases hb
      · rcases r8 b (b3.sub x hx b hb) with h1 | h1
        · exact .inr h1
        · exact .inl (hM b h1)) (fun x hx => by
      rcases List.mem_append.1 hx with hx | hx
      · rw [own0 x hx]; exact List.nodup_nil
      · exact b3.nd x hx) (fun x hx y hy b hb hb' => by
      rcases List.mem_append.1 hx with hx | hx
      · rw [own0 x hx] at hb; cases hb
      · rcases List.mem_append.1 hy with hy | hy
        · rw [own0 y hy] at hb'; cases hb'
        · exact b3.dis x hx y hy b hb hb') (fun x hx => by
      rcases List.mem_append.1 hx with hx | hx
      · rw [d1 x hx]; trivial
      · obtain ⟨sz, xs, ve, e, hR⟩ := b3.row x hx
        rw [e]
        exact hR _)
  have hmapO : (L1 ++ L2).map (fun x => (x.1, x.2.2)) = ks.map (fun k => (k, Ob.dead)) ++ adObs key (partsD ret) := by rw [List.map_append, a1, b1]
  rw [hmapO] at hrel havr
  refine ⟨_, hrel, p3 (b4 _ _ _ (fun x hx => ?_) fun b hb hba => ?_)⟩
  · have hx' : x ∈ L1 ++ L2 := by simp [hx]
    exact ⟨ovG_in hkeys hx', by rw [← hmapO]; exact ovr_in hkeys hx'⟩
  · rw [← hmapO] at hba
    rcases hba with ⟨k, hm⟩ | hF
    · by_cases hk : k ∈ (L1 ++ L2).map (·.1)
      · obtain ⟨x, hx, rfl⟩ := List.mem_map.1 hk
        rw [ovG_in hkeys hx, ovr_in hkeys hx] at hm
        rcases List.mem_append.1 hx with hx | hx
        · rw [own0 x hx] at hm; cases hm
        · exact ⟨x, hx, hm⟩
      · rw [ovG_out hk, ovr_out hk] at hm
        exfalso
        rcases r8 b hb with h1 | h1
        · have := h.own_lt ⟨k, hm⟩; omega
        · obtain ⟨x, hx, hmx⟩ := hM b h1
          exact hk (List.mem_map.2 ⟨x, hx, h.disj x.1 k b hmx hm⟩)
    · exfalso
      rcases r8 b hb with h1 | h1
      · have := (h.ban b hF).1
        have := h.base
        omega
      · obtain ⟨x, hx, hmx⟩ := hM b h1
        exact h.noF hmx hF
end rel
end Go.Fs

set_option linter.unusedVariables false
set_option linter.constructorNameAsVariable false
namespace Go.Fs
open Go.RowKit

/-! ### maps from texts to what comes to no block -/
def kvGet : List (ByteArray × D) → ByteArray → Option D
  | [], _ => none
  | x :: kv, k => if k = x.1 then some x.2 else kvGet kv k
def kvSet : List (ByteArray × D) → ByteArray → D → List (ByteArray × D)
  | [], k, d => [(k, d)]
  | x :: kv, k, d => if k = x.1 then (k, d) :: kv else x :: kvSet kv k d

def opMkMap (T : Tab) (H : Nat → Option Ob) (dst : Nat) (ty : TypeId) : Option (AV × (Nat → Option Ob)) :=
  match H dst with
  | none => some (.mp dst, upd H dst (some (.map [])))
  | _ => none
def opMapSet (T : Tab) (H : Nat → Option Ob) (ty : TypeId) (m k x : AV) : Option (Nat → Option Ob) :=
  match T.mp ty, m, k, x with
  | some _, .mp r, .d (.s key), .d d => if mapv d = true then match H r with
    | some (.map kv) => some (upd H r (some (.map (kvSet kv key d))))
    | _ => none else none
  | _, _, _, _ => none
def opMapGet (T : Tab) (H : Nat → Option Ob) (ty : TypeId) (m k : AV) (ok : Bool) : Option AV :=
  match T.mp ty, m, k with
  | some (_, _, z), .mp r, .d (.s key) => match H r with
    | some (.map kv) => some (if ok then .t [.d ((kvGet kv key).getD z), .d (.b (kvGet kv key).isSome)] else .d ((kvGet kv key).getD z))
    | _ => none
  | _, _, _ => none

/-- A list is asked whether it is nil; the answer: whether 'not' is asked. -/
def nilCmp (T : Tab) (op : BinOp) (ty : TypeId) (y : Operand) : Option Bool := match op, T.kd ty, y with
  | .eql, some (.slice _), .const (.slice none 0 0) => some false
  | .neq, some (.slice _), .const (.slice none 0 0) => some true
  | _, _, _ => none

/-- The bytes of a list of bytes. -/
def byteL : List (List D) → Option (List Int)
  | [] => some []
  | [.i .u8 n] :: xs => (byteL xs).map (n :: ·)
  | _ => none
def bytesS (ns : List Int) : ByteArray := ns.foldl (fun r n => r.push (UInt8.ofNat n.toNat)) ByteArray.empty
def opB2S (T : Tab) (H : Nat → Option Ob) (src dst : TypeId) (x : AV) : Option AV :=
  match T.kd src, T.kd dst with
  | some (.slice e), some .str => match T.kd e with
    | some (.int .u8) => (borC H x).bind fun d => match d with
      | .l 1 xs => (byteL xs).map fun ns => .d (.s (bytesS ns))
      | _ => none
    | _ => none
  | _, _ => none

section rel
variable {P : Program} {T : Tab} {B : Ctx} {G : Nat → GI} {s : St} {a : Act} {w w' : World}

theorem Tab.mp_ok (hT : T.ok P = true) {t k e : TypeId} {z : D} (h : T.mp t = some (k, e, z)) : P.underlying t = some (.map k e) ∧ P.underlying k = some .string ∧ mapv z = true ∧ ∀ w, (zeroValue e).run P w = .ok (scalV z) w := by
  simp only [Tab.ok, Bool.and_eq_true] at hT
  have := List.all_eq_true.1 hT.2 _ (lookup_mem h)
  simp only [mapOK, Bool.and_eq_true] at this
  obtain ⟨⟨h0, h1⟩, h2⟩ := this
  refine ⟨?_, ?_, ?_⟩
  · split at h1
    · rename_i k' e' he
      simp only [Bool.and_eq_true, beq_iff_eq] at h1
      rw [he, h1.1, h1.2]
    · cases h1
  · split at h2
    · rename_i he; exact he
    · cases h2
  · split at h0
    case h_2 => cases h0
    rename_i i hi
    split at h0
    case h_2 => cases h0
    rename_i z' hz'
    have hz : scalV z = z' ∧ mapv z = true := by
      unfold zmap at h0
      split at h0
      · simp only [Bool.and_eq_true, beq_iff_eq] at h0
        rw [h0.1, h0.2]; exact ⟨rfl, rfl⟩
      · simp only [beq_iff_eq] at h0
        rw [h0]; exact ⟨rfl, rfl⟩
      · rename_i s s'
        simp only [Bool.and_eq_true, beq_iff_eq] at h0
        have : s = s' := by
          obtain ⟨⟨a⟩⟩ := s
          obtain ⟨⟨b⟩⟩ := s'
          have e1 : a.length = 0 := h0.1
          have e2 : b.length = 0 := h0.2
          rw [List.eq_nil_of_length_eq_zero e1, List.eq_nil_of_length_eq_zero e2]
        rw [this]; exact ⟨rfl, rfl⟩
      · cases h0
    refine ⟨hz.2, fun w => ?_⟩
    rw [hz.1]
    simp [Go.zeroValue, typeInfo, hi, hz']

theorem scalV_tr {own : Bool} {v : Value} {d : D} {S : List Nat} (h : Tr w own v d S) (hm : mapv d = true) : v = scalV d ∧ S = [] := by
  cases h <;> simp_all [mapv, scalV]

theorem tr_scalV {own : Bool} {d : D} (h : mapv d = true) : Tr w own (scalV d) d [] ∧ (scalV d).oneCell' = true := by
  cases d <;> simp_all [mapv, scalV] <;> first | exact ⟨.b _, rfl⟩ | exact ⟨.i _ _, rfl⟩ | exact ⟨.s _, rfl⟩

theorem kvGet_some : ∀ {kv : List (ByteArray × D)} {k : ByteArray} {d : D}, kvGet kv k = some d → (k, d) ∈ kv
  | [], _, _, h => by cases h
  | x :: kv, k, d, h => by
    simp only [kvGet] at h
    split at h
    · rename_i e; subst e; simp only [Option.some.injEq] at h; subst h; simp
    · simp [kvGet_some h]

theorem bbeq (a b : ByteArray) : (a == b) = decide (a = b) := by
  show (a.data == b.data) = _
  by_cases h : a = b
  · subst h; simp
  · have : a.data ≠ b.data := fun e => h (ByteArray.ext e)
    simp [h, this]

theorem findNow_ok (key : ByteArray) : ∀ (es : List MapEntry) (kv : List (ByteArray × D)) (i : Nat), es.map (fun e => (e.key, e.val)) = kv.map (fun x => (Value.string x.1, scalV x.2)) →
    (kvGet kv key = none → Instr.findNow .string (.string key) es i = some none ∧ kvSet kv key = fun d => kv ++ [(key, d)]) ∧
    (∀ d, kvGet kv key = some d → ∃ j, Instr.findNow .string (.string key) es i = some (some (i + j, scalV d)) ∧ (es[j]?).map (·.key) = some (.string key) ∧
      ∀ d', (es.modify j fun e => { e with key := .string key, val := scalV d' }).map (fun e => (e.key, e.val)) = (kvSet kv key d').map (fun x => (Value.string x.1, scalV x.2)))
  | [], [], i, _ => ⟨fun _ => ⟨rfl, rfl⟩, fun d h => by cases h⟩
  | [], _ :: _, i, h => by simp at h
  | _ :: _, [], i, h => by simp at h
  | e :: es, x :: kv, i, h => by
    simp only [List.map_cons, List.cons.injEq, Prod.mk.injEq] at h
    obtain ⟨⟨h1, h2⟩, h3⟩ := h
    obtain ⟨ih1, ih2⟩ := findNow_ok key es kv (i + 1) h3
    by_cases hk : key = x.1
    · subst hk
      refine ⟨fun hn => by simp [kvGet] at hn, fun d hd => ⟨0, ?_, by simp [h1], fun d' => by simp [kvSet, h3]⟩⟩
      simp only [kvGet, if_true, Option.some.injEq] at hd
      subst hd
      simp [Instr.findNow, Instr.sameNow, h1, h2, bbeq]
    · have hb : (key == x.1) = false := by rw [bbeq]; simpa using hk
      have hs : ∀ j, Instr.findNow .string (.string key) (e :: es) j = Instr.findNow .string (.string key) es (j + 1) := fun j => by
        simp [Instr.findNow, Instr.sameNow, h1, hb]
      refine ⟨fun hn => ?_, fun d hd => ?_⟩
      · simp only [kvGet, if_neg hk] at hn
        obtain ⟨a1, a2⟩ := ih1 hn
        refine ⟨by rw [hs]; exact a1, ?_⟩
        funext d
        simp only [kvSet, if_neg hk, a2, List.cons_append]
      · simp only [kvGet, if_neg hk] at hd
        obtain ⟨j, a1, a2, a3⟩ := ih2 d hd
        refine ⟨j + 1, by rw [hs, a1]; congr 3; omega, by simpa using a2, fun d' => ?_⟩
        simp only [kvSet, if_neg hk, List.modify_succ_cons, List.map_cons, List.cons.injEq, Prod.mk.injEq]
        exact ⟨⟨h1, h2⟩, a3 d'⟩

theorem opMkMap_ok (h : RelG B G s a w) {dst : Nat} {ty : TypeId} {av : AV} {H' : Nat → Option Ob} (hm : opMkMap T s.heap dst ty = some (av, H')) :
    ∃ v w' G', (Instr.makeMap ty none).run P w = .ok v w' ∧ RelG B G' { s with heap := H' } a w' ∧ AVR w' G' H' (Ban B.F G' H') v av := by
  simp only [opMkMap] at hm
  split at hm
  case h_2 => cases hm
  rename_i hk
  simp only [Option.some.injEq, Prod.mk.injEq] at hm
  obtain ⟨rfl, rfl⟩ := hm
  let gi : GI := { blk := w.heap.size, off := 0, cap := 0, vs := [], sub := [] }
  have hold : ∀ b, b < w.heap.size → (w.alloc (.map #[] 0)).heap[b]? = w.heap[b]? := fun b hb => heap_alloc_old w _ b hb
  refine ⟨.map (some w.heap.size), w.alloc (.map #[] 0), upd G dst gi, ?_, h.new dst gi (.map []) hk (rest_alloc ..) hold (by simp [ownOf, gi]) (by simp [ownOf]) ⟨⟨#[], 0, heap_alloc_new w _, rfl⟩, by simp⟩, ?_⟩
  · simp [Instr.makeMap]
  · have := AVR.mp (w := w.alloc (.map #[] 0)) (G := upd G dst gi) (H := upd s.heap dst (some (.map []))) (Av := Ban B.F (upd G dst gi) (upd s.heap dst (some (.map [])))) dst [] (upd_same ..)
    rw [upd_same] at this
    exact this

theorem AVR.inv_s {H : Nat → Option Ob} {Av : Nat → Prop} {v : Value} {x : ByteArray} (h : AVR w G H Av v (.d (.s x))) : v = .string x := by
  cases h with
  | d _ _ S h1 h _ => exact h.inv_s.1

theorem checkKey_str {k : TypeId} (hk : P.underlying k = some .string) (e : Bool) (x : ByteArray) : (Instr.checkKey e 10000 k (.string x)).run P w = .ok () w := by
  show (Instr.checkKey e (9999 + 1) k (.string x)).run P w = .ok () w
  rw [Instr.checkKey]
  simp only [Sem.run_bind, run_underlying hk, Result.andThen_ok]
  rfl

theorem run_findKey {kt : TypeId} (hk : P.underlying kt = some .string) {key : ByteArray} {es : List MapEntry} {r : Option (Nat × Value)} (h : Instr.findNow .string (.string key) es 0 = some r) : (Instr.findKey kt (.string key) es).run P w = .ok r w := by
  simp only [Instr.findKey, Sem.run_bind, run_underlying hk, Result.andThen_ok, h]
  rfl

theorem opMapGet_ok (hT : T.ok P = true) (h : RelG B G s a w) {ty : TypeId} {m k : AV} {mv kv' : Value} (hmv : AVR w G s.heap (Ban B.F G s.heap) mv m) (hkv : AVR w G s.heap (Ban B.F G s.heap) kv' k) {ok : Bool} {av : AV} (hm : opMapGet T s.heap ty m k ok = some av) :
    ∃ v, (Instr.lookup ty mv kv' ok).run P w = .ok v w ∧ AVR w G s.heap (Ban B.F G s.heap) v av := by
  unfold opMapGet at hm
  split at hm
  case h_2 => cases hm
  rename_i kt e z r key hmp
  split at hm
  case h_2 => cases hm
  rename_i kv hr
  simp only [Option.some.injEq] at hm
  obtain ⟨u1, u2, u3, u4⟩ := Tab.mp_ok hT hmp
  obtain rfl := hkv.inv_s
  have hM : MapR w (G r) kv := h.obj r _ hr
  obtain ⟨⟨es, clock, hg, hes⟩, hok⟩ := hM
  cases hmv with
  | mpd _ _ hk => rw [hr] at hk; cases hk
  | mp _ kv2 hk =>
    have hget : (getObj (G r).blk).run P w = .ok (.map es clock) w := by simp [getObj, Sem.run, hg]
    obtain ⟨f1, f2⟩ := findNow_ok key es.toList kv 0 hes
    have fin : ∀ (d : D) (b : Bool), mapv d = true → AVR w G s.heap (Ban B.F G s.heap) (if ok then .tuple #[scalV d, .bool b] else scalV d) (if ok then .t [.d d, .d (.b b)] else .d d) := by
      intro d b hd
      obtain ⟨q1, q2⟩ := tr_scalV (w := w) (own := false) hd
      cases ok with
      | true => exact .t _ _ (.cons _ _ _ _ (.sc q2 q1) (.cons _ _ _ _ (.sc rfl (.b _)) .nil))
      | false => exact .sc q2 q1
    cases hgk : kvGet kv key with
    | none =>
      rw [hgk] at hm
      subst hm
      refine ⟨if ok then .tuple #[scalV z, .bool false] else scalV z, ?_, fin z false u3⟩
      simp [Instr.lookup, run_underlying u1, hget, checkKey_str u2, run_findKey u2 (f1 hgk).1, u4]
    | some d =>
      rw [hgk] at hm
      subst hm
      obtain ⟨j, g1, g2, g3⟩ := f2 d hgk
      refine ⟨if ok then .tuple #[scalV d, .bool true] else scalV d, ?_, fin d true (hok _ (kvGet_some hgk))⟩
      have g1 := run_findKey (P := P) (w := w) u2 g1
      simp [Instr.lookup, run_underlying u1, hget, checkKey_str u2, g1]

theorem setBlock_heap_ne {w : World} {r b : Nat} {o : Obj} (h : b ≠ r) : ({ w with heap := w.heap.setIfInBounds r o } : World).heap[b]? = w.heap[b]? := by
  simp [Array.getElem?_setIfInBounds_ne (Ne.symm h)]

theorem opMapSet_ok (hT : T.ok P = true) (h : RelG B G s a w) {ty : TypeId} {m k x : AV} {mv kv' xv : Value} (hmv : AVR w G s.heap (Ban B.F G s.heap) mv m) (hkv : AVR w G s.heap (Ban B.F G s.heap) kv' k) (hxv : AVR w G s.heap (Ban B.F G s.heap) xv x) {H' : Nat → Option Ob} (hm : opMapSet T s.heap ty m k x = some H') :
    ∃ w' G', (Instr.mapUpdate ty mv kv' xv).run P w = .ok () w' ∧ RelG B G' { s with heap := H' } a w' := by
  unfold opMapSet at hm
  split at hm
  case h_2 => cases hm
  rename_i p r key d hmp
  obtain ⟨kt, e, z⟩ := p
  split at hm
  case isFalse => cases hm
  rename_i hd
  split at hm
  case h_2 => cases hm
  rename_i kv hr
  simp only [Option.some.injEq] at hm
  obtain ⟨u1, u2, u3, u4⟩ := Tab.mp_ok hT hmp
  obtain rfl := hkv.inv_s
  obtain rfl : xv = scalV d := by
    cases hxv with
    | d _ _ S h1 ht _ => exact (scalV_tr ht hd).1
  have hM : MapR w (G r) kv := h.obj r _ hr
  obtain ⟨⟨es, clock, hg, hes⟩, hok⟩ := hM
  have hlt := (Array.getElem?_eq_some_iff.1 hg).1
  have hown : (G r).blk ∈ ownOf (G r) (s.heap r) := by rw [hr]; simp [ownOf]
  have go : ∀ (es' : Array MapEntry) (c' : Nat) (kv2 : List (ByteArray × D)), es'.toList.map (fun e => (e.key, e.val)) = kv2.map (fun x => (Value.string x.1, scalV x.2)) → (∀ x ∈ kv2, mapv x.2 = true) →
      (Instr.mapUpdate ty (.map (some (G r).blk)) (.string key) (scalV d)).run P w = .ok () { w with heap := w.heap.setIfInBounds (G r).blk (.map es' c') } → upd s.heap r (some (.map kv2)) = H' →
      ∃ w' G', (Instr.mapUpdate ty (.map (some (G r).blk)) (.string key) (scalV d)).run P w = .ok () w' ∧ RelG B G' { s with heap := H' } a w' := by
    intro es' c' kv2 h1 h2 h3 h4
    subst h4
    refine ⟨_, G, h3, ?_⟩
    refine h.step (w' := { w with heap := w.heap.setIfInBounds (G r).blk (.map es' c') }) (G' := G) (upd s.heap r (some (.map kv2))) (fun i => i = r) ⟨rfl, rfl, rfl, by simp⟩ ?_ (fun i hi => ⟨upd_ne _ _ hi, rfl⟩) ?_ ?_ ?_ ?_ ?_
    · intro b hb hn
      exact setBlock_heap_ne fun e => hn r rfl (by rw [e]; exact hown)
    · rintro i o rfl ho
      rw [hr] at ho; cases ho
      exact ⟨_, upd_same .., .map _ _ rfl⟩
    · rintro i rfl b hb
      rw [upd_same] at hb
      refine .inl ⟨i, rfl, ?_⟩
      rw [hr]; exact hb
    · rintro i rfl; rw [upd_same]; simp [ownOf]
    · rintro i j rfl rfl _ _ _; rfl
    · rintro i o rfl ho
      rw [upd_same] at ho
      cases ho
      exact ⟨⟨es', c', by simp [hlt], h1⟩, h2⟩
  have hset : ∀ (o' : Obj), (setObj (G r).blk o').run P w = .ok () { w with heap := w.heap.setIfInBounds (G r).blk o' } := fun o' => by
    simp [setObj, Sem.run, hg]
  have hget : (getObj (G r).blk).run P w = .ok (.map es clock) w := by simp [getObj, Sem.run, hg]
  obtain ⟨f1, f2⟩ := findNow_ok key es.toList kv 0 hes
  cases hmv with
  | mpd _ _ hk => rw [hr] at hk; cases hk
  | mp _ kv2 hk =>
    cases hgk : kvGet kv key with
    | none =>
      obtain ⟨g1, g2⟩ := f1 hgk
      refine go (es.push { key := .string key, val := scalV d, born := clock }) (clock + 1) (kvSet kv key d) ?_ ?_ ?_ hm
      · rw [g2]; simp [hes]
      · rw [g2]
        intro x hx
        rcases List.mem_append.1 hx with hx | hx
        · exact hok x hx
        · obtain rfl : x = (key, d) := by simpa using hx
          exact hd
      · simp only [Instr.mapUpdate, Sem.run_bind, run_underlying u1, Result.andThen_ok, hget, checkKey_str u2, run_findKey u2 g1, hset]
    | some d0 =>
      obtain ⟨j, g1, g2, g3⟩ := f2 d0 hgk
      have hj : ((es[0 + j]?).map (·.key)).getD (.string key) = .string key := by
        rw [← Array.getElem?_toList, Nat.zero_add, g2]; rfl
      have hks : (Instr.keyThatStays (.string key) (.string key)).run P w = .ok (.string key) w := by
        have : Instr.sameBits 10000 (.string key) (.string key) = true := by
          show Instr.sameBits (9999 + 1) _ _ = true
          simp [Instr.sameBits, bbeq]
        simp only [Instr.keyThatStays, this, if_true]
        rfl
      refine go (es.modify (0 + j) fun e => { e with key := .string key, val := scalV d }) clock (kvSet kv key d) ?_ ?_ ?_ hm
      · rw [Nat.zero_add, ← g3 d]; simp
      · have mem : ∀ (kv : List (ByteArray × D)), (∀ x ∈ kv, mapv x.2 = true) → ∀ x ∈ kvSet kv key d, mapv x.2 = true := by
          intro kv
          induction kv with
          | nil => intro _ x hx; obtain rfl : x = (key, d) := by simpa [kvSet] using hx
                   exact hd
          | cons y kv ih =>
            intro ho x hx
            simp only [kvSet] at hx
            split at hx
            · rcases List.mem_cons.1 hx with rfl | hx
              · exact hd
              · exact ho x (by simp [hx])
            · rcases List.mem_cons.1 hx with rfl | hx
              · exact ho _ (by simp)
              · exact ih (fun x hx => ho x (by simp [hx])) x hx
        exact mem kv hok
      · simp only [Instr.mapUpdate, Sem.run_bind, run_underlying u1, Result.andThen_ok, hget, checkKey_str u2, run_findKey u2 g1, hj, hks, hset]

theorem byteL_tr {own : Bool} : ∀ {xs : List (List D)} {ns : List Int} {vs : List Value} {S : List Nat}, byteL xs = some ns → TrL w own vs xs.flatten S → vs = ns.map (Value.int .u8)
  | [], ns, vs, S, h, ht => by
    simp only [byteL, Option.some.injEq] at h
    subst h
    cases ht
    rfl
  | [.i .u8 n] :: xs, ns, vs, S, h, ht => by
    simp only [byteL, Option.map_eq_some_iff] at h
    obtain ⟨ms, h, rfl⟩ := h
    have ht : TrL w own vs (.i .u8 n :: xs.flatten) S := ht
    cases ht with
    | cons v _ S1 vs _ S2 h1 h2 =>
      rw [byteL_tr h h2, h1.inv_i.1]
      rfl

theorem opB2S_ok (hT : T.ok P = true) (h : RelG B G s a w) {src dst : TypeId} {x : AV} {xv : Value} (hx : AVR w G s.heap (Ban B.F G s.heap) xv x) {av : AV} (hm : opB2S T s.heap src dst x = some av) :
    ∃ v, (convert src dst xv).run P w = .ok v w ∧ AVR w G s.heap (Ban B.F G s.heap) v av := by
  unfold opB2S at hm
  split at hm
  case h_2 => cases hm
  rename_i e k1 k2
  split at hm
  case h_2 => cases hm
  rename_i k3
  simp only [Option.map_eq_some_iff, Tab.kd] at k1 k2 k3
  obtain ⟨t1, e1, k1⟩ := k1
  obtain ⟨t2, e2, k2⟩ := k2
  obtain ⟨t3, e3, k3⟩ := k3
  have u1 := (tiok hT e1).slice k1
  have u2 := (tiok hT e2).str k2
  have u3 := (tiok hT e3).int k3
  simp only [Option.bind_eq_some_iff] at hm
  obtain ⟨d, hb, hm⟩ := hm
  split at hm
  case h_2 => cases hm
  rename_i xs
  simp only [Option.map_eq_some_iff] at hm
  obtain ⟨ns, hns, rfl⟩ := hm
  obtain ⟨S, ht, _, _⟩ := borC_ok h hx hb
  refine ⟨.string (bytesS ns), ?_, .sc rfl (.s _)⟩
  cases ht with
  | z ad c _ _ =>
    rw [run_convert_bytes_string w src dst e ad 0 c u1 u3 u2]
    simp only [byteL, Option.some.injEq] at hns
    subst hns
    cases ad with
    | none => rfl
    | some ad => exact run_bytesToString w ad 0 c [] (by simpa using run_loadCells_list (P := P) w ad [] (by simp))
  | l g o c _ cur el fr vs _ S hg hc hm hl hv h1 hx ho hs =>
    rw [run_convert_bytes_string w src dst e _ _ c u1 u3 u2]
    have hvs := byteL_tr hns hs
    refine run_bytesToString w _ _ c ns ?_
    have := run_loadCells_list (P := P) w ⟨g, o, none⟩ vs (fun j v hj => by rw [add_at, cell_at hg]; exact hv j v hj)
    rw [hl, Nat.mul_one, hvs] at this
    exact this

theorem nilCmp_ok (hT : T.ok P = true) (h : RelG B G s a w) {op : BinOp} {ty : TypeId} {x y : Operand} {neg : Bool} (hc : nilCmp T op ty y = some neg) {xs : List (List D)} {sz : Nat} (hb : borC s.heap (s.ev x) = some (.l sz xs)) :
    ∃ b : Bool, (b = true → xs = []) ∧ (do eqGuard op ty x y (a.eval x) (a.eval y); binOp op ty (a.eval x) (a.eval y) : Sem Value).run P w = .ok (.bool (if neg then !b else b)) w := by
  obtain ⟨S, ht, _, _⟩ := borC_ok h (h.ev x) hb
  have hv : ∃ ad l c, a.eval x = .slice ad l c ∧ (ad.isNone = true → xs = []) := by
    generalize a.eval x = v at ht
    cases ht with
    | z ad c _ _ => exact ⟨ad, 0, c, rfl, fun _ => rfl⟩
    | l g o c _ cur e fr vs _ S hg hc hm hl hv h1 hx ho hs => exact ⟨_, _, c, rfl, fun h => by cases h⟩
  obtain ⟨ad, l, c, hev, hnil⟩ := hv
  unfold nilCmp at hc
  split at hc
  · rename_i e hk
    simp only [Option.some.injEq] at hc
    subst hc
    simp only [Option.map_eq_some_iff, Tab.kd] at hk
    obtain ⟨ti, hti, hk⟩ := hk
    have hu := (tiok hT hti).slice hk
    refine ⟨ad.isNone, hnil, ?_⟩
    rw [hev]
    have hy : a.eval (.const (.slice none 0 0)) = .slice none 0 0 := rfl
    rw [hy]
    simp [eqGuard, binOp, run_equal_slice_nil w ty e ad l c hu]
  · rename_i e hk
    simp only [Option.some.injEq] at hc
    subst hc
    simp only [Option.map_eq_some_iff, Tab.kd] at hk
    obtain ⟨ti, hti, hk⟩ := hk
    have hu := (tiok hT hti).slice hk
    refine ⟨ad.isNone, hnil, ?_⟩
    rw [hev]
    have hy : a.eval (.const (.slice none 0 0)) = .slice none 0 0 := rfl
    rw [hy]
    simp [eqGuard, binOp, run_equal_slice_nil w ty e ad l c hu]
  · cases hc
end rel
end Go.Fs
