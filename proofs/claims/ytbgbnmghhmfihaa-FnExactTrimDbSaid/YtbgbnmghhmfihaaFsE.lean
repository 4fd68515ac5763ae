/- A part of the proof: an evaluator of the program's code over plain data, proved sound, or a function's walk by it. No conditions beyond those in the theorems. -/
import Derived.Test.YtbgbnmghhmfihaaFsD
set_option linter.unusedVariables false
namespace Go.Fs
open Go.RowKit

theorem add_at (g o n : Nat) : (⟨g, o, none⟩ : Addr).add n = ⟨g, o + n, none⟩ := by unfold Addr.add; split <;> simp_all
theorem cell_at {w : World} {g o : Nat} {cur : Array Value} {e : TypeId} {fr : Nat × Nat} (h : w.heap[g]? = some (.cells cur e fr)) : w.cell? ⟨g, o, none⟩ = cur[o]? := by simp [World.cell?, h]

/-! ### rows of cells -/
theorem TrL.split {w : World} {own : Bool} : ∀ {vs : List Value} {ds : List D} {S : List Nat}, TrL w own vs ds S → ∀ n, ∃ S1 S2, TrL w own (vs.take n) (ds.take n) S1 ∧ TrL w own (vs.drop n) (ds.drop n) S2 ∧ S = S1 ++ S2
  | _, _, _, .nil, n => ⟨[], [], by simpa using .nil, by simpa using .nil, rfl⟩
  | _, _, _, .cons v d S vs ds Ss h hs, 0 => ⟨[], S ++ Ss, .nil, .cons v d S vs ds Ss h hs, rfl⟩
  | _, _, _, .cons v d S vs ds Ss h hs, n + 1 => by
    obtain ⟨S1, S2, h1, h2, rfl⟩ := hs.split n
    exact ⟨S ++ S1, S2, .cons v d S _ _ S1 h h1, h2, by simp⟩

theorem TrL.splice {w : World} {own : Bool} {vs : List Value} {ds : List D} {S : List Nat} (h : TrL w own vs ds S) {ms : List Value} {es : List D} {S' : List Nat} (h' : TrL w own ms es S') (n : Nat) :
    ∃ S'', TrL w own (vs.take n ++ ms ++ vs.drop (n + ms.length)) (ds.take n ++ es ++ ds.drop (n + es.length)) S'' ∧ (∀ b ∈ S'', b ∈ S ∨ b ∈ S') ∧ (S.Nodup → S'.Nodup → (∀ b ∈ S, b ∉ S') → S''.Nodup) := by
  obtain ⟨S1, S2, h1, h2, rfl⟩ := h.split n
  obtain ⟨S3, S4, h3, h4, rfl⟩ := h2.split ms.length
  have hl := h'.length
  refine ⟨S1 ++ S' ++ S4, ?_, ?_, ?_⟩
  · have := (h1.append h').append h4
    rw [List.drop_drop, List.drop_drop, hl] at this
    rw [hl]
    exact this
  · intro b hb
    simp at hb ⊢
    rcases hb with hb | hb | hb <;> simp [hb]
  · intro hn hn' hd
    rw [List.nodup_append] at hn
    obtain ⟨n1, n2, n3⟩ := hn
    rw [List.nodup_append] at n2
    obtain ⟨n4, n5, n6⟩ := n2
    rw [List.append_assoc, List.nodup_append]
    refine ⟨n1, ?_, ?_⟩
    · rw [List.nodup_append]
      exact ⟨hn', n5, fun x hx y hy e => hd y (by simp [hy]) (e ▸ hx)⟩
    · intro x hx y hy e
      subst e
      rcases List.mem_append.1 hy with hy | hy
      · exact hd x (by simp [hx]) hy
      · exact n3 x hx x (by simp [hy]) rfl

theorem seg_splice {vs ms : List Value} {cur : Array Value} {o n : Nat} (hv : ∀ j v, vs[j]? = some v → cur[o + j]? = some v) (hn : n + ms.length ≤ vs.length) (hc : o + vs.length ≤ cur.size) :
    ∀ j v, (vs.take n ++ ms ++ vs.drop (n + ms.length))[j]? = some v → (List.take (o + n) cur.toList ++ ms ++ List.drop (o + n + ms.length) cur.toList).toArray[o + j]? = some v := by
  intro j v h
  have e1 : (List.take (o + n) cur.toList).length = o + n := by rw [List.length_take, Array.length_toList]; omega
  have e2 : (vs.take n).length = n := by rw [List.length_take]; omega
  simp only [List.getElem?_toArray]
  by_cases h1 : j < n
  · rw [List.append_assoc, List.getElem?_append_left (by omega)] at h
    rw [List.append_assoc, List.getElem?_append_left (by omega)]
    rw [List.getElem?_take_of_lt (by omega)] at h ⊢
    simpa using hv j v h
  · by_cases h2 : j < n + ms.length
    · rw [List.append_assoc, List.getElem?_append_right (by omega), e2, List.getElem?_append_left (by omega)] at h
      rw [List.append_assoc, List.getElem?_append_right (by omega), e1, List.getElem?_append_left (by omega), show o + j - (o + n) = j - n by omega]
      exact h
    · rw [List.getElem?_append_right (by rw [List.length_append]; omega), List.length_append, e2, List.getElem?_drop] at h
      rw [List.getElem?_append_right (by rw [List.length_append]; omega), List.length_append, e1, List.getElem?_drop]
      rw [show n + ms.length + (j - (n + ms.length)) = j by omega] at h
      rw [show o + n + ms.length + (o + j - (o + n + ms.length)) = o + j by omega]
      simpa using hv j v h

theorem flat_splice {α : Type} {xs : List (List α)} {sz : Nat} (h : ∀ x ∈ xs, x.length = sz) {i o : Nat} {x es : List α} (hi : xs[i]? = some x) (ho : o + es.length ≤ sz) :
    (xs.set i (x.take o ++ es ++ x.drop (o + es.length))).flatten = xs.flatten.take (i * sz + o) ++ es ++ xs.flatten.drop (i * sz + o + es.length) := by
  induction xs generalizing i with
  | nil => simp at hi
  | cons y ys ih =>
    have hy : y.length = sz := h y (by simp)
    cases i with
    | zero =>
      simp at hi
      subst hi
      simp only [List.set_cons_zero, List.flatten_cons, Nat.zero_mul, Nat.zero_add]
      rw [List.take_append_of_le_length (by omega), List.drop_append_of_le_length (by omega)]
      simp
    | succ i =>
      simp only [List.getElem?_cons_succ] at hi
      simp only [List.set_cons_succ, List.flatten_cons]
      rw [ih (fun z hz => h z (by simp [hz])) hi, Nat.succ_mul]
      rw [show i * sz + sz + o = y.length + (i * sz + o) by omega, List.take_length_add_append, show y.length + (i * sz + o) + es.length = y.length + (i * sz + o + es.length) by omega, List.drop_length_add_append]
      simp

/-! ### what is stored inside a row: what is owned is handed over -/
def moveC (H : Nat → Option Ob) : AV → Option (D × Bool × (Nat → Option Ob))
  | .d x => some (x, scal x, H)
  | .z sz => some (.l sz [], true, H)
  | .r k => match H k with
    | some (.row sz xs dp fz _) => some (.l sz xs, dp && !fz, if fz then H else upd H k (some .dead))
    | _ => none
  | _ => none
def moveCs (H : Nat → Option Ob) : List AV → Option (List D × Bool × (Nat → Option Ob))
  | [] => some ([], true, H)
  | av :: avs => (moveC H av).bind fun x => (moveCs x.2.2 avs).bind fun y => some (x.1 :: y.1, x.2.1 && y.2.1, y.2.2)

section rel
variable {B : Ctx} {G : Nat → GI} {s : St} {a : Act} {w : World}

/-- A row's window, as a value reads. -/
theorem RowR.window {Av : Nat → Prop} {g : GI} {sz : Nat} {xs : List (List D)} {dp fz : Bool} (h : RowR w Av g sz xs dp fz) {off len : Nat} {ad : Option Addr} (hl : off + len ≤ xs.length)
    (ha : off < g.cap → ad = some ⟨g.blk, g.off + off * sz, none⟩) : ∃ S, Tr w dp (.slice ad len (g.cap - off)) (.l sz ((xs.drop off).take len)) S ∧ (∀ b ∈ S, g.cap ≠ 0 ∧ b ∈ g.blk :: g.sub) ∧ (dp = true → g.blk ∉ g.sub → S.Nodup) := by
  obtain ⟨hcells, h2, h3, h4, h5, h6, h7, h8, h9, h10⟩ := h
  by_cases hoff : off < g.cap
  · obtain ⟨cur, e, hg, hcap, hv⟩ := hcells (by omega)
    have hle : ((xs.drop off).take len).length = len := by rw [List.length_take, List.length_drop]; omega
    have hm : (off + len) * sz ≤ g.vs.length := by rw [h4]; exact Nat.mul_le_mul_right _ hl
    have hadd : (off + len) * sz = off * sz + len * sz := Nat.add_mul ..
    obtain ⟨S1, t1, t2, t3⟩ := h7.drop (off * sz)
    obtain ⟨S2, t4, t5, t6⟩ := t1.take (len * sz)
    have hfl : ((xs.drop off).take len).flatten = (xs.flatten.drop (off * sz)).take (len * sz) := by
      rw [flat_take (fun x hx => h6 x (List.mem_of_mem_drop hx)), flat_drop h6]
    have hcs : (g.cap - off) * sz + off * sz = g.cap * sz := by rw [← Nat.add_mul]; congr 1; omega
    refine ⟨g.blk :: S2, ?_, ?_, ?_⟩
    · rw [ha hoff]
      have := Tr.l (own := dp) g.blk (g.off + off * sz) (g.cap - off) sz cur e (0, 0) ((g.vs.drop (off * sz)).take (len * sz)) ((xs.drop off).take len) S2 hg (by omega) (by omega)
        (by rw [List.length_take, List.length_drop, hle]; omega) (fun j v hj => by
          have hj' : j < len * sz := by
            rcases Nat.lt_or_ge j (len * sz) with h | h
            · exact h
            · rw [List.getElem?_eq_none (by rw [List.length_take]; omega)] at hj; cases hj
          rw [List.getElem?_take_of_lt hj', List.getElem?_drop] at hj
          rw [Nat.add_assoc]
          exact hv _ _ hj)
        (fun v hv' => h5 v (List.mem_of_mem_drop (List.mem_of_mem_take hv'))) (fun x hx => h6 x (List.mem_of_mem_drop (List.mem_of_mem_take hx)))
        (fun _ => ⟨rfl, by omega⟩) (by rw [hfl]; exact t4)
      rw [hle] at this
      exact this
    · intro b hb
      refine ⟨by omega, ?_⟩
      rcases List.mem_cons.1 hb with rfl | hb
      · simp
      · simp [t2 b (t5 b hb)]
    · intro hd hn
      exact List.nodup_cons.2 ⟨fun hm => hn (t2 _ (t5 _ hm)), t6 (t3 (h8 hd))⟩
  · obtain rfl : len = 0 := by omega
    refine ⟨[], ?_, by simp, fun _ _ => List.nodup_nil⟩
    rw [List.take_zero]
    exact .z ad _ sz (fun _ => by omega)

/-- The whole row. -/
theorem RowR.whole {Av : Nat → Prop} {g : GI} {sz : Nat} {xs : List (List D)} {dp fz : Bool} (h : RowR w Av g sz xs dp fz) {ad : Option Addr}
    (ha : 0 < g.cap → ad = some ⟨g.blk, g.off, none⟩) : ∃ S, Tr w dp (.slice ad xs.length g.cap) (.l sz xs) S ∧ (∀ b ∈ S, g.cap ≠ 0 ∧ b ∈ g.blk :: g.sub) ∧ (dp = true → g.blk ∉ g.sub → S.Nodup) := by
  obtain ⟨S, h1, h2, h3⟩ := h.window (off := 0) (len := xs.length) (ad := ad) (by omega) (by simpa using ha)
  exact ⟨S, by simpa using h1, h2, h3⟩

theorem AVR.kill {v : Value} {av : AV} (h : AVR w G s.heap (Ban B.F G s.heap) v av) (k : Nat) (hk : s.heap k ≠ none) :
    AVR w G (upd s.heap k (some .dead)) (Ban B.F G (upd s.heap k (some .dead))) v av := by
  refine (AVR.mono_both (w := w) (w' := w) (G := G) (G' := G) (fun _ _ _ => rfl) ?_ ?_).1 h
  · rintro b _ (⟨i, hi⟩ | hf)
    · by_cases e : i = k
      · subst e; rw [upd_same] at hi; simp [ownOf] at hi
      · rw [upd_ne _ _ e] at hi; exact .inl ⟨i, hi⟩
    · exact .inr hf
  · intro i o ho
    by_cases e : i = k
    · subst e; exact ⟨.dead, upd_same .., .dead _⟩
    · exact ⟨o, by rw [upd_ne _ _ e]; exact ho, Ob.to.refl _ _⟩

theorem own_kill {k b : Nat} (h : Own G (upd s.heap k (some .dead)) b) : Own G s.heap b ∧ ∃ i, i ≠ k ∧ b ∈ ownOf (G i) (s.heap i) := by
  obtain ⟨i, hi⟩ := h
  by_cases e : i = k
  · subst e; rw [upd_same] at hi; simp [ownOf] at hi
  · rw [upd_ne _ _ e] at hi; exact ⟨⟨i, hi⟩, i, e, hi⟩

structure Moved (B : Ctx) (G : Nat → GI) (s : St) (a : Act) (w : World) (H' : Nat → Option Ob) : Prop where
  rel : RelG B G { s with heap := H' } a w
  avr : ∀ {v : Value} {av : AV}, AVR w G s.heap (Ban B.F G s.heap) v av → AVR w G H' (Ban B.F G H') v av
  own : ∀ b, Own G H' b → Own G s.heap b
  keys : ∀ k, H' k = s.heap k ∨ (s.heap k ≠ none ∧ H' k = some .dead)

theorem Moved.ban {H' : Nat → Option Ob} (M : Moved B G s a w H') {b : Nat} (hb : Ban B.F G H' b) : Ban B.F G s.heap b := hb.imp (M.own b) id

theorem Moved.refl (h : RelG B G s a w) : Moved B G s a w s.heap := ⟨h, fun h => h, fun _ h => h, fun _ => .inl rfl⟩

theorem moveC_ok (h : RelG B G s a w) {v : Value} {av : AV} (hv : AVR w G s.heap (Ban B.F G s.heap) v av) {d : D} {f : Bool} {H' : Nat → Option Ob} (hm : moveC s.heap av = some (d, f, H')) :
    Moved B G s a w H' ∧ ∃ S, Tr w f v d S ∧ v.oneCell' = true ∧ (∀ b ∈ S, ¬ Ban B.F G H' b) ∧ (f = true → S.Nodup ∧ ∀ b ∈ S, Own G s.heap b) := by
  cases hv with
  | d v x S h1 ht hS =>
    simp only [moveC, Option.some.injEq, Prod.mk.injEq] at hm
    obtain ⟨rfl, rfl, rfl⟩ := hm
    refine ⟨.refl h, ?_⟩
    cases hsc : scal x with
    | false => exact ⟨S, ht, h1, hS, by simp⟩
    | true =>
      obtain ⟨rfl, hall, _⟩ := scal_tr ht hsc
      exact ⟨[], hall w true, h1, by simp, fun _ => ⟨List.nodup_nil, by simp⟩⟩
  | z sz =>
    simp only [moveC, Option.some.injEq, Prod.mk.injEq] at hm
    obtain ⟨rfl, rfl, rfl⟩ := hm
    exact ⟨.refl h, [], .z none 0 sz (fun _ => rfl), rfl, by simp, fun _ => ⟨List.nodup_nil, by simp⟩⟩
  | r k sz xs dp fz ve ad hk ha =>
    simp only [moveC, hk, Option.some.injEq, Prod.mk.injEq] at hm
    obtain ⟨rfl, rfl, rfl⟩ := hm
    have hR : RowR w (Ban B.F G s.heap) (G k) sz xs dp fz := h.obj k _ hk
    obtain ⟨S, t1, t2, t3⟩ := hR.whole ha
    cases fz with
    | true =>
      refine ⟨.refl h, S, by simpa using t1.shared, rfl, ?_, by simp⟩
      intro b hb
      obtain ⟨hc, hb⟩ := t2 b hb
      rcases List.mem_cons.1 hb with rfl | hb
      · exact hR.frz rfl (by omega)
      · exact hR.sub (.inr rfl) b hb
    | false =>
      have hne : s.heap k ≠ none := by rw [hk]; simp
      have hM : Moved B G s a w (upd s.heap k (some .dead)) := ⟨h.kill k hne, fun hv => hv.kill k hne, fun b hb => (own_kill hb).1, fun i => by
        by_cases e : i = k
        · subst e; exact .inr ⟨hne, upd_same ..⟩
        · exact .inl (upd_ne _ _ e)⟩
      refine ⟨by simpa using hM, S, by simpa using t1, rfl, ?_, ?_⟩
      · intro b hb
        obtain ⟨hc, hb'⟩ := t2 b hb
        simp only [Bool.false_eq_true, if_false]
        intro hn
        rcases hn with hn | hn
        case inr =>
          have key : b ∈ ownOf (G k) (s.heap k) → False := fun hm => h.noF hm hn
          rw [hk] at key
          cases dp with
          | true => exact key (by simpa [ownOf, hc] using hb')
          | false =>
            rcases List.mem_cons.1 hb' with rfl | hb'
            · exact key (by simp [ownOf, hc])
            · exact hR.sub (.inl rfl) b hb' (.inr hn)
        obtain ⟨ho, i, hi, hmem⟩ := own_kill hn
        have key : b ∈ ownOf (G k) (s.heap k) → False := fun hm => hi (h.disj i k b hmem hm)
        rw [hk] at key
        cases dp with
        | true => exact key (by simpa [ownOf, hc] using hb')
        | false =>
          rcases List.mem_cons.1 hb' with rfl | hb'
          · exact key (by simp [ownOf, hc])
          · exact hR.sub (.inl rfl) b hb' (.inl ho)
      · intro hf
        have hd : dp = true := by simpa using hf
        subst hd
        by_cases hc : (G k).cap = 0
        · have : S = [] := List.eq_nil_iff_forall_not_mem.2 fun b hb => (t2 b hb).1 hc
          subst this
          exact ⟨List.nodup_nil, by simp⟩
        have hnd := h.nodup k
        rw [hk] at hnd
        simp only [ownOf, if_true, hc, if_false] at hnd
        refine ⟨t3 rfl (List.nodup_cons.1 hnd).1, fun b hb => ⟨k, ?_⟩⟩
        rw [hk]
        simpa [ownOf, hc] using (t2 b hb).2
  | rd k v hk => simp [moveC, hk] at hm
  | a => simp [moveC] at hm
  | ad => simp [moveC] at hm
  | e => simp [moveC] at hm
  | m => simp [moveC] at hm
  | mo => simp [moveC] at hm
  | md => simp [moveC] at hm
  | ed => simp [moveC] at hm
  | q => simp [moveC] at hm
  | g => simp [moveC] at hm
  | f => simp [moveC] at hm
  | t => simp [moveC] at hm
  | mp => simp [moveC] at hm
  | mpd => simp [moveC] at hm
  | x => simp [moveC] at hm

theorem Moved.trans {H1 H2 : Nat → Option Ob} (h1 : Moved B G s a w H1) (h2 : Moved B G { s with heap := H1 } a w H2) : Moved B G s a w H2 :=
  ⟨h2.rel, fun h => h2.avr (h1.avr h), fun b hb => h1.own b (h2.own b hb), fun k => by
    rcases h1.keys k with e1 | ⟨n1, e1⟩ <;> rcases h2.keys k with e2 | ⟨n2, e2⟩
    · exact .inl (e2.trans e1)
    · exact .inr ⟨by rw [← e1]; exact n2, e2⟩
    · exact .inr ⟨n1, e2.trans e1⟩
    · exact .inr ⟨n1, e2⟩⟩

theorem moveCs_ok : ∀ {s : St} (h : RelG B G s a w) {vs : List Value} {avs : List AV} (hv : AVRL w G s.heap (Ban B.F G s.heap) vs avs) {ds : List D} {f : Bool} {H' : Nat → Option Ob} (hm : moveCs s.heap avs = some (ds, f, H')),
    Moved B G s a w H' ∧ ∃ S, TrL w f vs ds S ∧ (∀ v ∈ vs, v.oneCell' = true) ∧ (∀ b ∈ S, ¬ Ban B.F G H' b) ∧ (f = true → S.Nodup ∧ ∀ b ∈ S, Own G s.heap b) := by
  intro s h vs avs hv
  induction avs generalizing s vs with
  | nil =>
    intro ds f H' hm
    cases hv
    simp only [moveCs, Option.some.injEq, Prod.mk.injEq] at hm
    obtain ⟨rfl, rfl, rfl⟩ := hm
    exact ⟨.refl h, [], .nil, by simp, by simp, fun _ => ⟨List.nodup_nil, by simp⟩⟩
  | cons av avs ih =>
    intro ds f H' hm
    cases hv with
    | cons v _ vs _ hv hvs =>
      simp only [moveCs, Option.bind_eq_some_iff] at hm
      obtain ⟨⟨d1, f1, H1⟩, m1, ⟨d2, f2, H2⟩, m2, hm⟩ := hm
      simp only [Option.some.injEq, Prod.mk.injEq] at hm
      obtain ⟨rfl, rfl, rfl⟩ := hm
      obtain ⟨M1, S1, t1, o1, n1, w1⟩ := moveC_ok h hv m1
      have hvs1 : AVRL w G H1 (Ban B.F G H1) vs avs := by
        have := M1.avr (.t vs.toArray avs (by simpa using hvs))
        cases this with
        | t _ _ h => simpa using h
      obtain ⟨M2, S2, t2, o2, n2, w2⟩ := ih M1.rel hvs1 m2
      refine ⟨M1.trans M2, S1 ++ S2, ?_, ?_, ?_, ?_⟩
      · by_cases e : (f1 && f2) = true
        · rw [e]
          simp at e
          rw [e.1] at t1
          rw [e.2] at t2
          exact .cons _ _ _ _ _ _ t1 t2
        · rw [Bool.not_eq_true] at e
          rw [e]
          exact .cons _ _ _ _ _ _ t1.shared t2.shared
      · intro u hu
        rcases List.mem_cons.1 hu with rfl | hu
        · exact o1
        · exact o2 u hu
      · intro b hb hn
        rcases List.mem_append.1 hb with hb | hb
        · exact n1 b hb (M2.ban hn)
        · exact n2 b hb hn
      · intro e
        simp at e
        obtain ⟨a1, a2⟩ := w1 e.1
        obtain ⟨b1, b2⟩ := w2 e.2
        refine ⟨List.nodup_append.2 ⟨a1, b1, fun x hx y hy e => ?_⟩, fun b hb => ?_⟩
        · subst e
          exact n1 x hx (.inl (b2 x hy))
        · rcases List.mem_append.1 hb with hb | hb
          · exact a2 b hb
          · exact M1.own b (b2 b hb)
end rel
end Go.Fs
