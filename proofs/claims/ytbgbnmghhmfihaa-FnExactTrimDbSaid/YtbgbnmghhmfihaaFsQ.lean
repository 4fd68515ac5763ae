/- A part of the proof: an evaluator of the program's code over plain data, proved sound, or a function's walk by it. No conditions beyond those in the theorems. -/
import Derived.Test.YtbgbnmghhmfihaaFsP
set_option linter.unusedVariables false
set_option linter.constructorNameAsVariable false
namespace Go.Fs
open Go.RowKit

/-! ### what a callee is handed -/
def borC (H : Nat → Option Ob) : AV → Option D
  | .d x => some x
  | .z sz => some (.l sz [])
  | .r k => match H k with
    | some (.row sz xs _ _ _) => some (.l sz xs)
    | _ => none
  | .m k ve i o => match H k with
    | some (.row sz xs _ _ ve') => if ve = ve' ∧ i < xs.length ∧ o < sz then some ((xs.getD i []).getD o .u) else none
    | _ => none
  | _ => none
def borCs (H : Nat → Option Ob) : List AV → Option (List D)
  | [] => some []
  | av :: avs => (borC H av).bind fun x => (borCs H avs).map (x :: ·)
/-- A variable that a function holds, or a value. -/
def borB (H : Nat → Option Ob) : AV → Option D
  | .a k 0 => match H k with
    | some (.box cs) => (borCs H cs).map .p
    | _ => none
  | av => borC H av
def borBs (H : Nat → Option Ob) : List AV → Option (List D)
  | [] => some []
  | av :: avs => (borB H av).bind fun x => (borBs H avs).map (x :: ·)
/-- What is lent to a callee. -/
def bor (H : Nat → Option Ob) : AV → Option D
  | .g cs => (borCs H cs).map .g
  | .f fn caps => (borBs H caps).map (.f fn)
  | av => borB H av
def borL (H : Nat → Option Ob) : List AV → Option (List D)
  | [] => some []
  | av :: avs => (bor H av).bind fun x => (borL H avs).map (x :: ·)

/-- The keys that a value comes to. -/
def keyC (H : Nat → Option Ob) : AV → List Nat
  | .r k => [k]
  | .m k _ _ _ => [k]
  | _ => []
def keyB (H : Nat → Option Ob) : AV → List Nat
  | .a k _ => match H k with
    | some (.box cs) => k :: cs.flatMap (keyC H)
    | _ => [k]
  | av => keyC H av
def keyA (H : Nat → Option Ob) : AV → List Nat
  | .g cs => cs.flatMap (keyC H)
  | .f _ caps => caps.flatMap (keyB H)
  | av => keyB H av

/-- Lists of one's own, handed over to be written. -/
def ioCs (H : Nat → Option Ob) : List AV → Option (List D × List Nat)
  | [] => some ([], [])
  | .r k :: avs => match H k with
    | some (.row sz xs true false _) => (ioCs H avs).map fun y => (.l sz xs :: y.1, k :: y.2)
    | _ => none
  | .d x :: avs => if scal x then (ioCs H avs).map fun y => (x :: y.1, y.2) else none
  | _ => none
def ioObs (H : Nat → Option Ob) : List AV → List D → Option (List (Nat × Ob))
  | [], [] => some []
  | .r k :: avs, .l sz' xs' :: ds => match H k with
    | some (.row sz xs true false ve) => if sz' = sz then (ioObs H avs ds).map ((k, .row sz xs' true false (ve + 1)) :: ·) else none
    | _ => none
  | .d x :: avs, d :: ds => ioObs H avs ds
  | _, _ => none

section rel
variable {P : Program} {T : Tab} {B : Ctx} {G : Nat → GI} {s : St} {a : Act} {w w' : World}

/-- Blocks that may be lent: none that is barred from outside, and of one's own only those of these keys. -/
def Lent (B : Ctx) (G : Nat → GI) (H : Nat → Option Ob) (ks : List Nat) (S : List Nat) : Prop := ∀ b ∈ S, ¬ B.F b ∧ ∀ k, b ∈ ownOf (G k) (H k) → k ∈ ks

theorem Lent.append {H : Nat → Option Ob} {ks ks' S S' : List Nat} (h : Lent B G H ks S) (h' : Lent B G H ks' S') : Lent B G H (ks ++ ks') (S ++ S') := by
  intro b hb
  rcases List.mem_append.1 hb with hb | hb
  · exact ⟨(h b hb).1, fun k hk => List.mem_append.2 (.inl ((h b hb).2 k hk))⟩
  · exact ⟨(h' b hb).1, fun k hk => List.mem_append.2 (.inr ((h' b hb).2 k hk))⟩
theorem Lent.of {H : Nat → Option Ob} {ks S : List Nat} (h : ∀ b ∈ S, ¬ Ban B.F G H b) : Lent B G H ks S := fun b hb => ⟨fun hf => h b hb (.inr hf), fun k hk => absurd (.inl ⟨k, hk⟩) (h b hb)⟩

theorem borC_ok (h : RelG B G s a w) {v : Value} {av : AV} (hv : AVR w G s.heap (Ban B.F G s.heap) v av) {x : D} (hb : borC s.heap av = some x) :
    ∃ S, Tr w false v x S ∧ v.oneCell' = true ∧ Lent B G s.heap (keyC s.heap av) S := by
  have own : ∀ {k b : Nat}, b ∈ ownOf (G k) (s.heap k) → ¬ B.F b ∧ ∀ k', b ∈ ownOf (G k') (s.heap k') → k' ∈ [k] := fun {k b} hb => ⟨h.noF hb, fun k' hk' => by rw [h.disj k' k b hk' hb]; simp⟩
  cases hv with
  | d v x S h1 ht hS =>
    simp only [borC, Option.some.injEq] at hb
    subst hb
    exact ⟨S, ht, h1, .of hS⟩
  | z sz =>
    simp only [borC, Option.some.injEq] at hb
    subst hb
    exact ⟨[], .z _ _ _ (by simp), rfl, .of (by simp)⟩
  | r k sz xs dp fz ve ad hk ha =>
    simp only [borC, hk, Option.some.injEq] at hb
    subst hb
    have hR : RowR w (Ban B.F G s.heap) (G k) sz xs dp fz := h.obj k _ hk
    obtain ⟨S, t1, t2, _⟩ := hR.whole ha
    refine ⟨S, t1.shared, rfl, fun b hb => ?_⟩
    obtain ⟨hc, hb⟩ := t2 b hb
    have free : ¬ Ban B.F G s.heap b → ¬ B.F b ∧ ∀ k', b ∈ ownOf (G k') (s.heap k') → k' ∈ [k] := fun hn => ⟨fun hf => hn (.inr hf), fun k' hk' => absurd (.inl ⟨k', hk'⟩) hn⟩
    cases fz with
    | true =>
      rcases List.mem_cons.1 hb with rfl | hb
      · exact free (hR.frz rfl (by omega))
      · exact free (hR.sub (.inr rfl) b hb)
    | false =>
      rcases List.mem_cons.1 hb with rfl | hb
      · exact own (by rw [hk]; simp [ownOf, hc])
      · cases dp with
        | true => exact own (by rw [hk]; simp [ownOf, hc, hb])
        | false => exact free (hR.sub (.inl rfl) b hb)
  | m k i o sz xs dp fz ve v z ys hk hj hvj h1 =>
    simp only [borC, hk] at hb
    split at hb
    case isFalse => cases hb
    rename_i hc
    simp only [Option.some.injEq] at hb
    subst hb
    have hR : RowR w (Ban B.F G s.heap) (G k) sz xs dp fz := h.obj k _ hk
    obtain ⟨x, hx⟩ : ∃ x, xs[i]? = some x := ⟨_, List.getElem?_eq_getElem hc.2.1⟩
    have hgd : xs.getD i [] = x := by rw [List.getD_eq_getElem?_getD, hx]; rfl
    have hfx := flat_get hR.uni hx hc.2.2
    rw [hfx] at hj
    have hgo : x.getD o .u = .l z ys := by rw [List.getD_eq_getElem?_getD, hj]; rfl
    rw [hgd, hgo]
    obtain ⟨u, S1, hu, ht, hS, _⟩ := hR.tr.get (hfx.trans hj)
    rw [hvj] at hu
    cases hu
    refine ⟨S1, ht.shared, h1, fun b hb => ?_⟩
    have hb := hS b hb
    have hc0 : (G k).cap ≠ 0 := fun hc => by rw [(hR.void hc).2.2] at hb; simp at hb
    have free : ¬ Ban B.F G s.heap b → ¬ B.F b ∧ ∀ k', b ∈ ownOf (G k') (s.heap k') → k' ∈ [k] := fun hn => ⟨fun hf => hn (.inr hf), fun k' hk' => absurd (.inl ⟨k', hk'⟩) hn⟩
    cases fz with
    | true => exact free (hR.sub (.inr rfl) b hb)
    | false =>
      cases dp with
      | true => exact own (by rw [hk]; simp [ownOf, hc0, hb])
      | false => exact free (hR.sub (.inl rfl) b hb)
  | mo k i o sz xs dp fz ve ve' v hk hlt =>
    simp only [borC, hk] at hb
    split at hb
    · rename_i hc; omega
    · cases hb
  | rd k v hk => simp [borC, hk] at hb
  | md k ve i o v hk => simp [borC, hk] at hb
  | _ => simp [borC] at hb

theorem borCs_ok (h : RelG B G s a w) : ∀ {vs : List Value} {avs : List AV} (hv : AVRL w G s.heap (Ban B.F G s.heap) vs avs) {ds : List D} (hb : borCs s.heap avs = some ds),
    ∃ S, TrL w false vs ds S ∧ (∀ v ∈ vs, v.oneCell' = true) ∧ Lent B G s.heap (avs.flatMap (keyC s.heap)) S
  | _, _, .nil, ds, hb => by
    simp only [borCs, Option.some.injEq] at hb
    subst hb
    exact ⟨[], .nil, by simp, .of (by simp)⟩
  | _, _, .cons v av vs avs hv hvs, ds, hb => by
    simp only [borCs, Option.bind_eq_some_iff, Option.map_eq_some_iff] at hb
    obtain ⟨x, hx, ds', hd, rfl⟩ := hb
    obtain ⟨S, t, o, l⟩ := borC_ok h hv hx
    obtain ⟨S', t', o', l'⟩ := borCs_ok h hvs hd
    refine ⟨S ++ S', .cons _ _ _ _ _ _ t t', ?_, l.append l'⟩
    intro u hu
    rcases List.mem_cons.1 hu with rfl | hu
    · exact o
    · exact o' u hu

theorem borB_ok (h : RelG B G s a w) {v : Value} {av : AV} (hv : AVR w G s.heap (Ban B.F G s.heap) v av) {x : D} (hb : borB s.heap av = some x) :
    ∃ S, Tr w false v x S ∧ v.oneCell' = true ∧ Lent B G s.heap (keyB s.heap av) S := by
  unfold borB at hb
  split at hb
  · rename_i k
    split at hb
    case h_2 => cases hb
    rename_i cs hk
    simp only [Option.map_eq_some_iff] at hb
    obtain ⟨ds, hd, rfl⟩ := hb
    cases hv with
    | a _ _ cs' hk' =>
      obtain ⟨cur, e, hg, hr, h1⟩ := (h.obj k _ hk : BoxR w G s.heap _ (G k) cs).cells
      obtain ⟨S, t, _, l⟩ := borCs_ok h hr hd
      refine ⟨(G k).blk :: S, .p _ 0 cur e (0, 0) cur.toList ds S hg (fun j v hj => by simpa using hj) h1 (by simp) t, rfl, ?_⟩
      simp only [keyB, hk]
      have hown : (G k).blk ∈ ownOf (G k) (s.heap k) := by rw [hk]; simp [ownOf]
      exact Lent.append (ks := [k]) (S := [(G k).blk]) (fun b hb => by
        obtain rfl : b = (G k).blk := by simpa using hb
        exact ⟨h.noF hown, fun k' hk' => by rw [h.disj k' k _ hk' hown]; simp⟩) l
    | ad _ _ _ hk' => rw [hk] at hk'; cases hk'
  · have := borC_ok h hv hb
    obtain ⟨S, t, o, l⟩ := this
    refine ⟨S, t, o, ?_⟩
    unfold keyB
    split
    · simp [borC] at hb
    · exact l

theorem borBs_ok (h : RelG B G s a w) : ∀ {vs : List Value} {avs : List AV} (hv : AVRL w G s.heap (Ban B.F G s.heap) vs avs) {ds : List D} (hb : borBs s.heap avs = some ds),
    ∃ S, TrL w false vs ds S ∧ (∀ v ∈ vs, v.oneCell' = true) ∧ Lent B G s.heap (avs.flatMap (keyB s.heap)) S
  | _, _, .nil, ds, hb => by
    simp only [borBs, Option.some.injEq] at hb
    subst hb
    exact ⟨[], .nil, by simp, .of (by simp)⟩
  | _, _, .cons v av vs avs hv hvs, ds, hb => by
    simp only [borBs, Option.bind_eq_some_iff, Option.map_eq_some_iff] at hb
    obtain ⟨x, hx, ds', hd, rfl⟩ := hb
    obtain ⟨S, t, o, l⟩ := borB_ok h hv hx
    obtain ⟨S', t', o', l'⟩ := borBs_ok h hvs hd
    refine ⟨S ++ S', .cons _ _ _ _ _ _ t t', ?_, l.append l'⟩
    intro u hu
    rcases List.mem_cons.1 hu with rfl | hu
    · exact o
    · exact o' u hu

theorem flat_one {v : Value} (h : v.oneCell' = true) : Flat v := by
  intro u hu
  have hc : v.cells = #[v] := by cases v <;> simp_all [Value.cells, Value.oneCell']
  rw [hc] at hu
  obtain rfl : u = v := by simpa using hu
  exact h

theorem bor_ok (h : RelG B G s a w) {v : Value} {av : AV} (hv : AVR w G s.heap (Ban B.F G s.heap) v av) {x : D} (hb : bor s.heap av = some x) :
    ∃ S, Tr w false v x S ∧ Flat v ∧ Lent B G s.heap (keyA s.heap av) S := by
  unfold bor at hb
  split at hb
  · simp only [Option.map_eq_some_iff] at hb
    obtain ⟨ds, hd, rfl⟩ := hb
    cases hv with
    | g cs _ hcs =>
      obtain ⟨S, t, o, l⟩ := borCs_ok h hcs hd
      exact ⟨S, .g _ _ _ t, o, l⟩
  · simp only [Option.map_eq_some_iff] at hb
    obtain ⟨ds, hd, rfl⟩ := hb
    cases hv with
    | f fn cs _ hcs =>
      obtain ⟨S, t, o, l⟩ := borBs_ok h hcs hd
      exact ⟨S, .f _ _ _ _ t, flat_one rfl, l⟩
  · obtain ⟨S, t, o, l⟩ := borB_ok h hv hb
    refine ⟨S, t, flat_one o, ?_⟩
    unfold keyA
    split
    · simp [borB, borC] at hb
    · simp [borB, borC] at hb
    · exact l

theorem borL_ok (h : RelG B G s a w) : ∀ {vs : List Value} {avs : List AV} (hv : AVRL w G s.heap (Ban B.F G s.heap) vs avs) {ds : List D} (hb : borL s.heap avs = some ds),
    ∃ S, ArgsR w vs (ds.map .d) S [] ∧ Lent B G s.heap (avs.flatMap (keyA s.heap)) S
  | _, _, .nil, ds, hb => by
    simp only [borL, Option.some.injEq] at hb
    subst hb
    exact ⟨[], .nil, .of (by simp)⟩
  | _, _, .cons v av vs avs hv hvs, ds, hb => by
    simp only [borL, Option.bind_eq_some_iff, Option.map_eq_some_iff] at hb
    obtain ⟨x, hx, ds', hd, rfl⟩ := hb
    obtain ⟨S, t, o, l⟩ := bor_ok h hv hx
    obtain ⟨S', t', l'⟩ := borL_ok h hvs hd
    exact ⟨S ++ S', .d _ _ _ _ _ _ _ t o t', l.append l'⟩

theorem ioCs_ok (h : RelG B G s a w) : ∀ {vs : List Value} {avs : List AV} (hv : AVRL w G s.heap (Ban B.F G s.heap) vs avs) {ds : List D} {ks : List Nat} (hb : ioCs s.heap avs = some (ds, ks)),
    ∃ S, TrL w true vs ds S ∧ (∀ v ∈ vs, v.oneCell' = true) ∧ (∀ b ∈ S, ∃ k ∈ ks, b ∈ ownOf (G k) (s.heap k)) ∧ (ks.Nodup → S.Nodup) ∧ ∀ k ∈ ks, s.heap k ≠ none
  | _, _, .nil, ds, ks, hb => by
    simp only [ioCs, Option.some.injEq, Prod.mk.injEq] at hb
    obtain ⟨rfl, rfl⟩ := hb
    exact ⟨[], .nil, by simp, by simp, fun _ => List.nodup_nil, by simp⟩
  | _, _, .cons v av vs avs hv hvs, ds, ks, hb => by
    cases av with
    | r k =>
      simp only [ioCs] at hb
      split at hb
      case h_2 => cases hb
      rename_i sz xs ve hk
      simp only [Option.map_eq_some_iff, Prod.mk.injEq] at hb
      obtain ⟨⟨ds', ks'⟩, hd, rfl, rfl⟩ := hb
      obtain ⟨S', t', o', w', n', k'⟩ := ioCs_ok h hvs hd
      cases hv with
      | r _ sz0 xs0 dp0 fz0 ve0 ad hk0 ha =>
        rw [hk] at hk0
        cases hk0
        have hR : RowR w (Ban B.F G s.heap) (G k) sz xs true false := h.obj k _ hk
        obtain ⟨S, t1, t2, t3⟩ := hR.whole ha
        have hin : ∀ b ∈ S, b ∈ ownOf (G k) (s.heap k) := fun b hb => by
          obtain ⟨hc, hb⟩ := t2 b hb
          rw [hk]
          simpa [ownOf, hc] using hb
        refine ⟨S ++ S', .cons _ _ _ _ _ _ t1 t', ?_, ?_, ?_, ?_⟩
        · intro u hu
          rcases List.mem_cons.1 hu with rfl | hu
          · rfl
          · exact o' u hu
        · intro b hb
          rcases List.mem_append.1 hb with hb | hb
          · exact ⟨k, by simp, hin b hb⟩
          · obtain ⟨i, hi, hm⟩ := w' b hb
            exact ⟨i, by simp [hi], hm⟩
        · intro hn
          obtain ⟨h1, h2⟩ := List.nodup_cons.1 hn
          refine List.nodup_append.2 ⟨?_, n' h2, ?_⟩
          · by_cases hc : (G k).cap = 0
            · have : S = [] := List.eq_nil_iff_forall_not_mem.2 fun b hb => (t2 b hb).1 hc
              rw [this]; exact List.nodup_nil
            · have hnd := h.nodup k
              rw [hk] at hnd
              simp only [ownOf, if_true, hc, if_false] at hnd
              exact t3 rfl (List.nodup_cons.1 hnd).1
          · intro b hb c hc e
            subst e
            obtain ⟨i, hi, hm⟩ := w' b hc
            have := h.disj i k b hm (hin b hb)
            subst this
            exact h1 hi
        · intro i hi
          rcases List.mem_cons.1 hi with rfl | hi
          · rw [hk]; simp
          · exact k' i hi
      | rd _ _ hk0 => rw [hk] at hk0; cases hk0
    | d x =>
      simp only [ioCs] at hb
      split at hb
      case isFalse => cases hb
      rename_i hsc
      simp only [Option.map_eq_some_iff, Prod.mk.injEq] at hb
      obtain ⟨⟨ds', ks'⟩, hd, rfl, rfl⟩ := hb
      obtain ⟨S', t', o', w', n', k'⟩ := ioCs_ok h hvs hd
      cases hv with
      | d _ _ S h1 ht hS =>
        obtain ⟨_, hany, _⟩ := scal_tr ht hsc
        refine ⟨[] ++ S', .cons _ _ _ _ _ _ (hany w true) t', ?_, by simpa using w', by simpa using n', k'⟩
        intro u hu
        rcases List.mem_cons.1 hu with rfl | hu
        · exact h1
        · exact o' u hu
    | _ => simp [ioCs] at hb

/-- The entries of what was handed over and has been written. -/
theorem ioEnts (h : RelG B G s a w) : ∀ {vs : List Value} {avs : List AV} (hv : AVRL w G s.heap (Ban B.F G s.heap) vs avs) {ds : List D} {ks : List Nat} (hb : ioCs s.heap avs = some (ds, ks)) (hks : ks.Nodup)
    {ds' : List D} {S : List Nat} (ht : TrL w' true vs ds' S) (hn : S.Nodup) {os : List (Nat × Ob)} (ho : ioObs s.heap avs ds' = some os),
    ∃ L : List (Nat × GI × Ob), L.map (fun x => (x.1, x.2.2)) = os ∧ L.map (·.1) = ks ∧ Ents w' S L ∧ ∀ x ∈ L, ∀ o, s.heap x.1 = some o → Ob.to (G x.1) x.2.1 o x.2.2
  | _, _, .nil, ds, ks, hb, hks, ds', S, ht, hn, os, ho => by
    simp only [ioCs, Option.some.injEq, Prod.mk.injEq] at hb
    obtain ⟨rfl, rfl⟩ := hb
    cases ht
    simp only [ioObs, Option.some.injEq] at ho
    subst ho
    exact ⟨[], rfl, rfl, .nil _, by simp⟩
  | _, _, .cons v av vs avs hv hvs, ds, ks, hb, hks, ds', S, ht, hn, os, ho => by
    cases ht with
    | cons _ d S1 _ ds1 S2 ht hts =>
    obtain ⟨n1, n2, n3⟩ := List.nodup_append.1 hn
    cases av with
    | r k =>
      simp only [ioCs] at hb
      split at hb
      case h_2 => cases hb
      rename_i sz xs ve hk
      simp only [Option.map_eq_some_iff, Prod.mk.injEq] at hb
      obtain ⟨⟨ds0, ks0⟩, hd, rfl, rfl⟩ := hb
      obtain ⟨k1, k2⟩ := List.nodup_cons.1 hks
      cases d with
      | l sz' xs' =>
        simp only [ioObs, hk] at ho
        split at ho
        case isFalse => cases ho
        rename_i e
        subst e
        simp only [Option.map_eq_some_iff] at ho
        obtain ⟨os', ho', rfl⟩ := ho
        obtain ⟨L, e1, e2, e3, e4⟩ := ioEnts h hvs hd k2 hts n2 ho'
        cases hv with
        | r _ sz0 xs0 dp0 fz0 ve0 ad hk0 ha =>
          rw [hk] at hk0
          cases hk0
          obtain ⟨gi, ad', r1, r2, r3, r6, r4, r5⟩ := deepRow (G k).blk (G k).off ht n1
          simp only [Value.slice.injEq] at r2
          obtain ⟨rfl, r7, r8⟩ := r2
          refine ⟨(k, gi, .row sz' xs' true false (ve + 1)) :: L, by simp [e1], by simp [e2], e3.cons (by rw [e2]; exact k1) r1 (r4 _) (r5 _) (fun b hb hb' => n3 b hb b hb' rfl), ?_⟩
          intro x hx o hxo
          rcases List.mem_cons.1 hx with rfl | hx
          · simp only at hxo ⊢
            rw [hk] at hxo
            cases hxo
            by_cases hc : (G k).cap = 0
            · obtain ⟨q1, q2⟩ := r6 (by omega)
              exact .row _ _ _ _ _ _ _ _ _ r7.symm q1 q2 r8.symm (.inl (Nat.lt_succ_self _))
            · have h1 := ha (by omega)
              have h2 := r3 (by omega)
              rw [h1] at h2
              simp only [Option.some.injEq, Addr.mk.injEq] at h2
              exact .row _ _ _ _ _ _ _ _ _ r7.symm h2.1.symm h2.2.1.symm r8.symm (.inl (Nat.lt_succ_self _))
          · exact e4 x hx o hxo
        | rd _ _ hk0 => rw [hk] at hk0; cases hk0
      | _ => simp [ioObs] at ho
    | d x =>
      simp only [ioCs] at hb
      split at hb
      case isFalse => cases hb
      simp only [Option.map_eq_some_iff, Prod.mk.injEq] at hb
      obtain ⟨⟨ds0, ks0⟩, hd, rfl, rfl⟩ := hb
      simp only [ioObs] at ho
      obtain ⟨L, e1, e2, e3, e4⟩ := ioEnts h hvs hd hks hts n2 ho
      exact ⟨L, e1, e2, e3.mono fun b hb => by simp [hb], e4⟩
    | _ => simp [ioCs] at hb
end rel
end Go.Fs
