/- A part of the proof: an evaluator of the program's code over plain data, proved sound, or a function's walk by it. No conditions beyond those in the theorems. -/
import Derived.Test.YtbgbnmghhmfihaaFsL
set_option linter.unusedVariables false
set_option linter.constructorNameAsVariable false
namespace Go.Fs
open Go.RowKit

section rel
variable {P : Program} {T : Tab} {B : Ctx} {G : Nat → GI} {s : St} {a : Act} {w w' : World}

theorem scalL {own : Bool} : ∀ {vs : List Value} {ds : List D} {S : List Nat}, TrL w own vs ds S → ds.all scal = true → S = [] ∧ ∀ w' own', TrL w' own' vs ds []
  | _, _, _, .nil, _ => ⟨rfl, fun _ _ => .nil⟩
  | _, _, _, .cons v d S vs ds Ss h hs, ha => by
    simp only [List.all_cons, Bool.and_eq_true] at ha
    obtain ⟨rfl, h1, _⟩ := scal_tr h ha.1
    obtain ⟨rfl, h2⟩ := scalL hs ha.2
    exact ⟨rfl, fun w' own' => .cons v d [] vs ds [] (h1 w' own') (h2 w' own')⟩

theorem all_flat {ys : List (List D)} (h : ys.all (·.all scal) = true) : ys.flatten.all scal = true := by
  rw [List.all_eq_true] at h ⊢
  intro x hx
  obtain ⟨y, hy, hxy⟩ := List.mem_flatten.1 hx
  exact List.all_eq_true.1 (h y hy) x hxy

/-- What is appended, as it lies in memory. -/
structure Src (B : Ctx) (G : Nat → GI) (w : World) (H H1 : Nat → Option Ob) (sz : Nat) (v : Value) (ys : List (List D)) (f : Bool) (vs : List Value) (S : List Nat) : Prop where
  val : ∃ ad c, v = .slice ad ys.length c ∧ (ys ≠ [] → ∃ a', ad = some a' ∧ ∀ j u, vs[j]? = some u → w.cell? (a'.add j) = some u)
  len : vs.length = ys.length * sz
  uni : ∀ x ∈ ys, x.length = sz
  one : ∀ u ∈ vs, u.oneCell' = true
  tr : TrL w f vs ys.flatten S
  no : ∀ b ∈ S, ¬ Ban B.F G H1 b
  own : f = true → S.Nodup ∧ ∀ b ∈ S, Own G H b

theorem Src.ofTr {H1 : Nat → Option Ob} {sz : Nat} {v : Value} {ys : List (List D)} {f own : Bool} {S : List Nat} (h : Tr w own v (.l sz ys) S) {H : Nat → Option Ob}
    (hno : (f = true ∧ ys.all (·.all scal) = true) ∨ ∀ b ∈ S, ¬ Ban B.F G H1 b) (hf : f = true → (own = true ∧ S.Nodup ∧ ∀ b ∈ S, Own G H b) ∨ ys.all (·.all scal) = true) : ∃ vs S', Src B G w H H1 sz v ys f vs S' := by
  cases h with
  | z ad c _ ho =>
    refine ⟨[], [], ⟨ad, c, rfl, fun h => absurd rfl h⟩, by simp, by simp, by simp, ?_, by simp, fun _ => ⟨List.nodup_nil, by simp⟩⟩
    exact .nil
  | l g o c _ cur e fr vs _ S2 hg hc hm hl hv h1 hx ho hs =>
    have hval : ∃ ad c', Value.slice (some ⟨g, o, none⟩) ys.length c = .slice ad ys.length c' ∧ (ys ≠ [] → ∃ a', ad = some a' ∧ ∀ j u, vs[j]? = some u → w.cell? (a'.add j) = some u) :=
      ⟨_, _, rfl, fun _ => ⟨_, rfl, fun j u hj => by rw [add_at, cell_at hg]; exact hv j u hj⟩⟩
    cases hff : f with
    | false => exact ⟨vs, S2, hval, hl, hx, h1, hs.shared, fun b hb => (hno.resolve_left (by simp [hff])) b (by simp [hb]), by simp⟩
    | true =>
      by_cases hsc : ys.all (·.all scal) = true
      · obtain ⟨_, h2⟩ := scalL hs (all_flat hsc)
        exact ⟨vs, [], hval, hl, hx, h1, h2 w true, by simp, fun _ => ⟨List.nodup_nil, by simp⟩⟩
      · rcases hf hff with ⟨h2, h3, h4⟩ | h2
        · subst h2
          exact ⟨vs, S2, hval, hl, hx, h1, hs, fun b hb => (hno.resolve_left fun e => hsc e.2) b (by simp [hb]), fun _ => ⟨(List.nodup_cons.1 h3).2, fun b hb => h4 b (by simp [hb])⟩⟩
        · exact absurd h2 hsc

theorem srcA_ok (h : RelG B G s a w) {sz : Nat} {v : Value} {y : AV} (hv : AVR w G s.heap (Ban B.F G s.heap) v y) {ys : List (List D)} {f : Bool} {H1 : Nat → Option Ob} (hm : srcA s.heap sz y = some (ys, f, H1)) :
    Moved B G s a w H1 ∧ ∃ vs S, Src B G w s.heap H1 sz v ys f vs S := by
  cases hv with
  | z sz' =>
    simp only [srcA, Option.some.injEq, Prod.mk.injEq] at hm
    obtain ⟨rfl, rfl, rfl⟩ := hm
    exact ⟨.refl h, [], [], ⟨none, 0, rfl, fun h => absurd rfl h⟩, by simp, by simp, by simp, .nil, by simp, fun _ => ⟨List.nodup_nil, by simp⟩⟩
  | d v x S h1 ht hS =>
    cases x with
    | l sz' ys' =>
      simp only [srcA] at hm
      split at hm
      case isFalse => cases hm
      rename_i e
      subst e
      simp only [Option.some.injEq, Prod.mk.injEq] at hm
      obtain ⟨rfl, rfl, rfl⟩ := hm
      exact ⟨.refl h, Src.ofTr ht (.inr hS) fun h => .inr h⟩
    | _ => simp [srcA] at hm
  | r k sz' xs dp fz ve ad hk ha =>
    simp only [srcA, hk] at hm
    split at hm
    case isFalse => cases hm
    rename_i e
    subst e
    have hR : RowR w (Ban B.F G s.heap) (G k) sz' xs dp fz := h.obj k _ hk
    obtain ⟨S, t1, t2, t3⟩ := hR.whole ha
    have hmv := moveC_ok h (.r k sz' xs dp fz ve ad hk ha) (d := .l sz' xs) (f := dp && !fz) (H' := if fz then s.heap else upd s.heap k (some .dead)) (by simp [moveC, hk])
    split at hm
    · rename_i hsc
      simp only [Option.some.injEq, Prod.mk.injEq] at hm
      obtain ⟨rfl, rfl, rfl⟩ := hm
      exact ⟨.refl h, Src.ofTr t1 (.inl ⟨rfl, hsc⟩) fun _ => .inr hsc⟩
    · rename_i hsc
      simp only [Option.some.injEq, Prod.mk.injEq] at hm
      obtain ⟨rfl, rfl, rfl⟩ := hm
      obtain ⟨M, S', t', _, n', o'⟩ := hmv
      exact ⟨M, Src.ofTr t' (.inr n') fun hf => .inl ⟨by simpa using hf, (o' hf).1, (o' hf).2⟩⟩
  | _ => simp_all [srcA]
end rel
end Go.Fs
