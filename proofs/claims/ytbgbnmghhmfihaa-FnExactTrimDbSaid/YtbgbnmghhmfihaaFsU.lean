/- A part of the proof: an evaluator of the program's code over plain data, proved sound, or a function's walk by it. No conditions beyond those in the theorems. -/
import Derived.Test.YtbgbnmghhmfihaaFsT
set_option linter.unusedVariables false
set_option linter.constructorNameAsVariable false
namespace Go.Fs
open Go.RowKit

def EndQ (T : Tab) (B : Ctx) (rs : List ResultVar) (out : Ret) : Exit → Act → World → Prop := fun e a w => (e = .normal ∨ e = .ret) ∧ ∃ G s, RelG B G s a w ∧ outR T s B.aa rs = some out

section rel
variable {P : Program} {T : Tab} {B : Ctx} {G : Nat → GI} {s : St} {a : Act} {w w' : World}

theorem leave_ok (hT : T.ok P = true) (h : RelG B G s a w') {fn : Func} {rs : List ResultVar} (hr : fn.results.toList = rs) {out : Ret} (ho : outR T s B.aa rs = some out) {args : List Value} {Sd M : List Nat}
    (hbase : B.base = w.heap.size) (hw0 : B.w0 = w) (hF : ∀ b, B.F b ↔ (b < w.heap.size ∧ b ∉ Sd ∧ b ∉ M)) (hM : ∀ b, B.M b ↔ b ∈ M) (hav : B.aa ≠ .x → ∃ vs, args = B.av :: vs) :
    ∃ v, (results fn a.tmps).run P w' = .ok v w' ∧ Post w args Sd M out v w' := by
  simp only [outR, Option.bind_eq_some_iff] at ho
  obtain ⟨as0, m0, ⟨avs, H1⟩, m1, ⟨ds, f, H2⟩, m2, ho⟩ := ho
  obtain ⟨us, v, hv, hus, hvs⟩ := run_results hT h (hr ▸ m0)
  refine ⟨v, hv, ?_⟩
  obtain ⟨e1, v1, l1⟩ := demAll_ok h hus m1
  obtain ⟨M2, S, t2, o2, n2, w2⟩ := moveVs_ok (s := { s with heap := H1 }) e1.rel v1 m2
  have hlen : ds.length = us.length := by rw [← t2.length]
  -- the answer
  have hret : ∀ {fl : Bool} {S : List Nat}, TrL w' fl us ds S → ∃ S', Tr w' fl v (packD ds) S' ∧ (∀ b, b ∈ S' ↔ b ∈ S) ∧ (S.Nodup → S'.Nodup) := by
    intro fl S ht
    rcases hvs with ⟨t, rfl, rfl⟩ | ⟨h1, rfl⟩
    · cases ht with
      | cons _ d S1 _ ds1 S2 ht hts =>
        cases hts
        exact ⟨S1, ht, by simp, by simp⟩
    · have : packD ds = .t ds := by
        match ds, hlen with
        | [], _ => rfl
        | [d], hl => exact absurd hl.symm h1
        | _ :: _ :: _, _ => rfl
      rw [this]
      exact ⟨S, .t _ _ _ (by simpa using ht), fun _ => Iff.rfl, fun h => h⟩
  have hfl : RetFlat v := by
    rcases hvs with ⟨t, rfl, rfl⟩ | ⟨_, rfl⟩
    · exact .inl (o2 _ (by simp))
    · exact .inr ⟨_, rfl, by simpa using o2⟩
  have hge : ∀ b, Own G H1 b → w.heap.size ≤ b ∨ b ∈ M := fun b ⟨k, hk⟩ => by
    have := e1.rel.ge k b hk
    rw [hbase] at this
    exact this.imp id (hM b).1
  have hrest : Rest w w' := hw0 ▸ h.rest
  have hkeep : ∀ b, b < w.heap.size → b ∉ M → w'.heap[b]? = w.heap[b]? := fun b hb hn => by
    rw [← hw0]
    exact h.below b (hbase ▸ hb) fun hm => hn ((hM b).1 hm)
  have hnF : ∀ {b : Nat}, ¬ B.F b → w.heap.size ≤ b ∨ b ∈ Sd ∨ b ∈ M := fun {b} hn => by
    rcases Nat.lt_or_ge b w.heap.size with h1 | h1
    · by_cases h2 : b ∈ Sd
      · exact .inr (.inl h2)
      · by_cases h3 : b ∈ M
        · exact .inr (.inr h3)
        · exact absurd ((hF b).2 ⟨h1, h2, h3⟩) hn
    · exact .inl h1
  split at ho
  · rename_i haa
    simp only [Option.some.injEq] at ho
    subst ho
    obtain ⟨S', r1, r2, r3⟩ := hret t2
    refine ⟨hrest, hkeep, S', [], r1, hfl, rfl, List.nodup_nil, by simp, by simp, fun hf => ?_, fun b hb => hnF fun hf => n2 b ((r2 b).1 hb) (.inr hf)⟩
    obtain ⟨q1, q2⟩ := w2 hf
    exact ⟨r3 q1, fun b hb => hge b (q2 b ((r2 b).1 hb))⟩
  · rename_i haa
    split at ho
    case isFalse => cases ho
    rename_i hf
    have hf : f = true := hf
    subst hf
    simp only [Option.bind_eq_some_iff] at ho
    obtain ⟨⟨x', f', H3⟩, m3, ho⟩ := ho
    split at ho
    case isFalse => cases ho
    rename_i hf'
    have hf' : f' = true := hf'
    subst hf'
    simp only [Option.some.injEq] at ho
    subst ho
    obtain ⟨S', r1, r2, r3⟩ := hret t2
    obtain ⟨M3, S3, t3, o3, n3, w3⟩ := moveV_ok (s := { s with heap := H2 }) M2.rel (M2.avr (e1.rel.anc)) m3
    obtain ⟨q1, q2⟩ := w2 rfl
    obtain ⟨q3, q4⟩ := w3 rfl
    obtain ⟨vs, hargs⟩ := hav haa
    refine ⟨hrest, hkeep, S', S3, r1, hfl, ⟨_, vs, hargs, t3⟩, q3, fun b hb => hge b (M2.own b (q4 b hb)), fun b hb hb3 => ?_, fun _ => ⟨r3 q1, fun b hb => hge b (q2 b ((r2 b).1 hb))⟩, fun b hb => hnF fun hf => n2 b ((r2 b).1 hb) (.inr hf)⟩
    exact n2 b ((r2 b).1 hb) (.inl (q4 b hb3))

theorem fnOK_of (hT : T.ok P = true) {f : FuncId} {fn : Func} {c : Code} (hf : P.funcs[f]? = some fn) (hb : fn.body = some c) (hnm : (fn.name == "runtime.NumGoroutine") = false) {rs : List ResultVar} (hres : fn.results.toList = rs)
    {ins : List In} (hi : insOK ins = true) (hn : ins.length ≤ fn.ntmps) {out : Ret} (hbody : ∀ B G a w, RelG B G (inSt fn.ntmps ins) a w → B.aa = ancA ins → c.wp P (EndQ T B rs out) a w) : FnOK P f ins out := by
  intro w args Sd M ha hM hd
  obtain ⟨B, G, hrel, h1, h2, h3, h4, h5, h6⟩ := enter_rel hi ha hM hd hn
  refine .inl ⟨?_, ?_⟩
  · have : ¬ fn.name = "runtime.NumGoroutine" := by simpa using hnm
    simp [callFunc, hf, hb, this]
  · refine calls_of_wp hf hb (wp_mono (hbody B G _ w hrel h5) fun e a' w' he => ?_)
    obtain ⟨he, G', s', hr, ho⟩ := he
    obtain ⟨v, hv, hp⟩ := leave_ok hT (w := w) (args := args) (Sd := Sd) (M := M) hr hres ho h1 h2 h3 h4 (fun hx => by
      cases ins with
      | nil => rw [h5] at hx; exact absurd rfl hx
      | cons i rest =>
        cases i with
        | d x => rw [h5] at hx; exact absurd rfl hx
        | io x => obtain ⟨vs, e, _⟩ := h6 x rest rfl; exact ⟨vs, e⟩)
    rcases he with rfl | rfl
    · exact ⟨hr.defers, v, hv, hp⟩
    · exact ⟨hr.defers, v, hv, hp⟩
end rel
end Go.Fs
