/- A part of the proof: an evaluator of the program's code over plain data, proved sound, or a function's walk by it. No conditions beyond those in the theorems. -/
import Derived.Test.YtbgbnmghhmfihaaFsF
set_option linter.unusedVariables false
set_option linter.constructorNameAsVariable false
namespace Go.Fs
open Go.RowKit

/-- The cells of a value. -/
def cellsA : AV → List AV
  | .g cs => cs
  | av => [av]

/-- A value of one cell, of which something is known. -/
def oneA (H : Nat → Option Ob) : AV → Bool
  | .d _ | .z _ | .q _ _ | .f _ _ => true
  | .r k => match H k with | some (.row ..) => true | _ => false
  | .a k _ => match H k with | some (.box _) => true | _ => false
  | .e k _ _ => match H k with | some (.row ..) => true | _ => false
  | _ => false

def opStore (T : Tab) (H : Nat → Option Ob) (ty : TypeId) (p x : AV) : Option (Nat → Option Ob) :=
  (T.ti ty).bind fun ti =>
  if (cellsA x).length = ti.size ∧ (cellsA x).all (oneA H) = true then match p with
  | .a k o => match H k with
    | some (.box cs) => if o + ti.size ≤ cs.length then some (upd H k (some (.box (cs.take o ++ cellsA x ++ cs.drop (o + ti.size))))) else none
    | _ => none
  | .e k i o => (moveCs H (cellsA x)).bind fun m => match m.2.2 k with
    | some (.row sz xs dp false ve) => if o + ti.size ≤ sz then
        some (upd m.2.2 k (some (.row sz (xs.set i ((xs.getD i []).take o ++ m.1 ++ (xs.getD i []).drop (o + ti.size))) (dp && m.2.1) false (ve + 1)))) else none
    | _ => none
  | _ => none else none

section rel
variable {P : Program} {T : Tab} {B : Ctx} {G : Nat → GI} {s : St} {a : Act} {w : World}

theorem oneA_ok {H : Nat → Option Ob} {Av : Nat → Prop} {v : Value} {av : AV} (h : AVR w G H Av v av) (h1 : oneA H av = true) : v.oneCell' = true := by
  cases h <;> simp_all [oneA] <;> rfl

theorem cellsA_ok {H : Nat → Option Ob} {Av : Nat → Prop} {v : Value} {av : AV} (h : AVR w G H Av v av) (h1 : (cellsA av).all (oneA H) = true) : AVRL w G H Av v.cells.toList (cellsA av) ∧ ∀ u ∈ v.cells.toList, u.oneCell' = true := by
  have all_one : ∀ {vs : List Value} {as : List AV}, AVRL w G H Av vs as → as.all (oneA H) = true → ∀ u ∈ vs, u.oneCell' = true := by
    intro vs as hl
    induction hl using AVRL.rec (motive_1 := fun _ _ _ => True) with
    | nil => simp
    | cons v av vs as hv hs _ ih =>
      intro hall u hu
      simp only [List.all_cons, Bool.and_eq_true] at hall
      rcases List.mem_cons.1 hu with rfl | hu
      · exact oneA_ok hv hall.1
      · exact ih hall.2 u hu
    | _ => trivial
  cases hav : av with
  | g cs =>
    subst hav
    cases h with
    | g vs _ h => exact ⟨h, all_one h h1⟩
  | _ =>
    subst hav
    have e := oneA_ok h (by simpa [cellsA] using h1)
    have hc : v.cells = #[v] := by cases v <;> simp_all [Value.cells, Value.oneCell']
    rw [hc]
    exact ⟨.cons _ _ _ _ h .nil, by simpa using e⟩

theorem run_storeVar_at {t : TypeId} {ti : TI} (h : TIOK P t ti) {g o : Nat} {cur : Array Value} {e : TypeId} (hg : w.heap[g]? = some (.cells cur e (0, 0))) {v : Value} (hl : v.cells.toList.length = ti.size)
    (ho : o + ti.size ≤ cur.size) (h1 : ∀ u ∈ v.cells.toList, u.oneCell' = true) :
    (storeVar t ⟨g, o, none⟩ v).run P w = .ok () (w.setRow g (List.take o cur.toList ++ v.cells.toList ++ List.drop (o + ti.size) cur.toList).toArray) := by
  have := run_storeCells_at P g o e v.cells.toList 0 cur w hg (by omega) h1
  rw [Nat.add_zero, hl] at this
  have hs : v.cells.size = ti.size := by simpa using hl
  simp [storeVar, h.sizeOf w, hs, this]

theorem rest_setRow (w : World) (g : Nat) (cs : Array Value) : Rest w (w.setRow g cs) := ⟨rfl, rfl, rfl, by simp [World.setRow]⟩

theorem opStore_ok (hT : T.ok P = true) (h : RelG B G s a w) {ty : TypeId} {p x : AV} {pv xv : Value} (hp : AVR w G s.heap (Ban B.F G s.heap) pv p) (hx : AVR w G s.heap (Ban B.F G s.heap) xv x) {H' : Nat → Option Ob} (hm : opStore T s.heap ty p x = some H') :
    ∃ w' G', (Instr.storeAt ty pv xv).run P w = .ok () w' ∧ RelG B G' { s with heap := H' } a w' := by
  simp only [opStore, Option.bind_eq_some_iff] at hm
  obtain ⟨ti, hti, hm⟩ := hm
  have hok := tiok hT hti
  split at hm
  case isFalse => cases hm
  rename_i hcond
  obtain ⟨hlen, hall⟩ := hcond
  obtain ⟨hcs, hone⟩ := cellsA_ok hx hall
  have hxl : xv.cells.toList.length = ti.size := by rw [hcs.length, hlen]
  cases hp with
  | a k o cs hk =>
    simp only [hk] at hm
    split at hm
    case isFalse => cases hm
    rename_i hle
    simp only [Option.some.injEq] at hm
    obtain ⟨cur, e, hg, hr, h1⟩ := (h.obj k _ hk : BoxR w G s.heap _ (G k) cs).cells
    have hl := hr.length
    rw [Array.length_toList] at hl
    have hrun := run_storeVar_at (P := P) hok (o := o) hg hxl (by omega) hone
    refine ⟨_, G, by simp only [Instr.storeAt, Instr.sureAddr, pure_bind]; exact hrun, ?_⟩
    rw [← hm]
    have hlt : (G k).blk < w.heap.size := (Array.getElem?_eq_some_iff.1 hg).1
    refine h.step (G' := G) _ (fun i => i = k) (rest_setRow ..) ?_ (fun i hi => ⟨upd_ne _ _ hi, rfl⟩) ?_ ?_ ?_ ?_ ?_
    · intro b hb hn
      have hbk : b ≠ (G k).blk := by
        intro e'
        apply hn k rfl
        rw [hk]
        simp [ownOf, e']
      exact setRow_other w _ _ _ hbk
    · rintro i o' rfl ho
      rw [hk] at ho
      cases ho
      exact ⟨_, upd_same .., .box _ _ rfl⟩
    · rintro i rfl b hb
      rw [upd_same] at hb
      exact .inl ⟨i, rfl, by rw [hk]; simpa [ownOf] using hb⟩
    · rintro i rfl; rw [upd_same]; simp [ownOf]
    · rintro i j rfl rfl _ _ _; rfl
    · rintro i o' rfl ho
      rw [upd_same] at ho
      cases ho
      have hM := AVR.mono_both (w := w) (w' := w.setRow (G i).blk (List.take o cur.toList ++ xv.cells.toList ++ List.drop (o + ti.size) cur.toList).toArray) (G := G) (G' := G) (H := s.heap)
        (H' := upd s.heap i (some (.box (cs.take o ++ cellsA x ++ cs.drop (o + ti.size))))) (Av := Ban B.F G s.heap) (Av' := Ban B.F G (upd s.heap i (some (.box (cs.take o ++ cellsA x ++ cs.drop (o + ti.size))))))
        (fun b hb hn => setRow_other w _ _ _ fun e' => hn (.inl ⟨i, by rw [hk]; simp [ownOf, e']⟩))
        (by
          rintro b _ (⟨j, hj⟩ | hf)
          case inr => exact .inr hf
          left
          by_cases e' : j = i
          · subst e'; rw [upd_same] at hj; exact ⟨j, by rw [hk]; simpa [ownOf] using hj⟩
          · rw [upd_ne _ _ e'] at hj; exact ⟨j, hj⟩)
        (by
          intro j o' ho
          by_cases e' : j = i
          · subst e'; rw [hk] at ho; cases ho; exact ⟨_, upd_same .., .box _ _ rfl⟩
          · exact ⟨o', by rw [upd_ne _ _ e']; exact ho, Ob.to.refl _ _⟩)
      refine ⟨_, e, setRow_heap w _ _ _ _ _ hg, ?_, ?_⟩
      · apply hM.2
        exact ((hr.take o).append hcs).append (hr.drop (o + ti.size))
      · intro u hu
        rw [List.toList_toArray] at hu
        simp only [List.mem_append] at hu
        rcases hu with (hu | hu) | hu
        · exact h1 u (List.mem_of_mem_take hu)
        · exact hone u hu
        · exact h1 u (List.mem_of_mem_drop hu)
  | e k i_ o sz0 xs0 dp0 fz0 ve0 hk0 hi0 =>
    simp only [Option.bind_eq_some_iff] at hm
    obtain ⟨⟨ds, f, H1⟩, hmv, hm⟩ := hm
    obtain ⟨M, S', t', _, n', o'⟩ := moveCs_ok h hcs hmv
    simp only at hm
    split at hm
    case h_2 => cases hm
    rename_i sz xs dp ve hk1
    split at hm
    case isFalse => cases hm
    rename_i hle
    simp only [Option.some.injEq] at hm
    have hk : s.heap k = some (.row sz xs dp false ve) := by
      rcases M.keys k with e | ⟨_, e⟩
      · rw [← e]; exact hk1
      · rw [e] at hk1; cases hk1
    have hsame : sz0 = sz ∧ xs0 = xs := by rw [hk] at hk0; cases hk0; exact ⟨rfl, rfl⟩
    obtain ⟨rfl, rfl⟩ := hsame
    have h1 : RelG B G { s with heap := H1 } a w := M.rel
    have hR : RowR w (Ban B.F G H1) (G k) sz0 xs0 dp false := h1.obj k _ hk1
    obtain ⟨hcells, r2, r3, r4, r5, r6, r7, r8, r9, r10⟩ := hR
    have hi : i_ < xs0.length := hi0
    have hc : (G k).cap ≠ 0 := by omega
    obtain ⟨cur, e, hg, hcap, hvs⟩ := hcells (by omega)
    obtain ⟨y, hy⟩ : ∃ y, xs0[i_]? = some y := ⟨_, List.getElem?_eq_getElem hi⟩
    have hyl : y.length = sz0 := r6 y (List.mem_of_getElem? hy)
    have hgd : xs0.getD i_ [] = y := by rw [List.getD_eq_getElem?_getD, hy]; rfl
    rw [hgd] at hm
    have hdl : ds.length = ti.size := by rw [← t'.length, hxl]
    have hmul : (i_ + 1) * sz0 ≤ xs0.length * sz0 := Nat.mul_le_mul_right _ hi
    have hmul2 : xs0.length * sz0 ≤ (G k).cap * sz0 := Nat.mul_le_mul_right _ r2
    rw [Nat.succ_mul] at hmul
    have hrun := run_storeVar_at (P := P) (w := w) hok (o := (G k).off + i_ * sz0 + o) hg hxl (by omega) hone
    have hnk : ∀ b ∈ S', b ∉ ownOf (G k) (H1 k) := fun b hb hm => n' b hb (.inl ⟨k, hm⟩)
    -- the new list of cells
    obtain ⟨S'', t'', s'', d''⟩ : ∃ S'', TrL w (dp && f) ((G k).vs.take (i_ * sz0 + o) ++ xv.cells.toList ++ (G k).vs.drop (i_ * sz0 + o + ti.size)) (xs0.set i_ (y.take o ++ ds ++ y.drop (o + ti.size))).flatten S'' ∧ (∀ b ∈ S'', b ∈ (G k).sub ∨ b ∈ S') ∧ ((dp && f) = true → S''.Nodup) := by
      have hfl := flat_splice r6 hy (o := o) (es := ds) (by omega)
      rw [hdl] at hfl
      rw [hfl]
      by_cases hd : (dp && f) = true
      · rw [hd]
        simp at hd
        obtain ⟨e1, e2⟩ := hd
        rw [e1] at r7
        rw [e2] at t'
        obtain ⟨S'', u1, u2, u3⟩ := r7.splice t' (i_ * sz0 + o)
        rw [hxl, hdl] at u1
        refine ⟨S'', u1, u2, fun _ => u3 (r8 e1) (o' e2).1 fun b hb hn => ?_⟩
        apply hnk b hn
        rw [hk1, e1]
        simp [ownOf, hc, hb]
      · rw [Bool.not_eq_true] at hd
        rw [hd]
        obtain ⟨S'', u1, u2, u3⟩ := r7.shared.splice t'.shared (i_ * sz0 + o)
        rw [hxl, hdl] at u1
        exact ⟨S'', u1, u2, by simp⟩
    let gi' : GI := { (G k) with vs := (G k).vs.take (i_ * sz0 + o) ++ xv.cells.toList ++ (G k).vs.drop (i_ * sz0 + o + ti.size), sub := S'' }
    have hvl : (G k).vs.length = xs0.length * sz0 := r4
    have hSlt : ∀ b ∈ S', b < w.heap.size := t'.lt
    have hHk : H1 k ≠ none := by rw [hk1]; simp
    refine ⟨_, upd G k gi', by simp only [Instr.storeAt, Instr.sureAddr, pure_bind]; exact hrun, ?_⟩
    rw [← hm]
    -- what is handed over: its blocks belong to nobody now
    have hblkS : (G k).blk ∉ S' := fun hb => hnk _ hb (by rw [hk1]; simp [ownOf, hc])
    have hown' : ∀ b, b ∈ ownOf gi' (some (.row sz0 (xs0.set i_ (y.take o ++ ds ++ y.drop (o + ti.size))) (dp && f) false (ve + 1))) → b ∈ ownOf (G k) (H1 k) ∨ (b ∈ S' ∧ f = true) := by
      intro b hb
      rw [hk1]
      by_cases hd : (dp && f) = true
      · rw [hd] at hb
        simp at hd
        simp only [ownOf, if_true, gi', hc, if_false, List.mem_cons] at hb
        rcases hb with rfl | hb
        · exact .inl (by simp [ownOf, hc])
        · rcases s'' b hb with hb | hb
          · exact .inl (by simp [ownOf, hc, hd.1, hb])
          · exact .inr ⟨hb, hd.2⟩
      · rw [Bool.not_eq_true] at hd
        rw [hd] at hb
        simp only [ownOf, gi', hc, Bool.false_eq_true, if_false, List.mem_cons, List.not_mem_nil, or_false] at hb
        subst hb
        exact .inl (by simp [ownOf, hc])
    have hsubk : (G k).blk ∉ (G k).sub := by
      cases hdp : dp with
      | true =>
        have := h1.nodup k
        simp only [hk1, hdp, ownOf, if_true, hc, if_false] at this
        exact (List.nodup_cons.1 this).1
      | false => exact fun hb => r9 (.inl hdp) _ hb (.inl ⟨k, by rw [hk1]; simp [ownOf, hc]⟩)
    have hS''k : (G k).blk ∉ S'' := fun hb => (s'' _ hb).elim hsubk hblkS
    have hdead : ∀ i, i ≠ k → H1 i ≠ s.heap i → H1 i = some .dead := fun i _ hn => (M.keys i).elim (fun e => absurd e hn) fun e => e.2
    refine h.step (G' := upd G k gi') _ (fun i => i = k ∨ H1 i ≠ s.heap i) (rest_setRow ..) ?_ ?_ ?_ ?_ ?_ ?_ ?_
    · intro b hb hn
      refine setRow_other w _ _ _ fun e' => hn k (.inl rfl) ?_
      rw [hk]
      simp [ownOf, hc, e']
    · intro i hi
      simp only [not_or, ne_eq, Classical.not_not] at hi
      exact ⟨(upd_ne _ _ hi.1).trans hi.2, upd_ne _ _ hi.1⟩
    · intro i o' hi ho
      by_cases e' : i = k
      · subst e'
        rw [hk] at ho
        cases ho
        refine ⟨_, upd_same .., ?_⟩
        rw [upd_same]
        exact .row _ _ _ _ _ _ _ _ _ (by rw [List.length_set]) rfl rfl rfl (.inl (Nat.lt_succ_self _))
      · exact ⟨.dead, (upd_ne _ _ e').trans (hdead i e' (hi.resolve_left e')), .dead _⟩
    · intro i hi b hb
      by_cases e' : i = k
      · subst e'
        rw [upd_same, upd_same] at hb
        rcases hown' b hb with hb | ⟨hb, hf⟩
        · rw [hk1] at hb
          exact .inl ⟨i, .inl rfl, by rw [hk]; exact hb⟩
        · obtain ⟨j, hj⟩ := (o' hf).2 b hb
          refine .inl ⟨j, .inr fun e => n' b hb (.inl ⟨j, ?_⟩), hj⟩
          rw [e]; exact hj
      · rw [upd_ne _ _ e', upd_ne _ _ e', hdead i e' (hi.resolve_left e')] at hb
        simp [ownOf] at hb
    · intro i hi
      by_cases e' : i = k
      · subst e'
        rw [upd_same, upd_same]
        by_cases hd : (dp && f) = true
        · rw [hd]
          simp only [ownOf, if_true, gi', hc, if_false]
          exact List.nodup_cons.2 ⟨hS''k, d'' hd⟩
        · rw [Bool.not_eq_true] at hd
          rw [hd]
          simp [ownOf, hc, gi']
      · rw [upd_ne _ _ e', upd_ne _ _ e', hdead i e' (hi.resolve_left e')]
        simp [ownOf]
    · intro i j hi hj b hb hb'
      by_cases e' : i = k
      · by_cases e2 : j = k
        · rw [e', e2]
        · rw [upd_ne _ _ e2, upd_ne _ _ e2, hdead j e2 (hj.resolve_left e2)] at hb'
          simp [ownOf] at hb'
      · rw [upd_ne _ _ e', upd_ne _ _ e', hdead i e' (hi.resolve_left e')] at hb
        simp [ownOf] at hb
    · intro i o' hi ho
      by_cases e' : i = k
      · subst e'
        rw [upd_same] at ho ⊢
        cases ho
        have hvl2 : ((G i).vs.take (i_ * sz0 + o) ++ xv.cells.toList ++ (G i).vs.drop (i_ * sz0 + o + ti.size)).length = (G i).vs.length := by
          simp only [List.length_append, List.length_take, List.length_drop, hxl]; omega
        have hcs2 : (List.take ((G i).off + i_ * sz0 + o) cur.toList ++ xv.cells.toList ++ List.drop ((G i).off + i_ * sz0 + o + ti.size) cur.toList).length = cur.size := by
          simp only [List.length_append, List.length_take, List.length_drop, hxl, Array.length_toList]; omega
        have hseg := seg_splice (o := (G i).off) (n := i_ * sz0 + o) (ms := xv.cells.toList) hvs (by omega) (by omega)
        rw [hxl] at hseg
        refine ⟨fun _ => ⟨_, e, setRow_heap w _ _ _ _ _ hg, ?_, ?_⟩, ?_, r3, ?_, ?_, ?_, t''.keep fun b hb => setRow_other w _ _ _ fun e' => hS''k (e' ▸ hb), fun hd => d'' hd, ?_, by simp⟩
        · show (G i).off + (G i).cap * sz0 ≤ _
          simp only [List.size_toArray]
          rw [hcs2]
          exact hcap
        · intro j v hj
          have := hseg j v hj
          rw [show (G i).off + (i_ * sz0 + o) = (G i).off + i_ * sz0 + o by omega] at this
          exact this
        · rw [List.length_set]; exact r2
        · show (List.length _) = _
          rw [hvl2, List.length_set]
          exact r4
        · intro u hu
          simp only [gi', List.mem_append] at hu
          rcases hu with (hu | hu) | hu
          · exact r5 u (List.mem_of_mem_take hu)
          · exact hone u hu
          · exact r5 u (List.mem_of_mem_drop hu)
        · intro z hz
          rcases List.mem_or_eq_of_mem_set hz with hz | rfl
          · exact r6 z hz
          · simp only [List.length_append, List.length_take, List.length_drop, hdl]; omega
        · intro hd b hb hn
          have hd' : (dp && f) = false := by simpa using hd
          rcases hn with ⟨j, hj⟩ | hfb
          case inr =>
            rcases s'' b hb with hb | hb
            · cases hdp : dp with
              | false => exact r9 (.inl hdp) b hb (.inr hfb)
              | true =>
                exact h1.noF (k := i) (by show b ∈ ownOf (G i) (H1 i); rw [hk1, hdp]; simp [ownOf, hc, hb]) hfb
            · exact n' b hb (.inr hfb)
          by_cases e2 : j = i
          · subst e2
            rw [upd_same, upd_same, hd'] at hj
            simp only [ownOf, Bool.false_eq_true, if_false, gi', hc, List.mem_cons, List.not_mem_nil, or_false] at hj
            subst hj
            exact hS''k hb
          · rw [upd_ne _ _ e2, upd_ne _ _ e2] at hj
            rcases s'' b hb with hb | hb
            · cases hdp : dp with
              | false => exact r9 (.inl hdp) b hb (.inl ⟨j, hj⟩)
              | true => exact e2 (h1.disj j i b hj (by show b ∈ ownOf (G i) (H1 i); rw [hk1, hdp]; simp [ownOf, hc, hb]))
            · exact n' b hb (.inl ⟨j, hj⟩)
      · rw [upd_ne _ _ e', hdead i e' (hi.resolve_left e')] at ho
        cases ho
        trivial
  | ed k i_ o v hk0 =>
    simp only [Option.bind_eq_some_iff] at hm
    obtain ⟨⟨ds, f, H1⟩, hmv, hm⟩ := hm
    obtain ⟨M, _⟩ := moveCs_ok h hcs hmv
    simp only at hm
    split at hm
    case h_2 => cases hm
    rename_i sz xs dp ve hk1
    rcases M.keys k with e | ⟨_, e⟩
    · rw [e, hk0] at hk1; cases hk1
    · rw [e] at hk1; cases hk1
  | _ => simp_all
end rel
end Go.Fs
