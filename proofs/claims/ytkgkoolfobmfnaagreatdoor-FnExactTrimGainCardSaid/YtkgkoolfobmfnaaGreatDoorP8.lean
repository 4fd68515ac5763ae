/- A part of the proof: an evaluator of the program's code over plain data, proved sound; the equations of its functions; what they compute. No conditions beyond those in the theorems. -/
import Derived.Test.YtkgkoolfobmfnaaGreatDoorP7
set_option linter.unusedVariables false
set_option linter.unusedSimpArgs false
set_option linter.constructorNameAsVariable false
set_option linter.unusedSectionVars false
set_option linter.defProp false
namespace Go.Fs
open Go.RowKit

structure PlanOK (ops : Array Oper) (prs : List (Nat × Nat)) : Prop where
  dst : ∀ (i : Nat) (o : Oper), ops[i]? = some o → wrB o = true ∨ ∃ d, o.dst = some d
  back : ∀ (i : Nat) (o : Oper), ops[i]? = some o → ∀ e ∈ o.after, Region.binds .any e = true → e.on < i
  ne : ∀ (i j : Nat) (o p : Oper) (t : Nat), ops[i]? = some o → ops[j]? = some p → o.dst = some t → p.dst = some t → i = j
  look : ∀ (i j : Nat) (o p : Oper) (t : Nat), ops[i]? = some o → ops[j]? = some p → i ≠ j → p.dst = some t → t ∈ o.looksAt ops → onB o j = true ∨ onB p i = true
  chain : ∀ (i j : Nat) (o p : Oper), ops[i]? = some o → ops[j]? = some p → i ≠ j → wrB o = true → wrB p = true → depN ops ops.size i j = true ∨ depN ops ops.size j i = true
  chk : ∀ (i : Nat) (o : Oper), ops[i]? = some o → wrB o = false → ∀ q, q ≤ ops.size → loW ops i ≤ q → q ≤ hiW ops i → pureB o = true ∨ q = rankW ops i ∨ ∃ k, posW ops q = some k ∧ (i, k) ∈ prs
theorem planB_ok {ops : Array Oper} {prs : List (Nat × Nat)} (h : planB ops prs = true) : PlanOK ops prs := by
  simp only [planB, List.all_eq_true, List.mem_range] at h
  have at1 := fun (i : Nat) (o : Oper) (ho : ops[i]? = some o) => by
    have := h i (lt_of_some ho)
    rw [ho] at this
    simp only [Bool.and_eq_true, List.all_eq_true, List.mem_range] at this
    exact this
  have at2 : ∀ (i j : Nat) (o p : Oper), ops[i]? = some o → ops[j]? = some p → i ≠ j → ((p.dst != o.dst || p.dst.isNone) = true ∧ (match p.dst with | some t => !(o.looksAt ops).contains t || onB o j || onB p i | none => true) = true) ∧ (!(wrB o && wrB p) || depN ops ops.size i j || depN ops ops.size j i) = true := by
    intro i j o p ho hp hne
    have := (at1 i o ho).1.2 j (lt_of_some hp)
    rw [hp] at this
    simp only [Bool.or_eq_true (i == j), beq_iff_eq, hne, false_or, Bool.and_eq_true] at this
    exact this
  refine ⟨fun i o ho => ?_, fun i o ho e he hb => ?_, fun i j o p t ho hp h1 h2 => ?_, fun i j o p t ho hp hne ht hm => ?_, fun i j o p ho hp hne w1 w2 => ?_, fun i o ho hw q hq h1 h2 => ?_⟩
  · have := (at1 i o ho).1.1.1
    simp only [Bool.or_eq_true] at this
    rcases this with h | h
    · exact .inl h
    · exact .inr (Option.isSome_iff_exists.1 h)
  · have := (at1 i o ho).1.1.2 e (by simpa using he)
    simp only [hb, Bool.not_true, Bool.false_or, decide_eq_true_eq] at this
    exact this
  · by_cases e : i = j
    · exact e
    · have := (at2 i j o p ho hp e).1.1
      rw [h1, h2] at this
      simp at this
  · have := (at2 i j o p ho hp hne).1.2
    rw [ht] at this
    simp only [Bool.or_eq_true, Bool.not_eq_true', List.contains_eq_mem, decide_eq_false_iff_not] at this
    rcases this with (h1 | h1) | h1
    · exact absurd hm h1
    · exact .inl h1
    · exact .inr h1
  · have := (at2 i j o p ho hp hne).2
    simp only [w1, w2, Bool.and_self, Bool.not_true, Bool.false_or, Bool.or_eq_true] at this
    exact this
  · have := (at1 i o ho).2
    simp only [hw, Bool.or_eq_true, Bool.false_eq_true, false_or, List.all_eq_true, List.mem_range] at this
    refine this.imp id fun this => ?_
    have := this q (by omega)
    simp only [h1, h2, decide_true, Bool.and_self, Bool.not_true, Bool.false_eq_true, false_or, beq_iff_eq] at this
    rcases this with h | h
    · exact .inl h
    · split at h
      · rename_i k hk
        exact .inr ⟨k, hk, by simpa using h⟩
      · cases h
theorem depN_lt {ops : Array Oper} (hb : ∀ (i : Nat) (o : Oper), ops[i]? = some o → ∀ e ∈ o.after, Region.binds .any e = true → e.on < i) : ∀ (n j i : Nat), depN ops n j i = true → j < i
  | 0, j, i, h => by cases h
  | n + 1, j, i, h => by
    simp only [depN] at h
    split at h
    · rename_i o ho
      rw [Array.getElem?_toList] at ho
      simp only [List.any_eq_true, Bool.and_eq_true, Bool.or_eq_true, beq_iff_eq] at h
      obtain ⟨e, he, hbd, h⟩ := h
      have h1 := hb i o ho e (by simpa using he) hbd
      rcases h with rfl | h
      · exact h1
      · exact Nat.lt_trans (depN_lt hb n j e.on h) h1
    · cases h

theorem trY_len {A : Env} {ops : Array Oper} : ∀ {os : List Oper} {s : St} {L : List St}, trY A ops os s = some L → L.length = os.length + 1 ∧ L[0]? = some s ∧ ∀ (i : Nat) (o : Oper), os[i]? = some o → ∃ s1 s2, L[i]? = some s1 ∧ L[i + 1]? = some s2 ∧ stepY A ops o s1 = some s2
  | [], s, L, h => by cases h; exact ⟨rfl, rfl, fun i o h => by simp at h⟩
  | o :: os, s, L, h => by
    obtain ⟨s1, h1, h⟩ := bind_inv h
    obtain ⟨L', h2, rfl⟩ := Option.map_eq_some_iff.1 h
    obtain ⟨e1, e2, e3⟩ := trY_len h2
    refine ⟨by simp [e1], rfl, fun i p hp => ?_⟩
    cases i with
    | zero =>
      simp at hp
      subst hp
      exact ⟨s, s1, rfl, by simpa using e2, h1⟩
    | succ i =>
      obtain ⟨a, b, k1, k2, k3⟩ := e3 i p (by simpa using hp)
      exact ⟨a, b, by simpa using k1, by simpa using k2, k3⟩
theorem stepY_fr {A : Env} {ops : Array Oper} {o : Oper} {s s1 : St} (hd : wrB o = true ∨ ∃ d, o.dst = some d) (h : stepY A ops o s = some s1) : ∃ av H, s1 = putS s o.dst av H ∧ (wrB o = false → H = s.heap ∧ ∃ d, o.dst = some d ∧ d < s.n ∧ qGE A ops.toList o s = some av) ∧ (wrB o = true → opG A ops.toList o s = some s1) := by
  unfold stepY at h
  split at h
  · rename_i hw
    obtain ⟨av, H, e1, e2⟩ := opG_fr (A := A) (ops := ops) (o := o) (s := s) (s' := s) ⟨rfl, fun _ _ => rfl⟩ rfl s1 h
    exact ⟨av, H, e1, fun hf => (by rw [hw] at hf; cases hf), fun _ => h⟩
  · rename_i hw
    split at h
    · rename_i d e
      obtain ⟨h1, h⟩ := ite_inv h
      obtain ⟨av, h2, h⟩ := bind_inv h
      cases h
      refine ⟨av, s.heap, ?_, fun _ => ⟨rfl, d, e, h1, h2⟩, fun hf => absurd hf hw⟩
      rw [e]; rfl
    · cases h
end Go.Fs
namespace Go.Fs
open Go.RowKit

theorem rankW_succ (ops : Array Oper) (i : Nat) : rankW ops (i + 1) = rankW ops i + if wrAt ops i = true then 1 else 0 := by
  unfold rankW
  rw [List.range_succ, List.countP_append]
  simp [List.countP_cons]
theorem rankW_mono (ops : Array Oper) : ∀ {i j : Nat}, i ≤ j → rankW ops i ≤ rankW ops j
  | i, 0, h => by obtain rfl : i = 0 := by omega
                  exact Nat.le_refl _
  | i, j + 1, h => by
    by_cases e : i = j + 1
    · subst e; exact Nat.le_refl _
    · have := rankW_mono ops (i := i) (j := j) (by omega)
      rw [rankW_succ]
      omega
theorem countP_le_len {α : Type} (p : α → Bool) (l : List α) : l.countP p ≤ l.length := List.countP_le_length
/-- Writing operations that are listed, counted. -/
def cntW (ops : Array Oper) (L : Nat → Bool) : Nat := (List.range ops.size).countP fun j => wrAt ops j && L j
theorem cntW_lt (ops : Array Oper) (i : Nat) (hi : i ≤ ops.size) : cntW ops (fun j => decide (j < i)) = rankW ops i := by
  unfold cntW rankW
  have h : List.range ops.size = List.range i ++ List.range' i (ops.size - i) := by
    rw [List.range_eq_range', List.range_eq_range']
    have := List.range'_append_1 (s := 0) (m := i) (n := ops.size - i)
    simp only [Nat.zero_add] at this
    rw [this]
    congr 1
    omega
  rw [h, List.countP_append]
  have e1 : (List.range i).countP (fun j => wrAt ops j && decide (j < i)) = (List.range i).countP (wrAt ops) := by
    refine List.countP_congr fun j hj => ?_
    simp [List.mem_range.1 hj]
  have e2 : (List.range' i (ops.size - i)).countP (fun j => wrAt ops j && decide (j < i)) = 0 := by
    rw [List.countP_eq_zero]
    intro j hj
    have := (List.mem_range'_1.1 hj).1
    simp
    intro _
    omega
  rw [e1, e2, Nat.add_zero]
theorem cntW_congr {ops : Array Oper} {L L' : Nat → Bool} (h : ∀ j, j < ops.size → wrAt ops j = true → L j = L' j) : cntW ops L = cntW ops L' := by
  unfold cntW
  refine List.countP_congr fun j hj => ?_
  have hj := List.mem_range.1 hj
  cases hw : wrAt ops j with
  | false => simp
  | true => simp [h j hj hw]

theorem putS_env (s : St) (dst : Option Nat) (av : AV) (H : Nat → Option Ob) (t : Nat) : (putS s dst av H).env t = if dst = some t then av else s.env t := by
  cases dst with
  | none => simp [putS]
  | some d =>
    by_cases k : t = d
    · subst k; simp [putS, upd]
    · have : ¬ d = t := fun e => k e.symm
      simp [putS, upd, k, this]
section
variable {A : Env} {ops : Array Oper} {s : St} {Ls : List St}
/-- A state behind some of the operations. -/
structure HalfY (ops : Array Oper) (s : St) (vals : Nat → AV) (hp : Nat → Nat → Option Ob) (L : Nat → Bool) (s' : St) : Prop where
  n : s'.n = s.n
  heap : s'.heap = hp (cntW ops L)
  done : ∀ (j : Nat) (o : Oper) (d : Nat), L j = true → ops[j]? = some o → o.dst = some d → s'.env d = vals j
  rest : ∀ (t : Nat), (∀ (j : Nat) (o : Oper), L j = true → ops[j]? = some o → o.dst ≠ some t) → s'.env t = s.env t
theorem HalfY.same {vals : Nat → AV} {hp : Nat → Nat → Option Ob} {L L' : Nat → Bool} {s1 s2 : St} (h1 : HalfY ops s vals hp L s1) (h2 : HalfY ops s vals hp L' s2) (hL : ∀ (j : Nat), j < ops.size → L j = L' j) : s1 = s2 := by
  obtain ⟨n1, e1, k1⟩ := s1
  obtain ⟨n2, e2, k2⟩ := s2
  have hn : n1 = n2 := h1.n.trans h2.n.symm
  have hk : k1 = k2 := h1.heap.trans ((congrArg hp (cntW_congr fun j hj _ => hL j hj)).trans h2.heap.symm)
  have he : e1 = e2 := by
    funext t
    by_cases h : ∃ (j : Nat) (o : Oper), L j = true ∧ ops[j]? = some o ∧ o.dst = some t
    · obtain ⟨j, o, hj, ho, hd⟩ := h
      exact (h1.done j o t hj ho hd).trans (h2.done j o t (by rw [← hL j (lt_of_some ho)]; exact hj) ho hd).symm
    · have a1 := h1.rest t fun j o hj ho hd => h ⟨j, o, hj, ho, hd⟩
      have a2 := h2.rest t fun j o hj ho hd => h ⟨j, o, by rw [hL j (lt_of_some ho)]; exact hj, ho, hd⟩
      exact a1.trans a2.symm
  rw [hn, hk, he]
theorem HalfY.put {prs : List (Nat × Nat)} (hq : PlanOK ops prs) {vals : Nat → AV} {hp : Nat → Nat → Option Ob} {L L' : Nat → Bool} {s' : St} (h : HalfY ops s vals hp L s') {i : Nat} {o : Oper} (ho : ops[i]? = some o) {av : AV} {H : Nat → Option Ob}
    (hv : ∀ d, o.dst = some d → av = vals i) (hH : H = hp (cntW ops L')) (hL : ∀ j, L' j = true ↔ (L j = true ∨ j = i)) : HalfY ops s vals hp L' (putS s' o.dst av H) := by
  have hn : (putS s' o.dst av H).n = s.n := by unfold putS; split <;> exact h.n
  have hh : (putS s' o.dst av H).heap = H := by unfold putS; split <;> rfl
  have he : ∀ t, (putS s' o.dst av H).env t = if o.dst = some t then av else s'.env t := putS_env s' o.dst av H
  refine ⟨hn, hh.trans hH, fun j p d hj hp' hd => ?_, fun t ht => ?_⟩
  · rw [he]
    by_cases e : j = i
    · subst e
      rw [ho] at hp'; cases hp'
      rw [if_pos hd]; exact hv d hd
    · have hj := ((hL j).1 hj).resolve_right e
      rw [if_neg (fun e2 => e (hq.ne j i p o d hp' ho hd e2))]
      exact h.done j p d hj hp' hd
  · rw [he, if_neg (ht i o ((hL i).2 (.inr rfl)) ho)]
    exact h.rest t fun j p hj hp' => ht j p ((hL j).2 (.inl hj)) hp'

theorem any_plan {prs : List (Nat × Nat)} (hq : PlanOK ops prs) (ht : trY A ops ops.toList s = some Ls) (hc : ∀ x ∈ prs, chkY A ops Ls x) {s'' : St} (hfin : Ls[ops.size]? = some s'') {K : St → Prop} (hK : K s'') :
    awpAny A ops K ops.size (Array.replicate ops.size false) s := by
  obtain ⟨hlen, h0, hst⟩ := trY_len ht
  have hlen : Ls.length = ops.size + 1 := by rw [hlen, Array.length_toList]
  -- the states, the values, the heaps
  let st : Nat → St := fun i => Ls.getD i s
  have st_get : ∀ {i : Nat} {x : St}, Ls[i]? = some x → st i = x := fun {i x} h => by show Ls.getD i s = x; rw [List.getD_eq_getElem?_getD, h]; rfl
  have step : ∀ (i : Nat) (o : Oper), ops[i]? = some o → stepY A ops o (st i) = some (st (i + 1)) := fun i o ho => by
    obtain ⟨a, b, k1, k2, k3⟩ := hst i o (by rw [Array.getElem?_toList]; exact ho)
    rw [st_get k1, st_get k2]; exact k3
  let vals : Nat → AV := fun i => match ops[i]? with
    | some o => (match o.dst with
      | some d => (st (i + 1)).env d
      | none => AV.x)
    | none => AV.x
  have vals_eq : ∀ {i d : Nat} {o : Oper}, ops[i]? = some o → o.dst = some d → vals i = (st (i + 1)).env d := fun {i d o} ho hd => by
    show (match ops[i]? with | some o => (match o.dst with | some d => (st (i + 1)).env d | none => AV.x) | none => AV.x) = _
    rw [ho]; simp only [hd]
  let hp : Nat → Nat → Option Ob := fun p => (st ((posW ops p).getD 0)).heap
  have frs : ∀ (i : Nat) (o : Oper), ops[i]? = some o → ∃ av H, st (i + 1) = putS (st i) o.dst av H ∧ (wrB o = false → H = (st i).heap ∧ ∃ d, o.dst = some d ∧ d < (st i).n ∧ qGE A ops.toList o (st i) = some av) ∧ (wrB o = true → opG A ops.toList o (st i) = some (st (i + 1))) :=
    fun i o ho => stepY_fr (hq.dst i o ho) (step i o ho)
  have pheap : ∀ (x : St) (dst : Option Nat) (av : AV) (H : Nat → Option Ob), (putS x dst av H).heap = H := fun x dst av H => by unfold putS; split <;> rfl
  -- where nothing was written the heap is as it was
  have same : ∀ (j i : Nat), i ≤ j → j ≤ ops.size → rankW ops i = rankW ops j → (st i).heap = (st j).heap := by
    intro j
    induction j with
    | zero => intro i h _ _; obtain rfl : i = 0 := by omega
              rfl
    | succ j ih =>
      intro i h hj hr
      by_cases e : i = j + 1
      · subst e; rfl
      have h1 := rankW_mono ops (i := i) (j := j) (by omega)
      have h2 := rankW_succ ops j
      have hw : ¬ wrAt ops j = true := fun hw => by rw [if_pos hw] at h2; omega
      rw [if_neg hw] at h2
      have ho : ops[j]? = some ops[j] := Array.getElem?_eq_getElem (by omega)
      obtain ⟨av, H, e1, e2, _⟩ := frs j _ ho
      have hwb : wrB ops[j] = false := by
        unfold wrAt at hw
        rw [ho] at hw
        simpa using hw
      rw [ih i (by omega) (by omega) (by omega), e1, pheap]
      exact (e2 hwb).1.symm
  have hp_eq : ∀ i, i ≤ ops.size → hp (rankW ops i) = (st i).heap := by
    intro i hi
    have : ∃ k, posW ops (rankW ops i) = some k ∧ k ≤ i ∧ rankW ops k = rankW ops i := by
      unfold posW
      have hs : ((List.range (ops.size + 1)).find? fun k => rankW ops k == rankW ops i).isSome = true := by
        rw [List.find?_isSome]
        exact ⟨i, List.mem_range.2 (by omega), by simp⟩
      obtain ⟨k, hk⟩ := Option.isSome_iff_exists.1 hs
      have h1 : rankW ops k = rankW ops i := by simpa using List.find?_some hk
      refine ⟨k, hk, ?_, h1⟩
      obtain ⟨_, as, bs, h3, h4⟩ := List.find?_eq_some_iff_append.1 hk
      apply Nat.le_of_not_lt
      intro hlt
      have hmem : i ∈ as := by
        have hl : as.length = k := by
          have h5 := congrArg (fun l => l[as.length]?) h3
          simp only [List.getElem?_append_right (Nat.le_refl _), Nat.sub_self, List.getElem?_cons_zero] at h5
          have h6 := List.getElem?_eq_some_iff.1 h5
          simpa using h6.2
        have h5 := congrArg (fun l => l[i]?) h3
        rw [List.getElem?_append_left (by omega), List.getElem?_range (by omega)] at h5
        exact List.mem_of_getElem? h5.symm
      have := h4 i hmem
      simp at this
    obtain ⟨k, h1, h2, h3⟩ := this
    show (st ((posW ops (rankW ops i)).getD 0)).heap = _
    rw [h1]
    exact same i k h2 hi h3
  -- the text's own states
  have half : ∀ i, i ≤ ops.size → HalfY ops s vals hp (fun j => decide (j < i)) (st i) := by
    intro i
    induction i with
    | zero =>
      intro _
      have : st 0 = s := st_get h0
      rw [this]
      refine ⟨rfl, ?_, fun j o d hj => by simp at hj, fun t _ => rfl⟩
      rw [cntW_lt ops 0 (Nat.zero_le _), hp_eq 0 (Nat.zero_le _), this]
    | succ i ih =>
      intro hi
      have ho : ops[i]? = some ops[i] := Array.getElem?_eq_getElem (by omega)
      obtain ⟨av, H, e1, e2, e3⟩ := frs i _ ho
      have hL : ∀ j, (fun j => decide (j < i + 1)) j = true ↔ ((fun j => decide (j < i)) j = true ∨ j = i) := fun j => by simp; omega
      have := (ih (by omega)).put hq ho (L' := fun j => decide (j < i + 1)) (av := av) (H := H) (fun d hd => ?_) ?_ hL
      · rw [e1]; exact this
      · rw [vals_eq ho hd, e1, hd]
        simp [putS, upd]
      · rw [cntW_lt ops (i + 1) hi, hp_eq (i + 1) hi, e1, pheap]
  have hst'' : st ops.size = s'' := st_get hfin
  -- any order
  have full : ∀ (listed : Array Bool), listed.size = ops.size → Region.ready .any ops listed = [] → ∀ j, j < ops.size → listed.getD j false = true := by
    intro listed hl hr j
    induction j using Nat.strongRecOn with
    | _ j ih =>
      intro hj
      cases hb : listed.getD j false with
      | true => rfl
      | false =>
        exfalso
        have ho : ops[j]? = some ops[j] := Array.getElem?_eq_getElem hj
        have hm : j ∈ Region.ready .any ops listed := mem_ready.2 ⟨by
          have : j < listed.size := by omega
          simp [this] at hb ⊢; exact hb, ops[j], ho, fun e he hbd => by
          have := hq.back j _ ho e he hbd
          exact ih e.on this (by omega)⟩
        rw [hr] at hm
        cases hm
  have last : ∀ (listed : Array Bool) (s' : St), listed.size = ops.size → HalfY ops s vals hp (fun j => listed.getD j false) s' → Region.ready .any ops listed = [] → K s' := by
    intro listed s' hl hh hr
    have := hh.same (half ops.size (Nat.le_refl _)) fun j hj => by simp [full listed hl hr j hj, hj]
    rw [this, hst'']; exact hK
  have main : ∀ (n : Nat) (listed : Array Bool) (s' : St), listed.size = ops.size → HalfY ops s vals hp (fun j => listed.getD j false) s' → (∀ (j : Nat) (o : Oper), ops[j]? = some o → listed.getD j false = true → ∀ e ∈ o.after, Region.binds .any e = true → listed.getD e.on false = true) →
      (List.range ops.size).countP (fun j => !listed.getD j false) ≤ n → awpAny A ops K n listed s' := by
    intro n
    induction n with
    | zero =>
      intro listed s' hl hh hcl hn
      have hr : Region.ready .any ops listed = [] := by
        refine List.eq_nil_iff_forall_not_mem.2 fun j hj => ?_
        obtain ⟨h1, o, ho, _⟩ := mem_ready.1 hj
        have hz : (List.range ops.size).countP (fun j => !listed.getD j false) = 0 := by omega
        rw [List.countP_eq_zero] at hz
        have := hz j (List.mem_range.2 (lt_of_some ho))
        have hlt : j < listed.size := by rw [hl]; exact lt_of_some ho
        simp [hlt] at this h1
        rw [h1] at this; cases this
      exact ⟨hr, last listed s' hl hh hr⟩
    | succ n ih =>
      intro listed s' hl hh hcl hn
      refine ⟨last listed s' hl hh, fun i hi => ?_⟩
      obtain ⟨hun, o, ho, hall⟩ := mem_ready.1 hi
      have hil : i < listed.size := by rw [hl]; exact lt_of_some ho
      have hio := lt_of_some ho
      have hun' : listed.getD i false = false := by simp [hil] at hun ⊢; exact hun
      have ho' : ops.toList[i]? = some o := by rw [Array.getElem?_toList]; exact ho
      rw [ho']
      have hsi := half i (by omega)
      have henv : ∀ t ∈ o.looksAt ops, (st i).env t = s'.env t := by
        intro t ht
        by_cases hw : ∃ (j : Nat) (p : Oper), ops[j]? = some p ∧ p.dst = some t
        · obtain ⟨j, p, hp', hdp⟩ := hw
          have uniq : ∀ (k : Nat) (r : Oper), ops[k]? = some r → r.dst = some t → k = j := fun k r hr hdr => hq.ne k j r p t hr hp' hdr hdp
          by_cases e : i = j
          · subst e
            have a1 := hsi.rest t fun k r hk hr hdr => by have := uniq k r hr hdr; simp at hk; omega
            have a2 := hh.rest t fun k r hk hr hdr => by
              have := uniq k r hr hdr
              subst this
              rw [hun'] at hk; cases hk
            exact a1.trans a2.symm
          · rcases hq.look i j o p t ho hp' e hdp ht with h1 | h1
            · obtain ⟨ed, he, hb, rfl⟩ := onB_spec h1
              have b1 := hq.back i o ho ed he hb
              have a1 := hsi.done ed.on p t (by simpa using b1) hp' hdp
              have a2 := hh.done ed.on p t (hall ed he hb) hp' hdp
              exact a1.trans a2.symm
            · obtain ⟨ed, he, hb, rfl⟩ := onB_spec h1
              have b1 := hq.back j p hp' ed he hb
              have a1 := hsi.rest t fun k r hk hr hdr => by have := uniq k r hr hdr; simp at hk; omega
              have a2 := hh.rest t fun k r hk hr hdr => by
                have := uniq k r hr hdr
                subst this
                have := hcl k p hp' hk ed he hb
                rw [hun'] at this; cases this
              exact a1.trans a2.symm
        · have a1 := hsi.rest t fun k r _ hr hdr => hw ⟨k, r, hr, hdr⟩
          have a2 := hh.rest t fun k r _ hr hdr => hw ⟨k, r, hr, hdr⟩
          exact a1.trans a2.symm
      have hget : ∀ j, (listed.setIfInBounds i true).getD j false = true ↔ (listed.getD j false = true ∨ j = i) := fun j => by
        by_cases e : j = i
        · subst e; simp [hil]
        · rw [getD_set_ne false (Ne.symm e)]; simp [e]
      have deps : ∀ j, depN ops ops.size j i = true → listed.getD j false = true := fun j h => dep_listed hcl _ _ _ h fun p hp' => by rw [ho] at hp'; cases hp'; exact hall
      have ndeps : ∀ j, listed.getD j false = true → ¬ depN ops ops.size i j = true := fun j hj h => by
        have hjs : j < ops.size := by
          apply Classical.byContradiction
          intro hx
          have : listed.getD j false = false := by simp [show ¬ j < listed.size by omega]
          rw [this] at hj; cases hj
        have := dep_listed hcl _ _ _ h fun p hp' => hcl j p hp' hj
        rw [hun'] at this; cases this
      have next : ∀ {s1 : St}, HalfY ops s vals hp (fun j => (listed.setIfInBounds i true).getD j false) s1 → awpAny A ops K n (listed.setIfInBounds i true) s1 := by
        intro s1 h1
        refine ih _ _ (by simpa using hl) h1 (fun j p hp' hj e he hb => ?_) ?_
        · rw [hget] at hj ⊢
          rcases hj with hj | rfl
          · exact .inl (hcl j p hp' hj e he hb)
          · rw [ho] at hp'; cases hp'
            exact .inl (hall e he hb)
        · have := countP_lt (p := fun j => !(listed.setIfInBounds i true).getD j false) (q := fun j => !listed.getD j false) (l := List.range ops.size) (fun j _ hj => by
            cases hb : listed.getD j false with
            | false => rfl
            | true => rw [Bool.not_eq_true', ← Bool.not_eq_true] at hj; exact absurd ((hget j).2 (.inl hb)) hj) ⟨i, List.mem_range.2 hio, by simpa using hun', by simp [hil]⟩
          omega
      obtain ⟨av, H, e1, e2, e3⟩ := frs i o ho
      have hvv : ∀ d, o.dst = some d → av = vals i := fun d hd => by
        rw [vals_eq ho hd, e1, hd]; simp [putS, upd]
      cases hw : wrB o with
      | true =>
        have hwi : wrAt ops i = true := by unfold wrAt; rw [ho]; exact hw
        have hcnt : cntW ops (fun j => listed.getD j false) = rankW ops i := by
          rw [← cntW_lt ops i (by omega)]
          refine cntW_congr fun j hj hwj => ?_
          have hoj : ops[j]? = some ops[j] := Array.getElem?_eq_getElem hj
          by_cases e : j = i
          · subst e; simp [hun']
          have hwbj : wrB ops[j] = true := by unfold wrAt at hwj; rw [hoj] at hwj; exact hwj
          rcases hq.chain i j o _ ho hoj (fun h => e h.symm) hw hwbj with h | h
          · have hlt := depN_lt hq.back _ _ _ h
            have : listed.getD j false = false := by
              cases hb : listed.getD j false with
              | false => rfl
              | true => exact absurd h (ndeps j hb)
            simp [this]; omega
          · have hlt := depN_lt hq.back _ _ _ h
            simp [deps j h, hlt]
        have hheap : (st i).heap = s'.heap := by rw [hh.heap, hcnt, hp_eq i (by omega)]
        have hns : (st i).n = s'.n := hsi.n.trans hh.n.symm
        obtain ⟨av2, H2, f1, f2⟩ := opG_fr (A := A) ⟨hheap, henv⟩ hns _ (e3 hw)
        refine opG_ok f2 (next (hh.put hq ho (fun d hd => ?_) ?_ hget))
        · rw [vals_eq ho hd, f1, hd]; simp [putS, upd]
        · have hc2 : cntW ops (fun j => (listed.setIfInBounds i true).getD j false) = rankW ops (i + 1) := by
            rw [← cntW_lt ops (i + 1) (by omega)]
            refine cntW_congr fun j hj hwj => ?_
            have hoj : ops[j]? = some ops[j] := Array.getElem?_eq_getElem hj
            by_cases e : j = i
            · subst e; simp [hil]
            have hwbj : wrB ops[j] = true := by unfold wrAt at hwj; rw [hoj] at hwj; exact hwj
            rw [getD_set_ne false (Ne.symm e)]
            rcases hq.chain i j o _ ho hoj (fun h => e h.symm) hw hwbj with h | h
            · have hlt := depN_lt hq.back _ _ _ h
              have : listed.getD j false = false := by
                cases hb : listed.getD j false with
                | false => rfl
                | true => exact absurd h (ndeps j hb)
              rw [this]; simp; omega
            · have hlt := depN_lt hq.back _ _ _ h
              rw [deps j h]; simp; omega
          rw [hc2, hp_eq (i + 1) (by omega), f1, pheap]
      | false =>
        obtain ⟨eH, d, hd, hlt, hqe⟩ := e2 hw
        have hwi : wrAt ops i = false := by unfold wrAt; rw [ho]; exact hw
        have hlo : loW ops i ≤ cntW ops (fun j => listed.getD j false) := by
          unfold loW cntW
          refine List.countP_mono_left fun j _ h => ?_
          simp only [Bool.and_eq_true] at h ⊢
          exact ⟨h.1, deps j h.2⟩
        have hhi : cntW ops (fun j => listed.getD j false) ≤ hiW ops i := by
          unfold hiW cntW
          refine List.countP_mono_left fun j _ h => ?_
          simp only [Bool.and_eq_true, Bool.not_eq_true'] at h ⊢
          exact ⟨h.1, by simpa using ndeps j h.2⟩
        have hsz : cntW ops (fun j => listed.getD j false) ≤ ops.size := by
          have := countP_le_len (fun j => wrAt ops j && listed.getD j false) (List.range ops.size)
          simpa [cntW] using this
        have hval : qGE A ops.toList o s' = some (vals i) := by
          rcases hq.chk i o ho hw _ hsz hlo hhi with hpu | h | ⟨k, hk, hm⟩
          · have hag : Agree ops o (st i) { n := s'.n, env := s'.env, heap := (st i).heap } := ⟨rfl, henv⟩
            have h1 := qGE_congr (A := A) hag
            rw [qGE_pure hpu s'.n s'.n s'.env (st i).heap s'.heap] at h1
            show qGE A ops.toList o { n := s'.n, env := s'.env, heap := s'.heap } = _
            rw [← h1, hqe, hvv d hd]
          · have hheap : (st i).heap = s'.heap := by rw [hh.heap, h, hp_eq i (by omega)]
            rw [← qGE_congr (s := st i) ⟨hheap, henv⟩, hqe, hvv d hd]
          · have := hc _ hm
            unfold chkY at this
            simp only [Array.getElem?_toList, ho] at this
            split at this
            · rename_i o2 x1 x2 x3 g1 g2 g3 g4
              cases g1
              simp only [chkZ, hd] at this
              have a1 := st_get g2
              have a2 := st_get g3
              have a3 := st_get g4
              have hheap : x3.heap = s'.heap := by
                rw [hh.heap, ← a3]
                show _ = (st ((posW ops _).getD 0)).heap
                rw [hk]; rfl
              have hag : Agree ops o { n := x1.n, env := x1.env, heap := x3.heap } s' := ⟨hheap, fun t ht => by rw [← a1]; exact henv t ht⟩
              cases hin : hInd o x1 with
              | true =>
                have h1 := qGE_ind (A := A) (ops := ops.toList) hin x3.heap
                rw [← qGE_congr hag, h1, ← a1, hqe, hvv d hd]
              | false =>
              rw [hin] at this
              cases hke : hKey o x1 with
              | some k0 =>
                rw [hke] at this
                have this : x1.heap k0 = x3.heap k0 := this
                have h1 := qGE_key (A := A) (ops := ops.toList) hke this
                rw [← qGE_congr hag, h1, ← a1, hqe, hvv d hd]
              | none =>
              rw [hke] at this
              cases hro : hRow o x1 with
              | some k0 =>
                rw [hro] at this
                have this : rowSame (x1.heap k0) (x3.heap k0) := this
                have h1 := qGE_row (A := A) (ops := ops.toList) hro this
                rw [← qGE_congr hag, h1, ← a1, hqe, hvv d hd]
              | none =>
              rw [hro] at this
              rw [← qGE_congr hag, this, vals_eq ho hd, a2]
            · exact this.elim
        have hlt' : d < s'.n := by rw [hh.n, ← hsi.n]; exact hlt
        refine qG_awp hd hlt' (qGE_ok hval ?_)
        have hc2 : cntW ops (fun j => (listed.setIfInBounds i true).getD j false) = cntW ops (fun j => listed.getD j false) := by
          refine cntW_congr fun j hj hwj => ?_
          by_cases e : j = i
          · subst e; rw [hwi] at hwj; cases hwj
          · rw [getD_set_ne false (Ne.symm e)]
        have := hh.put hq ho (L' := fun j => (listed.setIfInBounds i true).getD j false) (av := vals i) (H := s'.heap) (fun _ _ => rfl) (by rw [hc2]; exact hh.heap) hget
        have hps : putS s' o.dst (vals i) s'.heap = { n := s'.n, env := upd s'.env d (vals i), heap := s'.heap } := by rw [hd]; rfl
        rw [hps] at this
        exact next this
  refine main ops.size (Array.replicate ops.size false) s (by simp) ?_ (fun j o ho hj => ?_) ?_
  · have h00 := half 0 (Nat.zero_le _)
    have : st 0 = s := st_get h0
    rw [this] at h00
    refine ⟨h00.n, ?_, fun j o d hj ho => ?_, fun t _ => rfl⟩
    · rw [h00.heap]
      congr 1
      refine cntW_congr fun j hj _ => ?_
      simp [hj]
    · have hj' := lt_of_some ho
      simp [hj'] at hj
  · have hj' := lt_of_some ho
    simp [hj'] at hj
  · exact Nat.le_trans List.countP_le_length (by simp)
end
end Go.Fs
namespace Go.Fs
open Go.RowKit

/-- Where a region's plan is told among the hints. -/
def rkey (id : Nat) : Nat := 5000 + id
/-- Pairs, told as numbers; the first number only says that there is a plan. -/
def prsOf : List Nat → List (Nat × Nat)
  | [] => []
  | _ :: hs => hs.map fun m => (m / 1000, m % 1000)
open Classical in
noncomputable def planE (A : Env) (ops : Array Oper) (prs : List (Nat × Nat)) (s : St) : Option St := if planB ops prs = true then (trY A ops ops.toList s).bind fun L => if (∀ x ∈ prs, chkY A ops L x) then L[ops.size]? else none else none
noncomputable def regY (A : Env) (hint : List Nat) (ops : Array Oper) (dr : Bool) (s : St) : Option St := match hint with
  | [] => regE A ops dr s
  | _ => if dr = true then planE A ops (prsOf hint) s else regE A ops dr s
theorem planE_ok {A : Env} {ops : Array Oper} {prs : List (Nat × Nat)} {s s' : St} (h : planE A ops prs s = some s') (id : Nat) (Q : Exit → St → Prop) (hk : Q .normal s') : awp A (.region id ops true) Q s := by
  unfold planE at h
  obtain ⟨h1, h⟩ := ite_inv h
  obtain ⟨L, h2, h⟩ := bind_inv h
  obtain ⟨h3, h⟩ : (∀ x ∈ prs, chkY A ops L x) ∧ L[ops.size]? = some s' := by
    split at h
    · exact ⟨by assumption, h⟩
    · cases h
  show awpAny A ops (Q .normal) ops.size (Array.replicate ops.size false) s
  exact any_plan (planB_ok h1) h2 h3 h hk
def cid : Code → Nat
  | .region id _ _ => id
  | .seq x _ => cid x
  | .block id _ => id
  | .loop b => cid b
  | .cond _ x _ => cid x
  | .exit id => id
  | _ => 0
/-- What goes on where the first part came to its end. -/
def thenR (f : St → Option (Exit × St)) : Exit × St → Option (Exit × St)
  | (.normal, s) => f s
  | r => some r
theorem thenR_inv {f : St → Option (Exit × St)} {r r' : Exit × St} (h : thenR f r = some r') : (∃ s, r = (.normal, s) ∧ f s = some r') ∨ (r.1 ≠ .normal ∧ r' = r) := by
  obtain ⟨e, s⟩ := r
  cases e with
  | normal => exact .inl ⟨s, rfl, h⟩
  | _ => exact .inr ⟨(fun h => by cases h), (by cases h; rfl)⟩
theorem thenR_go {f : St → Option (Exit × St)} (s : St) : thenR f (.normal, s) = f s := rfl
theorem thenR_out {f : St → Option (Exit × St)} {r : Exit × St} (h : r.1 ≠ .normal) : thenR f r = some r := by
  obtain ⟨e, s⟩ := r
  cases e with
  | normal => exact absurd rfl h
  | _ => rfl
def itE (aa : AV) (live : List Nat) (f : St → Option (Exit × St)) : Nat → St → Option (Exit × St)
  | 0, _ => none
  | n + 1, s => (rnd aa live s).bind fun s => (f s).bind (thenR (itE aa live f n))
def inBlk (id : Nat) : Exit → Exit
  | .exit id' => if id' = id then .normal else .exit id'
  | e => e
noncomputable def ev (A : Env) (lv : Nat → List Nat) : Code → St → Option (Exit × St)
  | .skip, s => some (.normal, s)
  | .region id ops dr, s => (regY A (lv (rkey id)) ops dr s).map fun s => (.normal, s)
  | .seq x y, s => (ev A lv x s).bind (thenR (ev A lv y))
  | .cond c x y, s => match s.ev c with
    | .d (.b v) => if v = true then ev A lv x (litS s c true) else ev A lv y (litS s c false)
    | _ => none
  | .block id b, s => (ev A lv b s).map fun r => (inBlk id r.1, r.2)
  | .loop b, s => lim fun n => itE A.aa (lv (cid b)) (ev A lv b) n s
  | .exit id, s => some (.exit id, s)
  | .label _, s => some (.normal, s)
  | .goto l, s => some (.goto l, s)
  | .ret, s => some (.ret, s)
  | _, _ => none

theorem itE_mono {aa : AV} {live : List Nat} {f : St → Option (Exit × St)} : ∀ (n : Nat) (s : St) (r : Exit × St), itE aa live f n s = some r → itE aa live f (n + 1) s = some r
  | 0, s, r, h => by cases h
  | n + 1, s, r, h => by
    unfold itE at h ⊢
    obtain ⟨s1, h1, h⟩ := bind_inv h
    obtain ⟨x, h2, h⟩ := bind_inv h
    rw [h1, Option.bind_some, h2, Option.bind_some]
    rcases thenR_inv h with ⟨s2, rfl, h⟩ | ⟨h3, rfl⟩
    · exact itE_mono n _ _ h
    · exact thenR_out h3
/-- A loop is one round, and then itself. -/
theorem ev_loop (A : Env) (lv : Nat → List Nat) (b : Code) (s : St) : ev A lv (.loop b) s = (rnd A.aa (lv (cid b)) s).bind fun s => (ev A lv b s).bind (thenR (ev A lv (.loop b))) := by
  have hl : ∀ s, ev A lv (.loop b) s = lim fun n => itE A.aa (lv (cid b)) (ev A lv b) n s := fun s => by simp only [ev]
  have hm : ∀ s n r, itE A.aa (lv (cid b)) (ev A lv b) n s = some r → itE A.aa (lv (cid b)) (ev A lv b) (n + 1) s = some r := fun s n r h => itE_mono n s r h
  apply Option.ext
  intro r
  rw [hl s]
  constructor
  · intro h
    obtain ⟨n, h⟩ := lim_inv h
    cases n with
    | zero => cases h
    | succ n =>
      unfold itE at h
      obtain ⟨s1, h1, h⟩ := bind_inv h
      obtain ⟨x, h2, h⟩ := bind_inv h
      rw [h1, Option.bind_some, h2, Option.bind_some]
      rcases thenR_inv h with ⟨s2, rfl, h⟩ | ⟨h3, rfl⟩
      · rw [thenR_go, hl]; exact lim_some (hm _) h
      · exact thenR_out h3
  · intro h
    obtain ⟨s1, h1, h⟩ := bind_inv h
    obtain ⟨x, h2, h⟩ := bind_inv h
    rcases thenR_inv h with ⟨s2, rfl, h⟩ | ⟨h3, rfl⟩
    · rw [thenR_go, hl] at h
      obtain ⟨n, h⟩ := lim_inv h
      refine lim_some (hm _) (n := n + 1) ?_
      unfold itE
      rw [h1, Option.bind_some, h2, Option.bind_some]
      exact h
    · refine lim_some (hm _) (n := 1) ?_
      unfold itE
      rw [h1, Option.bind_some, h2, Option.bind_some]
      exact thenR_out h3

end Go.Fs
namespace Go.Fs
open Go.RowKit
section
variable {P : Program} {B : Ctx} {A : Env} {lv : Nat → List Nat}
/-- From a state that is known to be this one. -/
def At (B : Ctx) (s : St) (Q : Act → World → Prop) : Prop := ∀ (G : Nat → GI) (a : Act) (w : World), RelG B G s a w → Q a w
theorem At.sem {aa : AV} (hA : B.aa = aa) {s s' : St} (h : Sem aa s s') {Q : Act → World → Prop} (hq : At B s' Q) : At B s Q := fun G a w hr => by
  obtain ⟨G', hr'⟩ := h B G a w hA hr
  exact hq G' a w hr'
/-- A part of a region, and then what is left of it. -/
theorem seg_ok (hT : A.T.ok P = true) (hS : SumOK P A.S) {ops : Array Oper} {Q : Exit → Act → World → Prop} {rest : List Nat} {s0 : St} (hrest : At B s0 (wpOps P ops Q rest)) :
    ∀ (os pre post : List Oper) (s : St), ops.toList = pre ++ (os ++ post) → awpOps A ops.toList (fun s => s = s0) os s → At B s (wpOps P ops Q (List.range' pre.length os.length ++ rest))
  | [], pre, post, s, e, h => by
    have h : s = s0 := h
    subst h
    exact hrest
  | o :: os, pre, post, s, e, h => by
    intro G a w hr
    have ho : ops[pre.length]? = some o := by rw [← Array.getElem?_toList, e]; simp
    have hl : (pre ++ [o]).length = pre.length + 1 := by simp
    have ih := seg_ok hT hS hrest os (pre ++ [o]) post
    rw [hl] at ih
    show wpOps P ops Q (List.range' pre.length (os.length + 1) ++ rest) a w
    rw [List.range'_succ, List.cons_append, wpOps_cons]
    refine awpG_ok hT hS (B := B) hr ho (K := awpOps A ops.toList (fun s => s = s0) os) ?_ h
    intro G1 s1 a1 w1 hr1 h1
    exact ih s1 (by rw [e]; simp) h1 G1 a1 w1 hr1
theorem gsE_ok (hT : A.T.ok P = true) (hS : SumOK P A.S) (hA : B.aa = A.aa) {ops : Array Oper} {Q : Exit → Act → World → Prop} : ∀ (L : List (List Oper)) (pre : List Oper) (s s' : St), ops.toList = pre ++ L.flatten → gsE A ops.toList L s = some s' → At B s' (wpOps P ops Q []) →
    At B s (wpOps P ops Q (List.range' pre.length L.flatten.length))
  | [], pre, s, s', e, h, hq => by
    cases h
    exact hq
  | os :: L, pre, s, s', e, h, hq => by
    have hsplit : List.range' pre.length (os :: L).flatten.length = List.range' pre.length os.length ++ List.range' (pre ++ os).length L.flatten.length := by
      rw [List.flatten_cons, List.length_append, List.length_append, List.range'_append_1]
    rw [hsplit]
    have ih := gsE_ok hT hS hA (ops := ops) (Q := Q) L (pre ++ os)
    have plain : (opsE A ops.toList os s).bind (gsE A ops.toList L) = some s' → At B s (wpOps P ops Q (List.range' pre.length os.length ++ List.range' (pre ++ os).length L.flatten.length)) := by
      intro h
      obtain ⟨s1, h1, h2⟩ := bind_inv h
      exact seg_ok hT hS (ih s1 s' (by rw [e]; simp) h2 hq) os pre L.flatten s (by rw [e]; simp) (opsE_ok h1 rfl)
    unfold gsE at h
    split at h
    · split at h
      · rename_i t _
        obtain ⟨v, h1, h2⟩ := bind_inv h
        obtain ⟨s0, h3, h4⟩ := bind_inv h1
        have := ih _ s' (by rw [e]; simp) h2 hq
        exact seg_ok hT hS (At.sem hA (sem_gd h3 h4) this) os pre L.flatten s (by rw [e]; simp) (qsE_ops h3 rfl)
      · exact plain h
    · exact plain h
/-- The run of the mind is a run of the code. -/
theorem ev_ok (hT : A.T.ok P = true) (hS : SumOK P A.S) (hm : P.follows .mixedOrders = true) (hA : B.aa = A.aa) :
    ∀ (c : Code) {s : St} {r : Exit × St}, ev A lv c s = some r → ∀ {Q : Exit → Act → World → Prop}, At B r.2 (Q r.1) → At B s (c.wp P Q) := by
  intro c
  induction c with
  | skip => intro s r h Q hQ G a w hr; simp only [ev, Option.some.injEq] at h; subst h; exact wp_skip (hQ _ _ _ hr)
  | label l => intro s r h Q hQ G a w hr; simp only [ev, Option.some.injEq] at h; subst h; exact wp_label (hQ _ _ _ hr)
  | exit id => intro s r h Q hQ G a w hr; simp only [ev, Option.some.injEq] at h; subst h; exact wp_exit (hQ _ _ _ hr)
  | goto l => intro s r h Q hQ G a w hr; simp only [ev, Option.some.injEq] at h; subst h; exact wp_goto (hQ _ _ _ hr)
  | ret => intro s r h Q hQ G a w hr; simp only [ev, Option.some.injEq] at h; subst h; exact wp_ret (hQ _ _ _ hr)
  | rangeFunc f ps x y => intro s r h; simp only [ev] at h; cases h
  | scope b => intro s r h; simp only [ev] at h; cases h
  | refuse why => intro s r h; simp only [ev] at h; cases h
  | region id ops dr =>
    intro s r h Q hQ G a w hr
    simp only [ev, Option.map_eq_some_iff] at h
    obtain ⟨s', h, rfl⟩ := h
    by_cases hpl : (lv (rkey id)) ≠ [] ∧ dr = true
    · obtain ⟨hpl, rfl⟩ := hpl
      have h : planE A ops (prsOf (lv (rkey id))) s = some s' := by
        unfold regY at h
        split at h
        · rename_i e; exact absurd e hpl
        · simpa using h
      refine awp_ok hT hS hm hA (.region id ops true) (Q := fun e s => e = .normal ∧ s = s') (fun e => ?_) G s a w hr (planE_ok h id _ ⟨rfl, rfl⟩)
      rintro G s1 a w hr ⟨rfl, rfl⟩
      exact hQ G a w hr
    have h : regE A ops dr s = some s' := by
      unfold regY at h
      split at h
      · exact h
      · rename_i e
        split at h
        · rename_i hd; exact absurd ⟨e, hd⟩ hpl
        · exact h
    by_cases hg : gdB ops.toList = true ∧ dr = false
    · obtain ⟨hg, rfl⟩ := hg
      unfold regE at h
      rw [if_pos hg, if_neg (by decide)] at h
      have := gsE_ok hT hS hA (Q := Q) (segs A.T [] ops.toList) [] s s' (by rw [segs_join]; rfl) h hQ G a w hr
      rw [segs_join] at this
      refine wp_region ?_
      rw [List.range_eq_range']
      simpa using this
    obtain ⟨s0, h1, h2⟩ := regE_ok (fun e => by cases dr with | true => rfl | false => exact absurd ⟨e, rfl⟩ hg) h
    refine awp_ok hT hS hm hA (.region id ops dr) (Q := fun e s => e = .normal ∧ s = s0) (fun e => ?_) G s a w hr (h2 id (fun e s => e = .normal ∧ s = s0) ⟨rfl, rfl⟩)
    rintro G s1 a w hr ⟨rfl, rfl⟩
    exact At.sem hA h1 hQ G a w hr
  | seq x y ihx ihy =>
    intro s r h Q hQ G a w hr
    simp only [ev] at h
    obtain ⟨r1, h1, h2⟩ := bind_inv h
    refine wp_seq (ihx h1 ?_ G a w hr)
    rcases thenR_inv h2 with ⟨s2, rfl, h2⟩ | ⟨h3, rfl⟩
    · exact ihy h2 hQ
    · obtain ⟨e, s2⟩ := r
      cases e with
      | normal => exact absurd rfl h3
      | _ => exact hQ
  | cond c x y ihx ihy =>
    intro s r h Q hQ G a w hr
    simp only [ev] at h
    split at h
    case h_2 => cases h
    rename_i v hev
    have hb : a.eval c = .bool v := by have := hr.ev c; rw [hev] at this; exact this.inv_bool
    split at h
    · rename_i e
      subst e
      rw [litS_ok hev] at h
      exact wp_cond_true hb (ihx h hQ G a w hr)
    · rename_i e
      simp only [Bool.not_eq_true] at e
      subst e
      rw [litS_ok hev] at h
      exact wp_cond_false hb (ihy h hQ G a w hr)
  | block id b ih =>
    intro s r h Q hQ G a w hr
    simp only [ev, Option.map_eq_some_iff] at h
    obtain ⟨r1, h, rfl⟩ := h
    refine wp_block (ih h ?_ G a w hr)
    obtain ⟨e, s1⟩ := r1
    cases e with
    | exit id' =>
      simp only [inBlk] at hQ
      intro G a w hr
      simp only [Exit.inBlock]
      split
      · rename_i e; rw [if_pos e] at hQ; exact hQ G a w hr
      · rename_i e; rw [if_neg e] at hQ; exact hQ G a w hr
    | _ => exact hQ
  | loop b ih =>
    intro s r h Q hQ G a w hr
    simp only [ev] at h
    obtain ⟨n, h⟩ := lim_inv h
    refine wp_loop_ghost (fun n a w => ∃ G s, RelG B G s a w ∧ itE A.aa (lv (cid b)) (ev A lv b) n s = some r) n ⟨G, s, hr, h⟩ ?_
    rintro n a w ⟨G, s, hr, h⟩
    cases n with
    | zero => cases h
    | succ n =>
      unfold itE at h
      obtain ⟨s1, h1, h⟩ := bind_inv h
      obtain ⟨x, h2, h⟩ := bind_inv h
      refine At.sem hA (sem_rnd h1) (ih h2 ?_) G a w hr
      rcases thenR_inv h with ⟨s2, rfl, h⟩ | ⟨h3, rfl⟩
      · exact fun G a w hr => ⟨n, Nat.lt_succ_self n, G, s2, hr, h⟩
      · obtain ⟨e, s2⟩ := r
        cases e with
        | normal => exact absurd rfl h3
        | _ => exact hQ
end

structure Prm where
  P : Program
  T : Tab
  given : FuncId → Option Summ
  mode : FuncId → Nat
  achk : FuncId → List D → Bool
  chk : FuncId → D → Bool
  lv : FuncId → Nat → List Nat

def endE (T : Tab) (aa : AV) (rs : List ResultVar) : Exit × St → Option Ret
  | (.normal, s) => outR T s aa rs
  | (.ret, s) => outR T s aa rs
  | _ => none
noncomputable def runB (M : Prm) (S : Nat → Option Summ) (f : FuncId) (fn : Func) (ins : List In) (c : Code) : Option Ret :=
  (ev ⟨M.T, S, ancA ins⟩ (M.lv f) c (inSt fn.ntmps ins)).bind (endE M.T (ancA ins) fn.results.toList)
def fnB (fn : Func) (ins : List In) : Bool := !(fn.name == "runtime.NumGoroutine") && insOK ins && decide (ins.length ≤ fn.ntmps)
noncomputable def runF (M : Prm) (S : Nat → Option Summ) (f : FuncId) (ins : List In) : Option Ret := match M.P.funcs[f]? with
  | none => none
  | some fn => match fn.body with
    | none => none
    | some c => if fnB fn ins = true then runB M S f fn ins c else none
def endEM (T : Tab) (rs : List ResultVar) : Exit × St → Option Ret
  | (.normal, s) => outM T s rs
  | (.ret, s) => outM T s rs
  | _ => none
noncomputable def runBM (M : Prm) (S : Nat → Option Summ) (f : FuncId) (fn : Func) (ins : List In) (c : Code) : Option Ret :=
  (ev ⟨M.T, S, .x⟩ (M.lv f) c (inSt fn.ntmps ins)).bind (endEM M.T fn.results.toList)
noncomputable def runFM (M : Prm) (S : Nat → Option Summ) (f : FuncId) (ins : List In) : Option Ret := match M.P.funcs[f]? with
  | none => none
  | some fn => match fn.body with
    | none => none
    | some c => if fnB fn ins = true then runBM M S f fn ins c else none
/-- How a function's arguments come: 3: the first is used up. -/
def inO (m : Nat) (ds : List D) : List In := match m, ds with
  | 3, x :: xs => .io x :: xs.map .d
  | _, ds => ds.map .d
/-- 3, 4: what one owns may be taken apart at the end. -/
noncomputable def runO (M : Prm) (S : Nat → Option Summ) (f : FuncId) (ds : List D) : Option Ret :=
  if M.mode f = 3 ∨ M.mode f = 4 then runFM M S f (inO (M.mode f) ds) else runF M S f (ds.map .d)
def outO (M : Prm) (f : FuncId) (r : Ret) : Option D := if (M.mode f = 1 ∨ r.deep = true) ∧ r.io.isNone = true then if M.chk f r.ret = true then some r.ret else none else none
def outI (M : Prm) (f : FuncId) (r : Ret) : Option (D × D) := match r.io with
  | some y => if r.deep = true then if M.chk f (.t [r.ret, y]) = true then some (r.ret, y) else none else none
  | none => none
structure Tb where
  o : FuncId → List D → Option D
  i : FuncId → D → List D → Option (D × D)
def mkS (M : Prm) (R : Tb) : Nat → Option Summ := fun f => match M.given f with
  | some s => some s
  | none => match M.mode f with
    | 0 => some (.own (R.o f))
    | 1 => some (.shared (R.o f))
    | 3 => some (.eat fun x ds => R.o f (x :: ds))
    | 4 => some (.own (R.o f))
    | 5 => some (.box (R.i f))
    | _ => some (.io (R.i f))
noncomputable def stepR (M : Prm) (R : Tb) : Tb where
  o f ds := if M.achk f ds = true then (runO M (mkS M R) f ds).bind (outO M f) else none
  i f x ds := if M.achk f (x :: ds) = true then (runF M (mkS M R) f (.io x :: ds.map .d)).bind (outI M f) else none
noncomputable def runN (M : Prm) : Nat → Tb
  | 0 => ⟨fun _ _ => none, fun _ _ _ => none⟩
  | n + 1 => stepR M (runN M n)
/-- What a function answers, once it has called whatever it calls. -/
noncomputable def lastR (M : Prm) : Tb := ⟨fun f ds => lim fun n => (runN M n).o f ds, fun f x ds => lim fun n => (runN M n).i f x ds⟩

structure PrmOK (M : Prm) : Prop where
  tab : M.T.ok M.P = true
  mixed : M.P.follows .mixedOrders = true
  given : SumOK M.P M.given
theorem runF_ok {M : Prm} (hM : PrmOK M) {S : Nat → Option Summ} (hS : SumOK M.P S) {f : FuncId} {ins : List In} {r : Ret} (h : runF M S f ins = some r) : FnOK M.P f ins r := by
  unfold runF at h
  split at h
  · cases h
  rename_i fn hf
  split at h
  · cases h
  rename_i c hb
  obtain ⟨h0, h⟩ := ite_inv h
  simp only [fnB, Bool.and_eq_true, Bool.not_eq_true', decide_eq_true_eq] at h0
  obtain ⟨⟨h1, h2⟩, h3⟩ := h0
  obtain ⟨x, h4, h5⟩ := bind_inv h
  refine fnOK_of hM.tab hf hb h1 rfl h2 h3 fun B G a w hr hB => ?_
  refine ev_ok hM.tab hS hM.mixed hB c h4 (Q := EndQ M.T B fn.results.toList r) ?_ G a w hr
  intro G a w hr
  obtain ⟨e, s⟩ := x
  cases e with
  | normal => exact ⟨.inl rfl, G, s, hr, by rw [hB]; exact h5⟩
  | ret => exact ⟨.inr rfl, G, s, hr, by rw [hB]; exact h5⟩
  | _ => cases h5
theorem runFM_ok {M : Prm} (hM : PrmOK M) {S : Nat → Option Summ} (hS : SumOK M.P S) {f : FuncId} {ins : List In} {r : Ret} (h : runFM M S f ins = some r) : FnOK M.P f ins r := by
  unfold runFM at h
  split at h
  · cases h
  rename_i fn hf
  split at h
  · cases h
  rename_i c hb
  obtain ⟨h0, h⟩ := ite_inv h
  simp only [fnB, Bool.and_eq_true, Bool.not_eq_true', decide_eq_true_eq] at h0
  obtain ⟨⟨h1, h2⟩, h3⟩ := h0
  obtain ⟨x, h4, h5⟩ := bind_inv h
  refine fnOK_ofM hM.tab hf hb h1 rfl h2 h3 fun B G a w hr hB => ?_
  refine ev_ok hM.tab hS hM.mixed hB c h4 (Q := EndM M.T B fn.results.toList r) ?_ G a w hr
  intro G a w hr
  obtain ⟨e, s⟩ := x
  cases e with
  | normal => exact ⟨.inl rfl, G, s, hr, h5⟩
  | ret => exact ⟨.inr rfl, G, s, hr, h5⟩
  | _ => cases h5
theorem runO_ok {M : Prm} (hM : PrmOK M) {S : Nat → Option Summ} (hS : SumOK M.P S) {f : FuncId} {ds : List D} {r : Ret} (h : runO M S f ds = some r) : FnOK M.P f (inO (M.mode f) ds) r := by
  unfold runO at h
  split at h
  · exact runFM_ok hM hS h
  · rename_i hm
    have e : inO (M.mode f) ds = ds.map .d := by
      unfold inO
      split
      · rename_i e; exact absurd (.inl e) hm
      · rfl
    rw [e]
    exact runF_ok hM hS h
theorem inO_d {m : Nat} (h : m ≠ 3) (ds : List D) : inO m ds = ds.map .d := by
  unfold inO
  split
  · exact absurd rfl h
  · rfl
theorem Post.share {w w' : World} {args : List Value} {Sd M : List Nat} {x : D} {v : Value} {io : Option D} (h : Post w args Sd M { ret := x, deep := true, io := io } v w') : Post w args Sd M { ret := x, deep := false, io := io } v w' := by
  obtain ⟨h1, h2, S, Si, h3, h4, h5, h6, h7, h8, h9, h10⟩ := h
  exact ⟨h1, h2, S, Si, h3.shared, h4, h5, h6, h7, h8, fun e => (by cases e), h10⟩
theorem FnOK.share {P : Program} {f : FuncId} {ins : List In} {x : D} {dp : Bool} {io : Option D} (h : FnOK P f ins { ret := x, deep := dp, io := io }) : FnOK P f ins { ret := x, deep := false, io := io } := by
  cases dp with
  | false => exact h
  | true =>
    intro w args Sd Mm hk ha hn hd
    exact (h w args Sd Mm hk ha hn hd).mono fun v w' hp => hp.share
theorem stepR_ok {M : Prm} (hM : PrmOK M) {R : Tb} (hS : SumOK M.P (mkS M R)) : SumOK M.P (mkS M (stepR M R)) := by
  have ho : ∀ f ds r, (stepR M R).o f ds = some r → FnOK M.P f (inO (M.mode f) ds) { ret := r, deep := false } ∧ (M.mode f ≠ 1 → FnOK M.P f (inO (M.mode f) ds) { ret := r }) := by
    intro f ds r h
    obtain ⟨_, h⟩ := ite_inv h
    obtain ⟨x, h1, h2⟩ := bind_inv h
    have hf := runO_ok hM hS h1
    unfold outO at h2
    obtain ⟨⟨h3, h4⟩, h2⟩ := ite_inv h2
    obtain ⟨h5, h2⟩ := ite_inv h2
    cases h2
    obtain ⟨ret, deep, io⟩ := x
    simp only [Option.isNone_iff_eq_none] at h4
    subst h4
    refine ⟨hf.share, fun hm => ?_⟩
    rcases h3 with h3 | h3
    · exact absurd h3 hm
    · simp only at h3; subst h3; exact hf
  have hi : ∀ f x ds r, (stepR M R).i f x ds = some r → FnOK M.P f (.io x :: ds.map .d) { ret := r.1, io := some r.2 } := by
    intro f x ds r h
    obtain ⟨_, h⟩ := ite_inv h
    obtain ⟨y, h1, h2⟩ := bind_inv h
    have hf := runF_ok hM hS h1
    unfold outI at h2
    split at h2
    case h_2 => cases h2
    rename_i z e
    obtain ⟨h3, h2⟩ := ite_inv h2
    obtain ⟨h5, h2⟩ := ite_inv h2
    cases h2
    obtain ⟨ret, deep, io⟩ := y
    simp only at e h3
    subst e h3
    exact hf
  intro f s h
  unfold mkS at h
  split at h
  · rename_i s' e
    cases h
    exact hM.given f s e
  · split at h
    all_goals rename_i e0 e; cases h
    · exact fun ds r h => by have := (ho f ds r h).2 (by rw [e]; decide); rwa [e, inO_d (by decide)] at this
    · exact fun ds r h => by have := (ho f ds r h).1; rwa [e, inO_d (by decide)] at this
    · exact fun x ds r h => by have := (ho f (x :: ds) r h).2 (by rw [e]; decide); rwa [e] at this
    · exact fun ds r h => by have := (ho f ds r h).2 (by rw [e]; decide); rwa [e, inO_d (by decide)] at this
    · exact fun x ds r h => hi f x ds r h
    · exact fun x ds r h => hi f x ds r h
theorem runN_ok {M : Prm} (hM : PrmOK M) : ∀ n, SumOK M.P (mkS M (runN M n))
  | 0 => by
    intro f s h
    unfold mkS at h
    split at h
    · rename_i s' e
      cases h
      exact hM.given f s e
    · split at h <;> cases h
      · intro ds r h; cases h
      · intro ds r h; cases h
      · intro x ds r h; cases h
      · intro ds r h; cases h
      · intro x ds r h; cases h
      · intro x ds r h; cases h
  | n + 1 => stepR_ok hM (runN_ok hM n)
theorem lastR_ok {M : Prm} (hM : PrmOK M) : SumOK M.P (mkS M (lastR M)) := by
  intro f s h
  unfold mkS at h
  split at h
  · rename_i s' e
    cases h
    exact hM.given f s e
  · rename_i e
    split at h <;> rename_i e0 e1 <;> cases h
    · intro ds r h
      obtain ⟨n, h⟩ := lim_inv h
      exact runN_ok hM n f (.own ((runN M n).o f)) (by unfold mkS; simp only [e, e1]) ds r h
    · intro ds r h
      obtain ⟨n, h⟩ := lim_inv h
      exact runN_ok hM n f (.shared ((runN M n).o f)) (by unfold mkS; simp only [e, e1]) ds r h
    · intro x ds r h
      obtain ⟨n, h⟩ := lim_inv h
      exact runN_ok hM n f (.eat fun x ds => (runN M n).o f (x :: ds)) (by unfold mkS; simp only [e, e1]) x ds r h
    · intro ds r h
      obtain ⟨n, h⟩ := lim_inv h
      exact runN_ok hM n f (.own ((runN M n).o f)) (by unfold mkS; simp only [e, e1]) ds r h
    · intro x ds r h
      obtain ⟨n, h⟩ := lim_inv h
      exact runN_ok hM n f (.box ((runN M n).i f)) (by unfold mkS; simp only [e, e1]) x ds r h
    · intro x ds r h
      obtain ⟨n, h⟩ := lim_inv h
      refine runN_ok hM n f (.io ((runN M n).i f)) ?_ x ds r h
      unfold mkS
      simp only [e]
end Go.Fs
namespace Go.Fs
open Go.RowKit

def Evt (p : Nat → Prop) : Prop := ∃ N, ∀ m, N ≤ m → p m
theorem Evt.all {p : Nat → Prop} (h : ∀ m, p m) : Evt p := ⟨0, fun m _ => h m⟩
theorem Evt.mono {p q : Nat → Prop} (h : Evt p) (k : ∀ m, p m → q m) : Evt q := by
  obtain ⟨N, h⟩ := h
  exact ⟨N, fun m hm => k m (h m hm)⟩
theorem Evt.and {p q : Nat → Prop} (h : Evt p) (k : Evt q) : Evt fun m => p m ∧ q m := by
  obtain ⟨N, h⟩ := h
  obtain ⟨N', k⟩ := k
  exact ⟨N + N', fun m hm => ⟨h m (by omega), k m (by omega)⟩⟩
structure Tends (S : Nat → Nat → Option Summ) (S' : Nat → Option Summ) : Prop where
  own : ∀ f F', S' f = some (.own F') → ∀ ds r, F' ds = some r → Evt fun m => ∃ F, S m f = some (.own F) ∧ F ds = some r
  shared : ∀ f F', S' f = some (.shared F') → ∀ ds r, F' ds = some r → Evt fun m => ∃ F, S m f = some (.shared F) ∧ F ds = some r
  io : ∀ f F', S' f = some (.io F') → ∀ x ds r, F' x ds = some r → Evt fun m => ∃ F, S m f = some (.io F) ∧ F x ds = some r
  eat : ∀ f F', S' f = some (.eat F') → ∀ x ds r, F' x ds = some r → Evt fun m => ∃ F, S m f = some (.eat F) ∧ F x ds = some r
  box : ∀ f F', S' f = some (.box F') → ∀ x ds r, F' x ds = some r → Evt fun m => ∃ F, S m f = some (.box F) ∧ F x ds = some r
  bld : ∀ f F', S' f = some (.bld F') → ∀ x ds r, F' x ds = some r → Evt fun m => ∃ F, S m f = some (.bld F) ∧ F x ds = some r
section
variable {S : Nat → Nat → Option Summ} {S' : Nat → Option Summ} {T : Tab} {aa : AV}
theorem callE_tends (ht : Tends S S') {s : St} {dst : Option Nat} {f : FuncId} {args : List AV} {s' : St} (h : callE ⟨T, S', aa⟩ s dst f args = some s') : Evt fun m => callE ⟨T, S m, aa⟩ s dst f args = some s' := by
  unfold callE at h
  split at h
  · cases h
  · rename_i F e
    obtain ⟨ds, h1, h⟩ := bind_inv h
    obtain ⟨r, h2, h⟩ := bind_inv h
    refine (ht.own f F e ds r h2).mono fun m ⟨F', e1, e2⟩ => ?_
    simp only [callE, e1, h1, Option.bind_some, e2]
    exact h
  · rename_i F e
    obtain ⟨H1, h1, h⟩ := bind_inv h
    obtain ⟨h2, h⟩ := ite_inv h
    obtain ⟨ds, h3, h⟩ := bind_inv h
    obtain ⟨r, h4, h⟩ := bind_inv h
    refine (ht.shared f F e ds r h4).mono fun m ⟨F', e1, e2⟩ => ?_
    simp only [callE, e1, h1, Option.bind_some, sharedE, h2, if_true, h3, e2]
    exact h
  · rename_i F e
    split at h
    · cases h
    · rename_i k ve i o rest
      split at h
      case h_2 => cases h
      rename_i sz xs ve' e2
      obtain ⟨⟨e5, h1b⟩, h1c⟩ := ite_inv h
      subst e5
      obtain ⟨cs, h8, h⟩ := bind_inv h1c
      obtain ⟨x, h9, h⟩ := bind_inv h
      obtain ⟨ds, h2, h⟩ := bind_inv h
      obtain ⟨r, h3, h⟩ := bind_inv h
      refine (ht.io f F e _ ds r h3).mono fun m ⟨F', e3, e4⟩ => ?_
      simp only [callE, e3, e2, h1b, and_self, if_true, h8, Option.bind_some, nestC, h9, h2, e4]
      exact h
    · rename_i io rest hne
      obtain ⟨x, h1, h⟩ := bind_inv h
      obtain ⟨ds, h2, h⟩ := bind_inv h
      obtain ⟨r, h3, h⟩ := bind_inv h
      refine (ht.io f F e _ ds r h3).mono fun m ⟨F', e3, e4⟩ => ?_
      unfold callE
      simp only [e3, h1, h2, Option.bind_some, e4]
      exact h
  · rename_i F e
    obtain ⟨y, h1, h⟩ := bind_inv h
    obtain ⟨x, ds, r, h2, h3⟩ := eatC_inv h1
    refine (ht.eat f F e _ ds r h2).mono fun m ⟨F', e1, e2⟩ => ?_
    simp only [callE, e1, h3 F' e2, Option.bind_some]
    exact h
  · rename_i F e
    obtain ⟨y, h1, h⟩ := bind_inv h
    obtain ⟨x, ds, r, h2, h3⟩ := bxC_inv h1
    refine (ht.box f F e _ ds r h2).mono fun m ⟨F', e1, e2⟩ => ?_
    simp only [callE, e1, h3 F' e2, Option.bind_some]
    exact h
  · rename_i F e
    obtain ⟨y, h1, h⟩ := bind_inv h
    obtain ⟨x, ds, r, h2, h3⟩ := bdC_inv h1
    refine (ht.bld f F e _ ds r h2).mono fun m ⟨F', e1, e2⟩ => ?_
    simp only [callE, e1, h3 F' e2, Option.bind_some]
    exact h
theorem opE_tends (ht : Tends S S') {o : Oper} {s s' : St} (h : opE ⟨T, S', aa⟩ o s = some s') : Evt fun m => opE ⟨T, S m, aa⟩ o s = some s' := by
  by_cases hc : ∃ c f, o.op = .call c ∧ c.callee = .value f
  · obtain ⟨c, f, e1, e2⟩ := hc
    simp only [opE, e1, e2] at h ⊢
    split at h
    · exact callE_tends ht h
    · obtain ⟨h1, h⟩ := ite_inv h
      simp only [h1, if_true]
      exact callE_tends ht h
    · cases h
  · refine Evt.all fun m => ?_
    rw [← h]
    unfold opE
    split
    all_goals try rfl
    rename_i c e1
    split
    · rename_i f e2; exact absurd ⟨c, f, e1, e2⟩ hc
    · rfl
theorem opG_tends (ht : Tends S S') {ops : List Oper} {o : Oper} {s s' : St} (h : opG ⟨T, S', aa⟩ ops o s = some s') : Evt fun m => opG ⟨T, S m, aa⟩ ops o s = some s' := by
  unfold opG at h ⊢
  split at h
  · exact opE_tends ht h
  · split at h
    · exact Evt.all fun m => h
    · split at h
      · split at h
        · rename_i e
          simp only [e, if_true]
          split at h
          · exact opE_tends ht h
          · exact Evt.all fun m => h
        · rename_i e
          simp only [e]
          split at h
          · exact Evt.all fun m => h
          · exact opE_tends ht h
      · exact Evt.all fun m => h
      · cases h
theorem opsE_tends (ht : Tends S S') {ops : List Oper} : ∀ {os : List Oper} {s s' : St}, opsE ⟨T, S', aa⟩ ops os s = some s' → Evt fun m => opsE ⟨T, S m, aa⟩ ops os s = some s'
  | [], s, s', h => Evt.all fun m => h
  | o :: os, s, s', h => by
    obtain ⟨s1, h1, h⟩ := bind_inv h
    refine ((opG_tends ht h1).and (opsE_tends ht h)).mono fun m ⟨e1, e2⟩ => ?_
    simp only [opsE, e1, Option.bind_some, e2]
theorem qE_tends (ht : Tends S S') {o : Oper} {s : St} {av : AV} (h : qE ⟨T, S', aa⟩ o s = some av) : Evt fun m => qE ⟨T, S m, aa⟩ o s = some av := by
  by_cases hc : ∃ c f, o.op = .call c ∧ c.callee = .value f
  · obtain ⟨c, f, e1, e2⟩ := hc
    simp only [qE, e1, e2] at h ⊢
    split at h
    · rename_i fn caps e3
      split at h
      · rename_i F e4
        obtain ⟨ds, h1, h⟩ := bind_inv h
        obtain ⟨r, h2, h⟩ := bind_inv h
        refine (ht.own fn F e4 ds r h2).mono fun m ⟨F', e5, e6⟩ => ?_
        simp only [e5, h1, Option.bind_some, e6]
        exact h
      · rename_i F e4
        obtain ⟨h0, h⟩ := ite_inv h
        obtain ⟨ds, h1, h⟩ := bind_inv h
        obtain ⟨r, h2, h⟩ := bind_inv h
        refine (ht.shared fn F e4 ds r h2).mono fun m ⟨F', e5, e6⟩ => ?_
        simp only [e5, h0, if_true, h1, Option.bind_some, e6]
        exact h
      · cases h
    · cases h
  · refine Evt.all fun m => ?_
    rw [← h]
    unfold qE
    split
    all_goals try rfl
    rename_i c e1
    split
    · rename_i f e2; exact absurd ⟨c, f, e1, e2⟩ hc
    · rfl
theorem qGE_tends (ht : Tends S S') {ops : List Oper} {o : Oper} {s : St} {av : AV} (h : qGE ⟨T, S', aa⟩ ops o s = some av) : Evt fun m => qGE ⟨T, S m, aa⟩ ops o s = some av := by
  unfold qGE at h ⊢
  split at h
  · exact qE_tends ht h
  · split at h
    · exact Evt.all fun m => h
    · split at h
      · split at h
        · rename_i e
          simp only [e, if_true]
          split at h
          · exact qE_tends ht h
          · exact Evt.all fun m => h
        · rename_i e
          simp only [e]
          split at h
          · exact Evt.all fun m => h
          · exact qE_tends ht h
      · exact Evt.all fun m => h
      · cases h
theorem qsE_tends (ht : Tends S S') {ops : List Oper} : ∀ {os : List Oper} {s s' : St}, qsE ⟨T, S', aa⟩ ops os s = some s' → Evt fun m => qsE ⟨T, S m, aa⟩ ops os s = some s'
  | [], s, s', h => Evt.all fun m => h
  | o :: os, s, s', h => by
    unfold qsE at h
    split at h
    · rename_i d e
      obtain ⟨h1, h⟩ := ite_inv h
      obtain ⟨av, h2, h⟩ := bind_inv h
      refine ((qGE_tends ht h2).and (qsE_tends ht h)).mono fun m ⟨e1, e2⟩ => ?_
      simp only [qsE, e, h1, if_true, e1, Option.bind_some, e2]
    · cases h
theorem xsE_tends (ht : Tends S S') {ops : Array Oper} : ∀ {is : List Nat} {s s' : St}, xsE ⟨T, S', aa⟩ ops is s = some s' → Evt fun m => xsE ⟨T, S m, aa⟩ ops is s = some s'
  | [], s, s', h => Evt.all fun m => h
  | i :: is, s, s', h => by
    unfold xsE at h
    split at h
    · rename_i o e
      obtain ⟨s1, h1, h⟩ := bind_inv h
      have hx : Evt fun m => xE ⟨T, S m, aa⟩ ops i o s = some s1 := by
        unfold xE at h1 ⊢
        split at h1
        · exact opG_tends ht h1
        · exact Evt.all fun m => h1
        · by_cases hc : ∃ c f, o.op = .call c ∧ c.callee = .value f
          · obtain ⟨c, f, e1, e2⟩ := hc
            simp only [frE, e1, e2] at h1 ⊢
            split at h1
            · rename_i fn caps e3
              split at h1
              · rename_i F e4
                obtain ⟨ds, h2, h1⟩ := bind_inv h1
                obtain ⟨r, h3, h1⟩ := bind_inv h1
                refine (ht.own fn F e4 ds r h3).mono fun m ⟨F', e5, e6⟩ => ?_
                simp only [e5, h2, Option.bind_some, e6]
                exact h1
              · cases h1
            · cases h1
          · refine Evt.all fun m => ?_
            rw [← h1]
            unfold frE
            split
            all_goals try rfl
            rename_i c e1
            split
            · rename_i f e2; exact absurd ⟨c, f, e1, e2⟩ hc
            · rfl
      refine (hx.and (xsE_tends ht h)).mono fun m ⟨e1, e2⟩ => ?_
      simp only [xsE, e, e1, Option.bind_some, e2]
    · cases h
theorem gsE_tends (ht : Tends S S') {ops : List Oper} : ∀ {L : List (List Oper)} {s s' : St}, gsE ⟨T, S', aa⟩ ops L s = some s' → Evt fun m => gsE ⟨T, S m, aa⟩ ops L s = some s'
  | [], s, s', h => Evt.all fun m => h
  | os :: L, s, s', h => by
    have plain : ∀ {s' : St}, (opsE ⟨T, S', aa⟩ ops os s).bind (gsE ⟨T, S', aa⟩ ops L) = some s' → Evt fun m => (opsE ⟨T, S m, aa⟩ ops os s).bind (gsE ⟨T, S m, aa⟩ ops L) = some s' := by
      intro s' h
      obtain ⟨s1, h1, h2⟩ := bind_inv h
      refine ((opsE_tends ht h1).and (gsE_tends ht h2)).mono fun m ⟨e1, e2⟩ => ?_
      rw [e1, Option.bind_some, e2]
    unfold gsE at h ⊢
    split at h
    · rename_i e0
      simp only [e0, if_true]
      split at h
      · rename_i e9
        simp only [e9]
        obtain ⟨v, h1, h2⟩ := bind_inv h
        obtain ⟨s0, h3, h4⟩ := bind_inv h1
        refine ((qsE_tends ht h3).and (gsE_tends ht h2)).mono fun m ⟨e1, e2⟩ => ?_
        simp only [gdE, e1, Option.bind_some, h4, e2]
      · rename_i e9
        simp only [e9]
        exact plain h
    · rename_i e0
      simp only [e0]
      exact plain h
theorem regE_tends (ht : Tends S S') {ops : Array Oper} {dr : Bool} {s s' : St} (h : regE ⟨T, S', aa⟩ ops dr s = some s') : Evt fun m => regE ⟨T, S m, aa⟩ ops dr s = some s' := by
  unfold regE at h ⊢
  split at h
  · rename_i e0
    simp only [e0, if_true]
    split at h
    · rename_i hd
      simp only [hd, if_true]
      obtain ⟨h1, h⟩ := ite_inv h
      simp only [h1, if_true]
      split at h
      · rename_i e9
        simp only [e9]
        obtain ⟨v, h2, h⟩ := Option.map_eq_some_iff.1 h
        obtain ⟨s0, h3, h4⟩ := bind_inv h2
        refine (qsE_tends ht h3).mono fun m e1 => ?_
        simp only [gdE, e1, Option.bind_some, h4, Option.map_some, h]
      · rename_i e9
        simp only [e9]
        exact qsE_tends ht h
    · rename_i hd
      simp only [hd]
      exact gsE_tends ht h
  · rename_i e0
    simp only [e0]
    split at h
    · rename_i hd
      simp only [hd, if_true]
      split at h
      · rename_i h1
        simp only [h1, if_true]
        exact qsE_tends ht h
      · rename_i h1
        obtain ⟨h2, h⟩ := ite_inv h
        simp only [h1, h2, if_true]
        exact xsE_tends ht h
    · rename_i hd
      simp only [hd]
      exact opsE_tends ht h
theorem stepY_tends (ht : Tends S S') {ops : Array Oper} {o : Oper} {s s' : St} (h : stepY ⟨T, S', aa⟩ ops o s = some s') : Evt fun m => stepY ⟨T, S m, aa⟩ ops o s = some s' := by
  unfold stepY at h ⊢
  split at h
  · rename_i hw
    simp only [hw, if_true]
    exact opG_tends ht h
  · rename_i hw
    simp only [hw]
    split at h
    · rename_i d e
      obtain ⟨h1, h⟩ := ite_inv h
      obtain ⟨av, h2, h⟩ := bind_inv h
      refine (qGE_tends ht h2).mono fun m e1 => ?_
      simp only [e1, Option.bind_some, h1, if_true]
      exact h
    · cases h
theorem trY_tends (ht : Tends S S') {ops : Array Oper} : ∀ {os : List Oper} {s : St} {L : List St}, trY ⟨T, S', aa⟩ ops os s = some L → Evt fun m => trY ⟨T, S m, aa⟩ ops os s = some L
  | [], s, L, h => Evt.all fun m => h
  | o :: os, s, L, h => by
    obtain ⟨s1, h1, h⟩ := bind_inv h
    obtain ⟨L', h2, rfl⟩ := Option.map_eq_some_iff.1 h
    refine ((stepY_tends ht h1).and (trY_tends ht h2)).mono fun m ⟨e1, e2⟩ => ?_
    simp only [trY, e1, Option.bind_some, e2, Option.map_some]
theorem chkY_tends (ht : Tends S S') {ops : Array Oper} {L : List St} {x : Nat × Nat} (h : chkY ⟨T, S', aa⟩ ops L x) : Evt fun m => chkY ⟨T, S m, aa⟩ ops L x := by
  unfold chkY at h ⊢
  split at h
  · unfold chkZ at h ⊢
    split at h
    · split at h
      · exact Evt.all fun m => trivial
      · split at h
        · exact Evt.all fun m => h
        · split at h
          · exact Evt.all fun m => h
          · exact qGE_tends ht h
    · exact h.elim
  · exact h.elim
theorem chks_tends (ht : Tends S S') {ops : Array Oper} {L : List St} : ∀ {prs : List (Nat × Nat)}, (∀ x ∈ prs, chkY ⟨T, S', aa⟩ ops L x) → Evt fun m => ∀ x ∈ prs, chkY ⟨T, S m, aa⟩ ops L x
  | [], _ => Evt.all fun m => by simp
  | x :: xs, h => by
    refine ((chkY_tends ht (h x (.head _))).and (chks_tends ht fun y hy => h y (.tail _ hy))).mono fun m ⟨e1, e2⟩ y hy => ?_
    cases hy with
    | head => exact e1
    | tail _ hy => exact e2 y hy
theorem regY_tends (ht : Tends S S') {hint : List Nat} {ops : Array Oper} {dr : Bool} {s s' : St} (h : regY ⟨T, S', aa⟩ hint ops dr s = some s') : Evt fun m => regY ⟨T, S m, aa⟩ hint ops dr s = some s' := by
  unfold regY at h ⊢
  split at h
  · exact regE_tends ht h
  · split at h
    · rename_i hd
      simp only [hd, if_true]
      unfold planE at h ⊢
      obtain ⟨h1, h⟩ := ite_inv h
      obtain ⟨L, h2, h⟩ := bind_inv h
      obtain ⟨h3, h⟩ : (∀ x ∈ prsOf _, chkY ⟨T, S', aa⟩ ops L x) ∧ L[ops.size]? = some s' := by
        split at h
        · exact ⟨by assumption, h⟩
        · cases h
      refine ((trY_tends ht h2).and (chks_tends ht h3)).mono fun m ⟨e1, e2⟩ => ?_
      rw [if_pos h1, e1, Option.bind_some, if_pos e2]
      exact h
    · rename_i hd
      simp only [Bool.not_eq_true] at hd
      subst hd
      simp only [Bool.false_eq_true, if_false]
      exact regE_tends ht h
theorem ev_tends (ht : Tends S S') {lv : Nat → List Nat} : ∀ (c : Code) {s : St} {r : Exit × St}, ev ⟨T, S', aa⟩ lv c s = some r → Evt fun m => ev ⟨T, S m, aa⟩ lv c s = some r := by
  intro c
  induction c with
  | region id ops dr =>
    intro s r h
    simp only [ev, Option.map_eq_some_iff] at h ⊢
    obtain ⟨s', h, rfl⟩ := h
    exact (regY_tends ht h).mono fun m e => ⟨s', e, rfl⟩
  | seq x y ihx ihy =>
    intro s r h
    simp only [ev] at h ⊢
    obtain ⟨r1, h1, h2⟩ := bind_inv h
    rcases thenR_inv h2 with ⟨s2, rfl, h2⟩ | ⟨h3, rfl⟩
    · refine ((ihx h1).and (ihy h2)).mono fun m ⟨e1, e2⟩ => ?_
      rw [e1, Option.bind_some, thenR_go, e2]
    · refine (ihx h1).mono fun m e1 => ?_
      rw [e1, Option.bind_some, thenR_out h3]
  | cond c x y ihx ihy =>
    intro s r h
    simp only [ev] at h ⊢
    split at h
    case h_2 => cases h
    split at h
    · rename_i e
      simp only [e, if_true]
      exact ihx h
    · rename_i e
      simp only [e]
      exact ihy h
  | block id b ih =>
    intro s r h
    simp only [ev, Option.map_eq_some_iff] at h ⊢
    obtain ⟨r1, h, e⟩ := h
    exact (ih h).mono fun m e1 => ⟨r1, e1, e⟩
  | loop b ih =>
    intro s r h
    have hm : ∀ m n, itE aa (lv (cid b)) (ev ⟨T, S m, aa⟩ lv b) n s = some r → ev ⟨T, S m, aa⟩ lv (.loop b) s = some r := fun m n e => by
      simp only [ev]
      exact lim_some (fun n r h => itE_mono n s r h) e
    simp only [ev] at h
    obtain ⟨n, h⟩ := lim_inv h
    have key : ∀ n s, itE aa (lv (cid b)) (ev ⟨T, S', aa⟩ lv b) n s = some r → Evt fun m => itE aa (lv (cid b)) (ev ⟨T, S m, aa⟩ lv b) n s = some r := by
      intro n
      induction n with
      | zero => intro s h; cases h
      | succ n ihn =>
        intro s h
        unfold itE at h
        obtain ⟨s1, h1, h⟩ := bind_inv h
        obtain ⟨x, h2, h⟩ := bind_inv h
        rcases thenR_inv h with ⟨s2, rfl, h⟩ | ⟨h3, rfl⟩
        · refine ((ih h2).and (ihn s2 h)).mono fun m ⟨e1, e2⟩ => ?_
          unfold itE
          rw [h1, Option.bind_some, e1, Option.bind_some, thenR_go, e2]
        · refine (ih h2).mono fun m e1 => ?_
          unfold itE
          rw [h1, Option.bind_some, e1, Option.bind_some, thenR_out h3]
    exact (key n s h).mono fun m e => hm m n e
  | _ =>
    intro s r h
    exact Evt.all fun m => by simpa only [ev] using h
end
theorem runF_tends {M : Prm} {S : Nat → Nat → Option Summ} {S' : Nat → Option Summ} (ht : Tends S S') {f : FuncId} {ins : List In} {r : Ret} (h : runF M S' f ins = some r) : Evt fun m => runF M (S m) f ins = some r := by
  unfold runF at h ⊢
  split at h
  · cases h
  rename_i fn hf
  split at h
  · cases h
  rename_i c hb
  obtain ⟨h0, h⟩ := ite_inv h
  obtain ⟨x, h1, h2⟩ := bind_inv h
  refine (ev_tends ht c h1).mono fun m e => ?_
  rw [if_pos h0]
  unfold runB
  rw [e, Option.bind_some, h2]

theorem runFM_tends {M : Prm} {S : Nat → Nat → Option Summ} {S' : Nat → Option Summ} (ht : Tends S S') {f : FuncId} {ins : List In} {r : Ret} (h : runFM M S' f ins = some r) : Evt fun m => runFM M (S m) f ins = some r := by
  unfold runFM at h ⊢
  split at h
  · cases h
  rename_i fn hf
  split at h
  · cases h
  rename_i c hb
  obtain ⟨h0, h⟩ := ite_inv h
  obtain ⟨x, h1, h2⟩ := bind_inv h
  refine (ev_tends ht c h1).mono fun m e => ?_
  rw [if_pos h0]
  unfold runBM
  rw [e, Option.bind_some, h2]
theorem runO_tends {M : Prm} {S : Nat → Nat → Option Summ} {S' : Nat → Option Summ} (ht : Tends S S') {f : FuncId} {ds : List D} {r : Ret} (h : runO M S' f ds = some r) : Evt fun m => runO M (S m) f ds = some r := by
  unfold runO at h ⊢
  split at h
  · rename_i e; simp only [e, if_true]; exact runFM_tends ht h
  · rename_i e; simp only [e, if_false]; exact runF_tends ht h

theorem mkS_tends {M : Prm} {R : Nat → Tb} {R' : Tb} (ho : ∀ f ds r, R'.o f ds = some r → Evt fun m => (R m).o f ds = some r) (hi : ∀ f x ds r, R'.i f x ds = some r → Evt fun m => (R m).i f x ds = some r) : Tends (fun m => mkS M (R m)) (mkS M R') := by
  refine ⟨fun f F' h ds r hr => ?_, fun f F' h ds r hr => ?_, fun f F' h x ds r hr => ?_, fun f F' h x ds r hr => ?_, fun f F' h x ds r hr => ?_, fun f F' h x ds r hr => ?_⟩
  all_goals
    unfold mkS at h ⊢
    split at h
    · cases h
      rename_i e
      exact Evt.all fun m => ⟨F', by simp only [e], hr⟩
    · rename_i e
      split at h <;> cases h
      all_goals first
        | exact (ho f ds r hr).mono fun m e1 => ⟨_, rfl, e1⟩
        | exact (hi f x ds r hr).mono fun m e1 => ⟨_, rfl, e1⟩
        | exact (ho f (x :: ds) r hr).mono fun m e1 => ⟨fun x ds => (R m).o f (x :: ds), rfl, e1⟩
theorem runN_mono (M : Prm) : ∀ n, (∀ f ds r, (runN M n).o f ds = some r → (runN M (n + 1)).o f ds = some r) ∧ (∀ f x ds r, (runN M n).i f x ds = some r → (runN M (n + 1)).i f x ds = some r)
  | 0 => ⟨fun f ds r h => (by cases h), fun f x ds r h => (by cases h)⟩
  | n + 1 => by
    obtain ⟨i1, i2⟩ := runN_mono M n
    have ht := mkS_tends (M := M) (R := fun _ => runN M (n + 1)) (R' := runN M n) (fun f ds r h => Evt.all fun _ => i1 f ds r h) (fun f x ds r h => Evt.all fun _ => i2 f x ds r h)
    have hN : ∀ {p : Prop}, Evt (fun _ => p) → p := fun h => by obtain ⟨N, h⟩ := h; exact h N (Nat.le_refl N)
    refine ⟨fun f ds r h => ?_, fun f x ds r h => ?_⟩
    · obtain ⟨h0, h⟩ := ite_inv h
      obtain ⟨y, h1, h2⟩ := bind_inv h
      show (if M.achk f ds = true then (runO M (mkS M (runN M (n + 1))) f ds).bind (outO M f) else none) = some r
      rw [if_pos h0, hN (runO_tends ht h1), Option.bind_some, h2]
    · obtain ⟨h0, h⟩ := ite_inv h
      obtain ⟨y, h1, h2⟩ := bind_inv h
      show (if M.achk f (x :: ds) = true then (runF M (mkS M (runN M (n + 1))) f (.io x :: ds.map .d)).bind (outI M f) else none) = some r
      rw [if_pos h0, hN (runF_tends ht h1), Option.bind_some, h2]
theorem lastR_up (M : Prm) : (∀ f ds r, (lastR M).o f ds = some r → Evt fun m => (runN M m).o f ds = some r) ∧ (∀ f x ds r, (lastR M).i f x ds = some r → Evt fun m => (runN M m).i f x ds = some r) := by
  refine ⟨fun f ds r h => ?_, fun f x ds r h => ?_⟩
  · obtain ⟨n, h⟩ := lim_inv h
    exact ⟨n, fun m hm => mono_le (g := fun n => (runN M n).o f ds) (fun n r h => (runN_mono M n).1 f ds r h) hm h⟩
  · obtain ⟨n, h⟩ := lim_inv h
    exact ⟨n, fun m hm => mono_le (g := fun n => (runN M n).i f x ds) (fun n r h => (runN_mono M n).2 f x ds r h) hm h⟩
/-- What a function answers is what its code answers. -/
theorem lastR_o (M : Prm) (f : FuncId) (ds : List D) : (lastR M).o f ds = if M.achk f ds = true then (runO M (mkS M (lastR M)) f ds).bind (outO M f) else none := by
  apply Option.ext
  intro r
  constructor
  · intro h
    obtain ⟨n, h⟩ := lim_inv h
    cases n with
    | zero => cases h
    | succ n =>
      obtain ⟨h0, h⟩ := ite_inv h
      obtain ⟨y, h1, h2⟩ := bind_inv h
      have ht := mkS_tends (M := M) (R := fun _ => lastR M) (R' := runN M n) (fun f ds r h => Evt.all fun _ => lim_some (fun n r h => (runN_mono M n).1 f ds r h) h) (fun f x ds r h => Evt.all fun _ => lim_some (fun n r h => (runN_mono M n).2 f x ds r h) h)
      obtain ⟨N, h3⟩ := runO_tends ht h1
      rw [if_pos h0, h3 N (Nat.le_refl N), Option.bind_some, h2]
  · intro h
    obtain ⟨h0, h⟩ := ite_inv h
    obtain ⟨y, h1, h2⟩ := bind_inv h
    obtain ⟨N, h3⟩ := runO_tends (mkS_tends (M := M) (R := runN M) (R' := lastR M) (lastR_up M).1 (lastR_up M).2) h1
    refine lim_some (fun n r h => (runN_mono M n).1 f ds r h) (n := N + 1) ?_
    show (if M.achk f ds = true then (runO M (mkS M (runN M N)) f ds).bind (outO M f) else none) = some r
    rw [if_pos h0, h3 N (Nat.le_refl N), Option.bind_some, h2]
theorem lastR_i (M : Prm) (f : FuncId) (x : D) (ds : List D) : (lastR M).i f x ds = if M.achk f (x :: ds) = true then (runF M (mkS M (lastR M)) f (.io x :: ds.map .d)).bind (outI M f) else none := by
  apply Option.ext
  intro r
  constructor
  · intro h
    obtain ⟨n, h⟩ := lim_inv h
    cases n with
    | zero => cases h
    | succ n =>
      obtain ⟨h0, h⟩ := ite_inv h
      obtain ⟨y, h1, h2⟩ := bind_inv h
      have ht := mkS_tends (M := M) (R := fun _ => lastR M) (R' := runN M n) (fun f ds r h => Evt.all fun _ => lim_some (fun n r h => (runN_mono M n).1 f ds r h) h) (fun f x ds r h => Evt.all fun _ => lim_some (fun n r h => (runN_mono M n).2 f x ds r h) h)
      obtain ⟨N, h3⟩ := runF_tends ht h1
      rw [if_pos h0, h3 N (Nat.le_refl N), Option.bind_some, h2]
  · intro h
    obtain ⟨h0, h⟩ := ite_inv h
    obtain ⟨y, h1, h2⟩ := bind_inv h
    obtain ⟨N, h3⟩ := runF_tends (mkS_tends (M := M) (R := runN M) (R' := lastR M) (lastR_up M).1 (lastR_up M).2) h1
    refine lim_some (fun n r h => (runN_mono M n).2 f x ds r h) (n := N + 1) ?_
    show (if M.achk f (x :: ds) = true then (runF M (mkS M (runN M N)) f (.io x :: ds.map .d)).bind (outI M f) else none) = some r
    rw [if_pos h0, h3 N (Nat.le_refl N), Option.bind_some, h2]
end Go.Fs
