/- A part of the proof: an evaluator of the program's code over plain data, proved sound, and walks of the program's functions by it. No conditions beyond those in the theorems. -/
import Derived.Test.YtbgbnmghhmfihaaLawIp17
import Derived.Test.YtbgbnmghhmfihaaLawIp16
import Derived.Test.YtbgbnmghhmfihaaLawIp8
import Derived.Test.YtbgbnmghhmfihaaLawIp12
import Derived.Test.YtbgbnmghhmfihaaLawIp9
set_option linter.unusedVariables false
namespace Go.Fs
/-- What is asked of an operation: 1: it leaves the heap, 2: it only adds to it. -/
def ob (f : Nat) (s s' : St) : Prop := match f with
  | 0 => True
  | 1 => s'.heap = s.heap
  | _ => Ext s.heap s'.heap
def xk (f : Nat) (s : St) (N : St → Prop) (s' : St) : Prop := ob f s s' ∧ N s'
def awpXs (A : Env) (ops : Array Oper) (fl : Nat → Nat) (K : St → Prop) : List Nat → St → Prop
  | [], s => K s
  | i :: is, s => match ops.toList[i]? with
    | some o => awpG A ops.toList o s (xk (fl i) s (awpXs A ops fl K is))
    | none => False

theorem upd_comm {α : Type} (f : Nat → α) {i j : Nat} (h : i ≠ j) (a b : α) : upd (upd f i a) j b = upd (upd f j b) i a := by
  funext t
  simp only [upd]
  by_cases h1 : t = j
  · subst h1
    rw [if_pos rfl, if_neg (fun e => h e.symm), if_pos rfl]
  · rw [if_neg h1]
    by_cases h2 : t = i
    · rw [if_pos h2, if_pos h2]
    · rw [if_neg h2, if_neg h2, if_neg h1]

/-- Two operations that do not touch each other. -/
def apartB (ops : Array Oper) (o p : Oper) : Bool := match o.dst, p.dst with
  | some d, some e => d != e && !(o.looksAt ops).contains e && !(p.looksAt ops).contains d
  | _, _ => false
theorem swap_op {A : Env} {ops : Array Oper} {o p : Oper} {f : Nat} (hf0 : f ≠ 0) (hr : rdB o = true) (hf : frB p = true) (ha : apartB ops o p = true) {s : St} {N : St → Prop}
    (h : awpG A ops.toList o s (xk 1 s fun s1 => awpG A ops.toList p s1 (xk f s1 N))) : awpG A ops.toList p s (xk f s fun s1 => awpG A ops.toList o s1 (xk 1 s1 N)) := by
  unfold apartB at ha
  split at ha
  case h_2 => cases ha
  rename_i d e hd he
  simp only [Bool.and_eq_true, bne_iff_ne, ne_eq, Bool.not_eq_true', List.contains_eq_mem, decide_eq_false_iff_not] at ha
  obtain ⟨⟨hde, hoe⟩, hpd⟩ := ha
  obtain ⟨av, hlt, h1, hre⟩ := rd_det hr hd h
  refine awpG_frame (s := ⟨s.n, upd s.env d av, s.heap⟩) (s' := s) hf he ⟨rfl, fun t ht => ?_⟩ rfl (fun av2 H h2 => ?_) h1
  · show upd s.env d av t = s.env t
    have : t ≠ d := fun e' => hpd (by rw [← e']; exact ht)
    simp only [upd, if_neg this]
  · obtain ⟨h2a, h2b⟩ := h2
    have hext : Ext s.heap H := by
      match f, hf0, h2a with
      | 1, _, h => have h : H = s.heap := h; rw [h]; exact Ext.refl _
      | n + 2, _, h => exact h
    refine ⟨?_, hre ⟨s.n, upd s.env e av2, H⟩ rfl (fun t ht => ?_) hext N ?_⟩
    · match f, hf0, h2a with
      | 1, _, h => exact h
      | n + 2, _, h => exact h
    · have : t ≠ e := fun e' => hoe (by rw [← e']; exact ht)
      simp only [upd, if_neg this]
    · have : upd (upd s.env e av2) d av = upd (upd s.env d av) e av2 := upd_comm _ (fun e' => hde e'.symm) _ _
      simp only
      rw [this]
      exact h2b

theorem xk_mono {f : Nat} {s s' : St} {N N' : St → Prop} (hN : ∀ s, N s → N' s) (h : xk f s N s') : xk f s N' s' := ⟨h.1, hN _ h.2⟩
theorem awpXs_mono {A : Env} {ops : Array Oper} {fl : Nat → Nat} {K K' : St → Prop} (hk : ∀ s, K s → K' s) : ∀ (l : List Nat) (s : St), awpXs A ops fl K l s → awpXs A ops fl K' l s
  | [], s, h => hk s h
  | i :: is, s, h => by
    simp only [awpXs] at h ⊢
    split at h
    · exact awpG_mono (fun s' h => xk_mono (awpXs_mono hk is) h) h
    · exact h

/-- What comes behind what. -/
def depN (ops : Array Oper) : Nat → Nat → Nat → Bool
  | 0, _, _ => false
  | n + 1, j, i => match ops.toList[i]? with
    | some o => o.after.toList.any fun e => Region.binds .any e && (e.on == j || depN ops n j e.on)
    | none => false
def okPair (ops : Array Oper) (fl : Nat → Nat) (j i : Nat) : Bool := depN ops ops.size j i || match ops.toList[j]?, ops.toList[i]? with
  | some o, some p => fl j == 1 && fl i != 0 && rdB o && frB p && apartB ops o p
  | _, _ => false
def pairsB (ops : Array Oper) (fl : Nat → Nat) : List Nat → Bool
  | [] => true
  | j :: l => l.all (okPair ops fl j) && pairsB ops fl l
/-- Every operation comes behind those that it waits for. -/
def backB (ops : Array Oper) : List Nat → List Nat → Bool
  | _, [] => true
  | pre, i :: l => (match ops.toList[i]? with
    | some o => o.after.toList.all fun e => !Region.binds .any e || pre.contains e.on
    | none => false) && backB ops (i :: pre) l
def ordB (ops : Array Oper) (fl : Nat → Nat) (ord : List Nat) : Bool := pairsB ops fl ord && backB ops [] ord && decide ord.Nodup && (ord.length == ops.size)

theorem dep_listed {ops : Array Oper} {listed : Array Bool} (hc : ∀ (j : Nat) (o : Oper), ops[j]? = some o → listed.getD j false = true → ∀ e ∈ o.after, Region.binds .any e = true → listed.getD e.on false = true) :
    ∀ (n j i : Nat), depN ops n j i = true → (∀ o, ops[i]? = some o → ∀ e ∈ o.after, Region.binds .any e = true → listed.getD e.on false = true) → listed.getD j false = true
  | 0, j, i, h, _ => by cases h
  | n + 1, j, i, h, hr => by
    simp only [depN] at h
    split at h
    · rename_i o ho
      rw [Array.getElem?_toList] at ho
      simp only [List.any_eq_true, Bool.and_eq_true, Bool.or_eq_true, beq_iff_eq] at h
      obtain ⟨e, he, hb, h⟩ := h
      have h1 := hr o ho e (by simpa using he) hb
      rcases h with rfl | h
      · exact h1
      · exact dep_listed hc n j e.on h fun p hp e' he' hb' => hc e.on p hp h1 e' he' hb'
    · cases h

theorem pairs_mem {ops : Array Oper} {fl : Nat → Nat} : ∀ {l1 : List Nat} {i : Nat} {l2 : List Nat}, pairsB ops fl (l1 ++ i :: l2) = true → ∀ j ∈ l1, okPair ops fl j i = true
  | j' :: l1, i, l2, h, j, hj => by
    simp only [List.cons_append, pairsB, Bool.and_eq_true, List.all_eq_true] at h
    cases hj with
    | head => exact h.1 i (by simp)
    | tail _ hj => exact pairs_mem h.2 j hj
theorem pairs_drop {ops : Array Oper} {fl : Nat → Nat} : ∀ {l1 : List Nat} {i : Nat} {l2 : List Nat}, pairsB ops fl (l1 ++ i :: l2) = true → pairsB ops fl (l1 ++ l2) = true
  | [], i, l2, h => by simp only [List.nil_append, pairsB, Bool.and_eq_true] at h ⊢; exact h.2
  | j :: l1, i, l2, h => by
    simp only [List.cons_append, pairsB, Bool.and_eq_true, List.all_eq_true] at h ⊢
    refine ⟨fun x hx => h.1 x ?_, pairs_drop h.2⟩
    rcases List.mem_append.1 hx with hx | hx
    · exact List.mem_append_left _ hx
    · exact List.mem_append_right _ (.tail _ hx)
/-- What is ready comes to the front. -/
theorem to_front {A : Env} {ops : Array Oper} {fl : Nat → Nat} {K : St → Prop} {i : Nat} {l2 : List Nat} : ∀ (l1 : List Nat), (∀ j ∈ l1, okPair ops fl j i = true ∧ depN ops ops.size j i = false) → ∀ (s : St), awpXs A ops fl K (l1 ++ i :: l2) s → awpXs A ops fl K (i :: (l1 ++ l2)) s
  | [], _, s, h => h
  | j :: l1, hp, s, h => by
    obtain ⟨h1, h2⟩ := hp j (.head _)
    unfold okPair at h1
    rw [h2, Bool.false_or] at h1
    split at h1
    case h_2 => cases h1
    rename_i o p ho hpp
    simp only [Bool.and_eq_true, beq_iff_eq, bne_iff_ne, ne_eq] at h1
    obtain ⟨⟨⟨⟨a1, a2⟩, a3⟩, a4⟩, a5⟩ := h1
    simp only [List.cons_append, awpXs, ho] at h
    have h3 : awpG A ops.toList o s (xk (fl j) s (awpXs A ops fl K (i :: (l1 ++ l2)))) := awpG_mono (fun s' h => xk_mono (to_front l1 fun j' hj' => hp j' (.tail _ hj')) h) h
    rw [a1] at h3
    simp only [awpXs, hpp] at h3
    have h4 := swap_op a2 a3 a4 a5 h3
    simp only [List.cons_append, awpXs, hpp, ho, a1]
    exact h4

theorem split_at {l : List Nat} {i : Nat} (h : i ∈ l) : ∃ l1 l2, l = l1 ++ i :: l2 := List.append_of_mem h
theorem any_ord {A : Env} {ops : Array Oper} {fl : Nat → Nat} {K : St → Prop} : ∀ (n : Nat) (l : List Nat) (listed : Array Bool) (s : St), l.length = n → listed.size = ops.size → l.Nodup → (∀ j, j < ops.size → (listed.getD j false = false ↔ j ∈ l)) → (∀ j ∈ l, j < ops.size) →
    (∀ (j : Nat) (o : Oper), ops[j]? = some o → listed.getD j false = true → ∀ e ∈ o.after, Region.binds .any e = true → listed.getD e.on false = true) →
    (∀ (pre : List Nat) (i : Nat) (post : List Nat), l = pre ++ i :: post → ∀ o, ops[i]? = some o → ∀ e ∈ o.after, Region.binds .any e = true → e.on ∈ pre ∨ listed.getD e.on false = true) →
    pairsB ops fl l = true → awpXs A ops fl K l s → awpAny A ops K n listed s := by
  intro n
  induction n with
  | zero =>
    intro l listed s hn hsz hnd hmem hlt hc hb hp h
    obtain rfl := List.eq_nil_of_length_eq_zero hn
    refine ⟨List.eq_nil_iff_forall_not_mem.2 fun j hj => ?_, h⟩
    obtain ⟨h1, o, ho, _⟩ := mem_ready.1 hj
    have hj := lt_of_some ho
    have hlj : j < listed.size := by omega
    have : listed.getD j false = false := by simp [hlj] at h1 ⊢; exact h1
    exact absurd ((hmem j hj).1 this) (by simp)
  | succ n ih =>
    intro l listed s hn hsz hnd hmem hlt hc hb hp h
    refine ⟨fun he => ?_, fun i hi => ?_⟩
    · exfalso
      cases l with
      | nil => cases hn
      | cons i l =>
        have hil := hlt i (.head _)
        have hij : listed.getD i false = false := (hmem i hil).2 (.head _)
        have : i ∈ Region.ready .any ops listed := mem_ready.2 ⟨by
          have : i < listed.size := by omega
          simp [this] at hij ⊢; exact hij, ops[i], Array.getElem?_eq_getElem hil, fun e he' hbd => by
          rcases hb [] i l rfl _ (Array.getElem?_eq_getElem hil) e he' hbd with h | h
          · cases h
          · exact h⟩
        rw [he] at this; cases this
    · obtain ⟨hun, o, ho, hall⟩ := mem_ready.1 hi
      have hil := lt_of_some ho
      have hils : i < listed.size := by omega
      have hun' : listed.getD i false = false := by simp [hils] at hun ⊢; exact hun
      obtain ⟨l1, l2, rfl⟩ := split_at ((hmem i hil).1 hun')
      have hfront := to_front (A := A) (K := K) l1 (fun j hj => ⟨pairs_mem hp j hj, by
        cases hd : depN ops ops.size j i with
        | false => rfl
        | true =>
          have h1 := dep_listed hc _ _ _ hd fun p hpp => by rw [ho] at hpp; cases hpp; exact hall
          have h2 := (hmem j (hlt j (List.mem_append_left _ hj))).2 (List.mem_append_left _ hj)
          rw [h1] at h2; cases h2⟩) s h
      have ho' : ops.toList[i]? = some o := by rw [Array.getElem?_toList]; exact ho
      simp only [awpXs, ho'] at hfront
      rw [ho']
      have hnd2 := List.nodup_append.1 hnd
      have hget : ∀ j, (listed.setIfInBounds i true).getD j false = true ↔ (listed.getD j false = true ∨ j = i) := fun j => by
        by_cases e : j = i
        · subst e; simp [hils]
        · rw [getD_set_ne false (Ne.symm e)]; simp [e]
      have hi1 : i ∉ l1 := fun hm => hnd2.2.2 i hm i (.head _) rfl
      have hi2 : i ∉ l2 := (List.nodup_cons.1 hnd2.2.1).1
      refine awpG_mono (fun s' h' => ?_) hfront
      refine ih (l1 ++ l2) (listed.setIfInBounds i true) s' (by simp at hn ⊢; omega) (by simpa using hsz) ?_ (fun j hj => ?_) (fun j hj => ?_) (fun j p hpj hj e he hbd => ?_) (fun pre i' post heq p hpp e he hbd => ?_) (pairs_drop hp) h'.2
      · refine List.nodup_append.2 ⟨hnd2.1, (List.nodup_cons.1 hnd2.2.1).2, fun a ha b hb => hnd2.2.2 a ha b (.tail _ hb)⟩
      · rw [← Bool.not_eq_true, hget j]
        constructor
        · intro hx
          have h1 : listed.getD j false = false := by cases hl : listed.getD j false with
            | false => rfl
            | true => exact absurd (.inl hl) hx
          have h2 := (hmem j hj).1 h1
          rcases List.mem_append.1 h2 with h2 | h2
          · exact List.mem_append_left _ h2
          · cases h2 with
            | head => exact absurd (.inr rfl) hx
            | tail _ h2 => exact List.mem_append_right _ h2
        · intro hx hy
          rcases hy with hy | hy
          · have : j ∈ l1 ++ i :: l2 := by
              rcases List.mem_append.1 hx with hx | hx
              · exact List.mem_append_left _ hx
              · exact List.mem_append_right _ (.tail _ hx)
            have := (hmem j hj).2 this
            rw [hy] at this; cases this
          · subst hy
            rcases List.mem_append.1 hx with hx | hx
            · exact hi1 hx
            · exact hi2 hx
      · rcases List.mem_append.1 hj with hj | hj
        · exact hlt j (List.mem_append_left _ hj)
        · exact hlt j (List.mem_append_right _ (.tail _ hj))
      · rw [hget] at hj ⊢
        rcases hj with hj | rfl
        · exact .inl (hc j p hpj hj e he hbd)
        · rw [ho] at hpj; cases hpj
          exact .inl (hall e he hbd)
      · -- what an operation waits for stands before it, or is done
        rw [hget]
        have key : ∀ (pre' post' : List Nat), l1 ++ i :: l2 = pre' ++ i' :: post' → (∀ x ∈ pre', x ∈ pre ∨ x = i) → e.on ∈ pre ∨ (listed.getD e.on false = true ∨ e.on = i) := fun pre' post' heq' hsub => by
          rcases hb pre' i' post' heq' p hpp e he hbd with h | h
          · rcases hsub _ h with h | h
            · exact .inl h
            · exact .inr (.inr h)
          · exact .inr (.inl h)
        rcases List.append_eq_append_iff.1 heq with ⟨t, h1, h2⟩ | ⟨t, h1, h2⟩
        · -- i' stands in l2
          refine key (l1 ++ i :: t) post (by rw [List.append_assoc, List.cons_append, ← h2]) fun x hx => ?_
          rcases List.mem_append.1 hx with hx | hx
          · exact .inl (by rw [h1]; exact List.mem_append_left _ hx)
          · cases hx with
            | head => exact .inr rfl
            | tail _ hx => exact .inl (by rw [h1]; exact List.mem_append_right _ hx)
        · -- i' stands in l1, or l1 is pre
          cases t with
          | nil =>
            simp only [List.append_nil] at h1
            simp only [List.nil_append] at h2
            subst h1
            refine key (l1 ++ [i]) post (by rw [List.append_assoc, h2]; rfl) fun x hx => ?_
            rcases List.mem_append.1 hx with hx | hx
            · exact .inl hx
            · exact .inr (List.mem_singleton.1 hx)
          | cons y t =>
            simp only [List.cons_append, List.cons.injEq] at h2
            obtain ⟨rfl, h2⟩ := h2
            refine key pre (t ++ i :: l2) (by rw [h1, List.append_assoc]; rfl) fun x hx => .inl hx

theorem back_ok {ops : Array Oper} : ∀ (l pre : List Nat), backB ops pre l = true → ∀ (p1 : List Nat) (i : Nat) (p2 : List Nat), l = p1 ++ i :: p2 → ∀ o, ops[i]? = some o → ∀ e ∈ o.after, Region.binds .any e = true → e.on ∈ p1 ∨ e.on ∈ pre
  | [], pre, _, p1, i, p2, he, _, _, _, _, _ => by cases p1 <;> cases he
  | x :: l, pre, h, p1, i, p2, heq, o, ho, e, he, hb => by
    simp only [backB, Bool.and_eq_true] at h
    cases p1 with
    | nil =>
      simp only [List.nil_append, List.cons.injEq] at heq
      obtain ⟨rfl, rfl⟩ := heq
      have h1 := h.1
      rw [Array.getElem?_toList, ho] at h1
      simp only [List.all_eq_true] at h1
      have := h1 e (by simpa using he)
      simp only [hb, Bool.not_true, Bool.false_or, List.contains_eq_mem, decide_eq_true_eq] at this
      exact .inr this
    | cons y p1 =>
      simp only [List.cons_append, List.cons.injEq] at heq
      obtain ⟨rfl, rfl⟩ := heq
      rcases back_ok _ (x :: pre) h.2 p1 i p2 rfl o ho e he hb with h1 | h1
      · exact .inl (.tail _ h1)
      · cases h1 with
        | head => exact .inl (.head _)
        | tail _ h1 => exact .inr h1
theorem back_lt {ops : Array Oper} : ∀ (l pre : List Nat), backB ops pre l = true → ∀ i ∈ l, i < ops.size
  | x :: l, pre, h, i, hi => by
    simp only [backB, Bool.and_eq_true] at h
    cases hi with
    | head =>
      have h1 := h.1
      split at h1
      · rename_i o ho
        rw [Array.getElem?_toList] at ho
        exact lt_of_some ho
      · cases h1
    | tail _ hi => exact back_lt l _ h.2 i hi
theorem len_sub : ∀ {l r : List Nat}, l.Nodup → (∀ x ∈ l, x ∈ r) → l.length ≤ r.length
  | [], r, _, _ => Nat.zero_le _
  | x :: l, r, hn, hs => by
    have hx := hs x (.head _)
    have hn2 := List.nodup_cons.1 hn
    have := len_sub (l := l) (r := r.erase x) hn2.2 fun y hy => (List.mem_erase_of_ne (fun e => hn2.1 (by rw [← e]; exact hy))).2 (hs y (.tail _ hy))
    rw [List.length_erase_of_mem hx] at this
    have : 0 < r.length := List.length_pos_of_mem hx
    simp only [List.length_cons]
    omega
theorem perm_all (n : Nat) (l : List Nat) (hnd : l.Nodup) (hl : l.length = n) (hlt : ∀ i ∈ l, i < n) (j : Nat) (hj : j < n) : j ∈ l := by
  refine Decidable.byContradiction fun hn => ?_
  have := len_sub (l := j :: l) (r := List.range n) (List.nodup_cons.2 ⟨hn, hnd⟩) fun x hx => by
    cases hx with
    | head => exact List.mem_range.2 hj
    | tail _ hx => exact List.mem_range.2 (hlt x hx)
  simp at this
  omega

/-- A region in which the order is left open: one order will do. -/
theorem awp_ord {A : Env} {id : Nat} {ops : Array Oper} {Q : Exit → St → Prop} {s : St} (ord : List Nat) (fl : Nat → Nat) (hq : ordB ops fl ord = true) (h : awpXs A ops fl (Q .normal) ord s) : awp A (.region id ops true) Q s := by
  simp only [ordB, Bool.and_eq_true, decide_eq_true_eq, beq_iff_eq] at hq
  obtain ⟨⟨⟨h1, h2⟩, h3⟩, h4⟩ := hq
  refine awp_any ?_
  have hrep : ∀ j, (Array.replicate ops.size false).getD j false = false := fun j => by
    by_cases hj : j < ops.size <;> simp [hj]
  have hlt := back_lt ord [] h2
  refine any_ord ops.size ord (Array.replicate ops.size false) s h4 (by simp) h3 (fun j hj => ⟨fun _ => perm_all _ _ h3 h4 hlt j hj, fun _ => hrep j⟩) hlt (fun j o ho hj => by rw [hrep] at hj; cases hj) (fun pre i post heq o ho e he hb => ?_) h1 h
  rcases back_ok ord [] h2 pre i post heq o ho e he hb with h | h
  · exact .inl h
  · cases h
theorem xk_0 (s : St) (N : St → Prop) (s' : St) : xk 0 s N s' = N s' := by simp [xk, ob]
theorem xk_1 (s : St) (N : St → Prop) (s' : St) : xk 1 s N s' = (s'.heap = s.heap ∧ N s') := rfl
theorem xk_2 (s : St) (N : St → Prop) (s' : St) : xk 2 s N s' = (Ext s.heap s'.heap ∧ N s') := rfl
end Go.Fs

set_option linter.unusedVariables false
namespace Go.Fs
/-! ### a nil list in a variable may be known as an empty row of one's own -/
theorem RelG.nil {B : Ctx} {G : Nat → GI} {s : St} {a : Act} {w : World} (h : RelG B G s a w) {j c k' sz : Nat} {cs : List AV} (hj : s.heap j = some (.box cs)) (hc : cs[c]? = some (.z sz)) (hn : s.heap k' = none) :
    ∃ G', RelG B G' { s with heap := upd (upd s.heap k' (some (.row sz [] true false 0))) j (some (.box (cs.set c (.r k')))) } a w := by
  have hjk : j ≠ k' := fun e => by rw [e, hn] at hj; cases hj
  let gi : GI := { blk := 0, off := 0, cap := 0, vs := [], sub := [] }
  have h1 := h.new (w' := w) k' gi (.row sz [] true false 0) hn (Rest.refl w) (fun _ _ => rfl) (by simp [ownOf, gi]) (by simp [ownOf, gi]) (RowR.mkVoid w _ 0 0 sz true false)
  have hj1 : (upd s.heap k' (some (.row sz [] true false 0))) j = some (.box cs) := by rw [upd_ne _ _ hjk]; exact hj
  refine ⟨upd G k' gi, ?_⟩
  refine h1.step (w' := w) (G' := upd G k' gi) (upd (upd s.heap k' (some (.row sz [] true false 0))) j (some (.box (cs.set c (.r k'))))) (fun i => i = j) (.refl w) (fun _ _ _ => rfl) (fun i hi => ⟨upd_ne _ _ hi, rfl⟩) ?_ ?_ ?_ ?_ ?_
  · rintro i o rfl ho
    have ho : upd s.heap k' (some (.row sz [] true false 0)) i = some o := ho
    rw [hj1] at ho
    cases ho
    exact ⟨_, upd_same .., .box _ _ rfl⟩
  · rintro i rfl b hb
    rw [upd_same] at hb
    refine .inl ⟨i, rfl, ?_⟩
    show b ∈ ownOf (upd G k' gi i) (upd s.heap k' (some (.row sz [] true false 0)) i)
    rw [hj1]
    exact hb
  · rintro i rfl
    rw [upd_same]
    simp [ownOf]
  · rintro i i' rfl rfl _ _ _; rfl
  · rintro i o rfl ho
    rw [upd_same] at ho
    cases ho
    obtain ⟨cur, e, q1, q2, q3⟩ := h1.obj i _ hj1
    refine ⟨cur, e, q1, ?_, q3⟩
    have hA : ∀ b, Ban B.F (upd G k' gi) (upd (upd s.heap k' (some (.row sz [] true false 0))) i (some (.box (cs.set c (.r k'))))) b → Ban B.F (upd G k' gi) (upd s.heap k' (some (.row sz [] true false 0))) b := by
      rintro b (⟨m, hm⟩ | hf)
      · left
        by_cases hmi : m = i
        · subst hmi
          rw [upd_same] at hm
          exact ⟨m, by rw [hj1]; exact hm⟩
        · rw [upd_ne _ _ hmi] at hm
          exact ⟨m, hm⟩
      · exact .inr hf
    have q4 := (AVR.mono_both (w := w) (w' := w) (G := upd G k' gi) (G' := upd G k' gi) (H := upd s.heap k' (some (.row sz [] true false 0))) (H' := upd (upd s.heap k' (some (.row sz [] true false 0))) i (some (.box (cs.set c (.r k')))))
      (Av := Ban B.F (upd G k' gi) (upd s.heap k' (some (.row sz [] true false 0)))) (Av' := Ban B.F (upd G k' gi) (upd (upd s.heap k' (some (.row sz [] true false 0))) i (some (.box (cs.set c (.r k')))))) (fun _ _ _ => rfl) (fun b _ hb => hA b hb) (fun m o hm => by
        by_cases hmi : m = i
        · subst hmi
          rw [hj1] at hm
          cases hm
          exact ⟨_, upd_same .., .box _ _ rfl⟩
        · exact ⟨o, by rw [upd_ne _ _ hmi]; exact hm, Ob.to.refl _ _⟩)).2 q2
    refine AVRL.of (by rw [List.length_set]; exact q4.length) fun m v av hv hav => ?_
    by_cases hmc : m = c
    · subst hmc
      have hlen := (List.getElem?_eq_some_iff.1 hc).1
      rw [List.getElem?_set_self hlen] at hav
      cases hav
      have hz := q4.get hv hc
      generalize hzz : AV.z sz = zz at hz
      cases hz <;> try (cases hzz; done)
      have := AVR.r (w := w) (G := upd G k' gi) (H := upd (upd s.heap k' (some (.row sz [] true false 0))) i (some (.box (cs.set m (.r k'))))) (Av := Ban B.F (upd G k' gi) (upd (upd s.heap k' (some (.row sz [] true false 0))) i (some (.box (cs.set m (.r k')))))) k' sz [] true false 0 none (by rw [upd_ne _ _ hjk.symm, upd_same]) (by rw [upd_same]; exact fun h => absurd h (Nat.lt_irrefl 0))
      rw [upd_same] at this
      exact this
    · rw [List.getElem?_set_ne (fun e => hmc e.symm)] at hav
      exact q4.get hv hav
theorem sem_nil {aa : AV} {s : St} (j c k' sz : Nat) {cs : List AV} (hj : s.heap j = some (.box cs)) (hc : cs[c]? = some (.z sz)) (hn : s.heap k' = none) : Sem aa s { s with heap := upd (upd s.heap k' (some (.row sz [] true false 0))) j (some (.box (cs.set c (.r k')))) } := fun B G a w hB hr => hr.nil hj hc hn
end Go.Fs

set_option linter.unusedVariables false
namespace Go.Fs.Sr
def F26 : List D → Option D
  | [.g [.l 6 fs, .l 1 ns], .i .i64 k] => if (shLL lfun fs = true ∧ fs.length ≤ 140737488355328 ∧ lnLL fs = true) ∧ (shLL [.i] ns = true ∧ ns.length ≤ 140737488355328 ∧ lnLL ns = true) ∧ 0 ≤ k ∧ k + ((lvLL fs : Int) + lvLL ns) ≤ 2305843009213693952 then some (.i .i64 (heldL [.l 6 fs, .l 1 ns] k)) else none
  | _ => none
theorem pick1_get {n : Nat} {f : Nat → Bool} {j : Nat} (h : j < (pick1 n f).length) : ∃ a : Nat, a < n ∧ f a = true ∧ (pick1 n f).getD j [] = [.i .i64 (a : Int)] := by
  unfold pick1 at h ⊢
  rw [List.length_map] at h
  have hm := List.getElem_mem h
  have h1 := List.mem_filter.1 hm
  refine ⟨((List.range n).filter f)[j], List.mem_range.1 h1.1, h1.2, ?_⟩
  rw [List.getD_eq_getElem?_getD, List.getElem?_map, List.getElem?_eq_getElem h]
  rfl
theorem movF_row (n : Nat) (list : List (List D)) (m w : ByteArray) (ps cs : List (List D)) (ty sl : Int) : movF n list [.s m, .s w, .l 1 ps, .i .i64 ty, .i .i64 sl, .l 2 cs] = [.s m, .s w, .l 1 ps, .i .i64 ty, .i .i64 sl, .l 2 (cs.map (movI n list))] := rfl
theorem movI_yes {n : Nat} {list : List (List D)} {op a : Int} (h : op = 8 ∧ 0 ≤ a ∧ a < (n : Int)) : movI n list [.i .i64 op, .i .i64 a] = [.i .i64 op, .i .i64 (idxN list a)] := by
  simp only [movI]; rw [if_pos h]
theorem movI_no {n : Nat} {list : List (List D)} {op a : Int} (h : ¬ (op = 8 ∧ 0 ≤ a ∧ a < (n : Int))) : movI n list [.i .i64 op, .i .i64 a] = [.i .i64 op, .i .i64 a] := by
  simp only [movI]; rw [if_neg h]
def newFun (fs list : List (List D)) (x : List D) : List D := movF fs.length list (fs.getD (numOf x).toNat [])
theorem newFuns_eq (fs list : List (List D)) : newFuns fs list = list.map (newFun fs list) := rfl
def newMain (list : List (List D)) (x : List D) : List D := [.i .i64 (idxN list (numOf x))]
theorem newMains_eq (ns list : List (List D)) : newMains ns list = ns.map (newMain list) := rfl
theorem newFun_at {fs list : List (List D)} {a : Nat} : newFun fs list [.i .i64 (a : Int)] = movF fs.length list (fs.getD a []) := by simp [newFun, numOf]
end Go.Fs.Sr

set_option linter.unusedVariables false
set_option linter.unusedSimpArgs false
set_option maxRecDepth 20000
set_option maxHeartbeats 2000000
namespace Go.Fs.Sr
open Go.Proofs.Try

theorem f26_ok {S : Nat → Option Summ} (hS : SumOK prog S) (s61 : S 61 = some (.own (heldP lfun))) (s23 : S 23 = some (.own (heldP [.i]))) (ds : List D) (r : D) (hr : F26 ds = some r) : FnOK prog 26 (ds.map .d) { ret := r } := by
  unfold F26 at hr
  split at hr
  case h_2 => cases hr
  rename_i fs ns k
  split at hr
  case isFalse => cases hr
  rename_i hc
  obtain ⟨⟨hf1, hf2, hf3⟩, ⟨hn1, hn2, hn3⟩, hk0, hkl⟩ := hc
  simp only [Option.some.injEq] at hr
  subst hr
  refine fnOK_awp (A := ⟨tab, S, .x⟩) tab_ok hS mixed func26 rfl rfl rfl rfl (by show 2 ≤ 18; decide) rfl ?_
  refine seqK fun K hK => ?_
  simp only [bW, ↓splitB_true, ↓splitB_false, nilCmp, opConv, eq_self, if_true, if_false, Nat.reduceEqDiff, reduceCtorEq, ↓reduceIte, Nat.reduceLT, Nat.reduceAdd, Nat.reduceMul, Nat.reduceSub, Nat.reduceLeDiff, Nat.reduceBEq, Int.reduceEq, Int.reduceNeg, tk, ntmps26, results26, s61, s23]
  refine hK _ ?_; clear hK K
  refine seqK fun K hK => ?_
  simp only [bW, ↓splitB_true, ↓splitB_false, nilCmp, opConv, eq_self, if_true, if_false, Nat.reduceEqDiff, reduceCtorEq, ↓reduceIte, Nat.reduceLT, Nat.reduceAdd, Nat.reduceMul, Nat.reduceSub, Nat.reduceLeDiff, Nat.reduceBEq, Int.reduceEq, Int.reduceNeg, tk, ntmps26, results26, s61, s23]
  refine OkO_heldP rfl hf1 hf2 hf3 hk0 (by omega) ?_
  simp only [bW, ↓splitB_true, ↓splitB_false, nilCmp, opConv, eq_self, if_true, if_false, Nat.reduceEqDiff, reduceCtorEq, ↓reduceIte, Nat.reduceLT, Nat.reduceAdd, Nat.reduceMul, Nat.reduceSub, Nat.reduceLeDiff, Nat.reduceBEq, Int.reduceEq, Int.reduceNeg, tk, ntmps26, results26, s61, s23]
  refine hK _ ?_; clear hK K
  refine seqK fun K hK => ?_
  simp only [bW, ↓splitB_true, ↓splitB_false, nilCmp, opConv, eq_self, if_true, if_false, Nat.reduceEqDiff, reduceCtorEq, ↓reduceIte, Nat.reduceLT, Nat.reduceAdd, Nat.reduceMul, Nat.reduceSub, Nat.reduceLeDiff, Nat.reduceBEq, Int.reduceEq, Int.reduceNeg, tk, ntmps26, results26, s61, s23]
  refine splitB_intro (fun hb => ?_) (fun hb => hK _ ?_) <;> clear hK K
  · have hb := of_decide_eq_true hb
    rw [heldL_l0 hb]
  have hb := of_decide_eq_false hb
  have hkf := heldLL_k fs k (by omega)
  rw [heldL_l1 hb]
  refine seqK fun K hK => ?_
  simp only [bW, ↓splitB_true, ↓splitB_false, nilCmp, opConv, eq_self, if_true, if_false, Nat.reduceEqDiff, reduceCtorEq, ↓reduceIte, Nat.reduceLT, Nat.reduceAdd, Nat.reduceMul, Nat.reduceSub, Nat.reduceLeDiff, Nat.reduceBEq, Int.reduceEq, Int.reduceNeg, tk, ntmps26, results26, s61, s23]
  refine OkO_heldP rfl hn1 hn2 hn3 (by omega) (by omega) ?_
  simp only [bW, ↓splitB_true, ↓splitB_false, nilCmp, opConv, eq_self, if_true, if_false, Nat.reduceEqDiff, reduceCtorEq, ↓reduceIte, Nat.reduceLT, Nat.reduceAdd, Nat.reduceMul, Nat.reduceSub, Nat.reduceLeDiff, Nat.reduceBEq, Int.reduceEq, Int.reduceNeg, tk, ntmps26, results26, s61, s23]
  refine hK _ ?_; clear hK K
  refine seqK fun K hK => ?_
  simp only [bW, ↓splitB_true, ↓splitB_false, nilCmp, opConv, eq_self, if_true, if_false, Nat.reduceEqDiff, reduceCtorEq, ↓reduceIte, Nat.reduceLT, Nat.reduceAdd, Nat.reduceMul, Nat.reduceSub, Nat.reduceLeDiff, Nat.reduceBEq, Int.reduceEq, Int.reduceNeg, tk, ntmps26, results26, s61, s23]
  refine splitB_intro (fun hb => ?_) (fun hb => hK _ ?_) <;> clear hK K
  · have hb := of_decide_eq_true hb
    rw [heldL_l0 hb]
  have hb := of_decide_eq_false hb
  rw [heldL_l1 hb, heldL_nil]
  simp only [bW, ↓splitB_true, ↓splitB_false, nilCmp, opConv, eq_self, if_true, if_false, Nat.reduceEqDiff, reduceCtorEq, ↓reduceIte, Nat.reduceLT, Nat.reduceAdd, Nat.reduceMul, Nat.reduceSub, Nat.reduceLeDiff, Nat.reduceBEq, Int.reduceEq, Int.reduceNeg, tk, ntmps26, results26, s61, s23]

end Go.Fs.Sr

set_option linter.unusedVariables false
set_option linter.unusedSimpArgs false
set_option maxRecDepth 20000
set_option maxHeartbeats 2000000
namespace Go.Fs.Sr
open Go.Proofs.Try

theorem f58_ok {S : Nat → Option Summ} (hS : SumOK prog S) (s95 : S 95 = some (.own (toP [.i]))) (s98 : S 98 = some (.own (toP ins2))) (ds : List D) (r : D) (hr : toG limg ds = some r) : FnOK prog 58 (ds.map .d) { ret := r } := by
  obtain ⟨xs, rfl, h1, h2, h3, rfl⟩ := toG_inv hr
  clear hr
  obtain ⟨c1, q1, rfl, e1, h1⟩ := shL_cons h1
  obtain ⟨c2, q2, rfl, e2, h1⟩ := shL_cons h1
  obtain rfl := shL_nil h1
  obtain ⟨z1, fs, rfl, hz1, e1⟩ := shD_l2 e1
  obtain rfl : z1 = 6 := hz1
  obtain ⟨z2, ns, rfl, hz2, e2⟩ := shD_l2 e2
  obtain rfl : z2 = 1 := hz2
  simp only [okL_cons, okL_nil, okD_s, okD_l, okD_i, okD_b, and_true, true_and] at h2
  obtain ⟨⟨kf, kf'⟩, ⟨kn, kn'⟩⟩ := h2
  simp only [wtL, wt] at h3
  refine fnOK_awp (A := ⟨tab, S, .x⟩) tab_ok hS mixed func58 rfl rfl rfl rfl (by show 1 ≤ 33; decide) rfl ?_
  refine seqK fun K hK => ?_
  simp only [bW, ↓splitB_true, ↓splitB_false, nilCmp, opConv, eq_self, if_true, if_false, Nat.reduceEqDiff, reduceCtorEq, ↓reduceIte, Nat.reduceLT, Nat.reduceAdd, Nat.reduceMul, Nat.reduceSub, Nat.reduceLeDiff, Nat.reduceBEq, Int.reduceEq, Int.reduceNeg, tk, ntmps58, results58, fillA, placeT, s95, s98]
  refine hK _ ?_; clear hK K
  refine seqK fun K hK => ?_
  simp only [bW, ↓splitB_true, ↓splitB_false, nilCmp, opConv, eq_self, if_true, if_false, Nat.reduceEqDiff, reduceCtorEq, ↓reduceIte, Nat.reduceLT, Nat.reduceAdd, Nat.reduceMul, Nat.reduceSub, Nat.reduceLeDiff, Nat.reduceBEq, Int.reduceEq, Int.reduceNeg, tk, ntmps58, results58, fillA, placeT, s95, s98]
  refine OkO_toP rfl e2 kn' (by omega) ?_
  simp only [bW, ↓splitB_true, ↓splitB_false, nilCmp, opConv, eq_self, if_true, if_false, Nat.reduceEqDiff, reduceCtorEq, ↓reduceIte, Nat.reduceLT, Nat.reduceAdd, Nat.reduceMul, Nat.reduceSub, Nat.reduceLeDiff, Nat.reduceBEq, Int.reduceEq, Int.reduceNeg, tk, ntmps58, results58, fillA, placeT, s95, s98]
  refine ⟨rfl, ?_⟩
  refine hK _ ?_; clear hK K
  refine seqK fun K hK => ?_
  refine seqK fun K2 hK2 => ?_
  simp only [bW, ↓splitB_true, ↓splitB_false, nilCmp, opConv, eq_self, if_true, if_false, Nat.reduceEqDiff, reduceCtorEq, ↓reduceIte, Nat.reduceLT, Nat.reduceAdd, Nat.reduceMul, Nat.reduceSub, Nat.reduceLeDiff, Nat.reduceBEq, Int.reduceEq, Int.reduceNeg, tk, ntmps58, results58, fillA, placeT, s95, s98]
  refine hK2 _ ?_; clear hK2 K2
  rw [awp_block]
  refine awp_loop_sem (sem_nil 3 0 777777 6 rfl rfl rfl) ?_
  simp only [List.set_cons_zero, List.set_cons_succ]
  refine loopW [2, 3, 11, 12, 13] (fun i : Nat => stL 33 [(2, .a 500000 0), (3, .a 500001 0), (11, .d (.l 6 fs)), (12, .d (.i .i64 fs.length)), (13, .d (.i .i64 i))] [(500000, some (.box [.z 6, .z 1])), (500001, some (.box [.r 500002, .r 500003])), (500002, some (.row 6 (fs.take i) true false 0)), (500003, some (.row 1 ns true false 0))]) (fun i => i ≤ fs.length) (fun i => fs.length - i) ?_ ?_
  · refine ⟨?_, 0, ?_, by omega⟩
    · simp only [bK, Nat.reduceEqDiff, reduceCtorEq, ↓reduceIte, Nat.reduceBEq, Nat.reduceLeDiff, Nat.reduceAdd, if_true, if_false]
    · simp only [bK, Nat.reduceEqDiff, reduceCtorEq, ↓reduceIte, Nat.reduceBEq, Nat.reduceLeDiff, Nat.reduceAdd, if_true, if_false]
      try rfl
  rintro i hi
  refine seqK fun K3 hK3 => ?_
  simp only [bW, ↓splitB_true, ↓splitB_false, nilCmp, opConv, eq_self, if_true, if_false, Nat.reduceEqDiff, reduceCtorEq, ↓reduceIte, Nat.reduceLT, Nat.reduceAdd, Nat.reduceMul, Nat.reduceSub, Nat.reduceLeDiff, Nat.reduceBEq, Int.reduceEq, Int.reduceNeg, tk, ntmps58, results58, fillA, placeT, s95, s98]
  refine hK3 _ ?_; clear hK3 K3
  refine seqK fun K3 hK3 => ?_
  simp only [bW, ↓splitB_true, ↓splitB_false, nilCmp, opConv, eq_self, if_true, if_false, Nat.reduceEqDiff, reduceCtorEq, ↓reduceIte, Nat.reduceLT, Nat.reduceAdd, Nat.reduceMul, Nat.reduceSub, Nat.reduceLeDiff, Nat.reduceBEq, Int.reduceEq, Int.reduceNeg, tk, ntmps58, results58, fillA, placeT, s95, s98]
  refine splitB_intro (fun hb => hK3 _ ?_) (fun hb => hK _ ?_) <;> clear hK3 K3
  · have hlt := of_decide_eq_true hb
    clear hb
    have hlt : i < fs.length := by omega
    have hrow := shLL_get e1 hlt
    have hok := okLL_get kf' hlt
    have hwt := wtLL_mono hlt
    have hts := take_succ hlt
    generalize hrw : fs.getD i [] = row at hrow hok hwt hts
    obtain ⟨cm, qm, rfl, em, hrow⟩ := shL_cons hrow
    obtain ⟨cw, qw, rfl, ew, hrow⟩ := shL_cons hrow
    obtain ⟨ca, qa, rfl, ea, hrow⟩ := shL_cons hrow
    obtain ⟨cy, qy, rfl, ey, hrow⟩ := shL_cons hrow
    obtain ⟨cl, ql, rfl, el, hrow⟩ := shL_cons hrow
    obtain ⟨cc, qc, rfl, ec, hrow⟩ := shL_cons hrow
    obtain rfl := shL_nil hrow
    obtain ⟨m, rfl⟩ := shD_s em
    obtain ⟨w, rfl⟩ := shD_s ew
    obtain ⟨za, ps, rfl, hza, ha⟩ := shD_l2 ea
    obtain rfl : za = 1 := hza
    obtain ⟨ty, rfl⟩ := shD_i ey
    obtain ⟨sl, rfl⟩ := shD_i el
    obtain ⟨zc, cs, rfl, hzc, hc⟩ := shD_l2 ec
    obtain rfl : zc = 2 := hzc
    simp only [okL_cons, okL_nil, okD_s, okD_l, okD_i, okD_b, and_true, true_and] at hok
    obtain ⟨k1, k2, ⟨k3, k3'⟩, k4, k5, ⟨k6, k6'⟩⟩ := hok
    simp only [wtL, wt] at hwt
    refine seqK fun K4 hK4 => ?_
    rw [awp_block]
    refine seqK fun K5 hK5 => ?_
    simp only [bW, ↓splitB_true, ↓splitB_false, nilCmp, opConv, eq_self, if_true, if_false, Nat.reduceEqDiff, reduceCtorEq, ↓reduceIte, Nat.reduceLT, Nat.reduceAdd, Nat.reduceMul, Nat.reduceSub, Nat.reduceLeDiff, Nat.reduceBEq, Int.reduceEq, Int.reduceNeg, tk, ntmps58, results58, fillA, placeT, s95, s98]
    refine ⟨⟨by omega, by omega⟩, ?_⟩
    rw [hrw]
    simp only [bW, ↓splitB_true, ↓splitB_false, nilCmp, opConv, eq_self, if_true, if_false, Nat.reduceEqDiff, reduceCtorEq, ↓reduceIte, Nat.reduceLT, Nat.reduceAdd, Nat.reduceMul, Nat.reduceSub, Nat.reduceLeDiff, Nat.reduceBEq, Int.reduceEq, Int.reduceNeg, tk, ntmps58, results58, fillA, placeT, s95, s98]
    refine hK5 _ ?_; clear hK5 K5
    refine seqK fun K5 hK5 => ?_
    refine awp_ord [0, 1, 3, 4, 2, 6, 5, 7, 8, 9] (fun i => [1, 1, 2, 1, 1, 2, 1, 0, 0, 0].getD i 0) (by decide +kernel) ?_
    simp only [bW, ↓splitB_true, ↓splitB_false, nilCmp, opConv, eq_self, if_true, if_false, Nat.reduceEqDiff, reduceCtorEq, ↓reduceIte, Nat.reduceLT, Nat.reduceAdd, Nat.reduceMul, Nat.reduceSub, Nat.reduceLeDiff, Nat.reduceBEq, Int.reduceEq, Int.reduceNeg, tk, ntmps58, results58, s95, s98, fillA, placeT, awpXs, xk_0, xk_1, xk_2, ext_refl, ext_upd, noneB]
    refine OkO_toP rfl ha k3' (by omega) ?_
    simp only [bW, ↓splitB_true, ↓splitB_false, nilCmp, opConv, eq_self, if_true, if_false, Nat.reduceEqDiff, reduceCtorEq, ↓reduceIte, Nat.reduceLT, Nat.reduceAdd, Nat.reduceMul, Nat.reduceSub, Nat.reduceLeDiff, Nat.reduceBEq, Int.reduceEq, Int.reduceNeg, tk, ntmps58, results58, s95, s98, fillA, placeT, awpXs, xk_0, xk_1, xk_2, ext_refl, ext_upd, noneB]
    refine OkO_toP rfl hc k6' (by omega) ?_
    simp only [bW, ↓splitB_true, ↓splitB_false, nilCmp, opConv, eq_self, if_true, if_false, Nat.reduceEqDiff, reduceCtorEq, ↓reduceIte, Nat.reduceLT, Nat.reduceAdd, Nat.reduceMul, Nat.reduceSub, Nat.reduceLeDiff, Nat.reduceBEq, Int.reduceEq, Int.reduceNeg, tk, ntmps58, results58, s95, s98, fillA, placeT, awpXs, xk_0, xk_1, xk_2, ext_refl, ext_upd, noneB]
    refine hK5 _ ?_; clear hK5 K5
    simp only [bW, ↓splitB_true, ↓splitB_false, nilCmp, opConv, eq_self, if_true, if_false, Nat.reduceEqDiff, reduceCtorEq, ↓reduceIte, Nat.reduceLT, Nat.reduceAdd, Nat.reduceMul, Nat.reduceSub, Nat.reduceLeDiff, Nat.reduceBEq, Int.reduceEq, Int.reduceNeg, tk, ntmps58, results58, fillA, placeT, s95, s98]
    have htl : (fs.take i).length ≤ i := by rw [List.length_take]; omega
    refine ⟨⟨by omega, by omega⟩, ?_⟩
    refine hK4 _ ?_; clear hK4 K4
    simp only [bW, ↓splitB_true, ↓splitB_false, nilCmp, opConv, eq_self, if_true, if_false, Nat.reduceEqDiff, reduceCtorEq, ↓reduceIte, Nat.reduceLT, Nat.reduceAdd, Nat.reduceMul, Nat.reduceSub, Nat.reduceLeDiff, Nat.reduceBEq, Int.reduceEq, Int.reduceNeg, tk, ntmps58, results58, fillA, placeT, s95, s98]
    simp (disch := omega) only [wrap64]
    refine ⟨?_, i + 1, ?_, ?_, ?_⟩
    · simp only [bK, Nat.reduceEqDiff, reduceCtorEq, ↓reduceIte, Nat.reduceBEq, Nat.reduceLeDiff, Nat.reduceAdd, if_true, if_false]
    · simp only [bK, Nat.reduceEqDiff, reduceCtorEq, ↓reduceIte, Nat.reduceBEq, Nat.reduceLeDiff, Nat.reduceAdd, if_true, if_false]
      rw [hts]
      refine stL_eq ?_ ?_
      · simp only [Option.some.injEq, Ret.mk.injEq, List.cons.injEq, Prod.mk.injEq, AV.d.injEq, D.i.injEq, D.b.injEq, D.s.injEq, true_and, and_true]
        try omega
      · try rfl
    · omega
    · omega
  · have hge := of_decide_eq_false hb
    obtain rfl : i = fs.length := by omega
    clear hb hge
    rw [List.take_length]
    simp only [bW, ↓splitB_true, ↓splitB_false, nilCmp, opConv, eq_self, if_true, if_false, Nat.reduceEqDiff, reduceCtorEq, ↓reduceIte, Nat.reduceLT, Nat.reduceAdd, Nat.reduceMul, Nat.reduceSub, Nat.reduceLeDiff, Nat.reduceBEq, Int.reduceEq, Int.reduceNeg, tk, ntmps58, results58, fillA, placeT, s95, s98]
    try rfl

end Go.Fs.Sr
