/- A part of the proof: an evaluator of the program's code over plain data, proved sound, and walks of the program's functions by it. No conditions beyond those in the theorems. -/
import Derived.Test.YtbgbnmghhmfihaaGreatLawMp8
set_option linter.unusedVariables false
set_option linter.unusedSimpArgs false
set_option linter.constructorNameAsVariable false
set_option linter.unusedSectionVars false
set_option linter.defProp false
set_option linter.unusedVariables false
set_option linter.constructorNameAsVariable false
namespace Go.Fs

/-! ### regions in which the order is left open: nothing is written, every slot has one writer -/
def qK (H : Nat → Option Ob) (K : AV → Prop) (y : AV × (Nat → Option Ob)) : Prop := y.2 = H ∧ K y.1
def qD (K : AV → Prop) (r : D) : Prop := scal r = true ∧ K (.d r)
def qS (K : AV → Prop) (r : D) : Prop := K (retAV r ((partsD r).map .d))
def qOp (A : Env) (o : Oper) (s : St) (K : AV → Prop) : Prop := match o.op with
  | .pick c x y => match s.ev c with
    | .d (.b v) => splitB v (K (fixZ A.T o.type ((litS s c true).ev x))) (K (fixZ A.T o.type ((litS s c false).ev y)))
    | _ => False
  | .store _ _ _ => False
  | .call c => match c.callee with
    | .value f => match s.ev f with
      | .f fn caps => match A.S fn with
        | some (.own F) => OkO (borL s.heap (zargs A.T s c.args.toList c.argTypes.toList ++ caps)) (thenF F (qD K))
        | some (.shared F) => (zargs A.T s c.args.toList c.argTypes.toList ++ caps).flatMap (keyA s.heap) = [] ∧ OkO (borL s.heap (zargs A.T s c.args.toList c.argTypes.toList ++ caps)) (thenF F (qS K))
        | _ => False
      | _ => False
    | _ => OkO (valOp A.T s o) (qK s.heap K)
  | .convert src dst x => match A.T.kd src with
    | some (.slice _) => OkO (opB2S A.T s.heap src dst (s.ev x)) K
    | _ => OkO (valOp A.T s o) (qK s.heap K)
  | .binOp op ty x y _ => match nilCmp A.T op ty y with
    | some _ => False
    | none => OkO (valOp A.T s o) (qK s.heap K)
  | .makeMap _ none => False
  | .lookup ty m k ok => OkO (opMapGet A.T s.heap ty (s.ev m) (s.ev k) ok) K
  | .mapUpdate _ _ _ _ => False
  | _ => OkO (valOp A.T s o) (qK s.heap K)

def qG (A : Env) (ops : List Oper) (o : Oper) (s : St) (K : AV → Prop) : Prop := match o.guard with
  | none => qOp A o s K
  | some (j, want) => match dstAt ops j with
    | none => K (.t [])
    | some t => match s.env t with
      | .d (.b v) => splitB v (match want with | true => qOp A o (litS s (.tmp t) true) K | false => K (.t []))
          (match want with | true => K (.t []) | false => qOp A o (litS s (.tmp t) false) K)
      | .t [] => K (.t [])
      | _ => False

def contQ (N : St → Prop) (s : St) (d : Nat) (av : AV) : Prop := N { n := s.n, env := upd s.env d av, heap := s.heap }
def awpQs (A : Env) (ops : List Oper) (K : St → Prop) : List Oper → St → Prop
  | [], s => K s
  | o :: os, s => match o.dst with
    | some d => d < s.n ∧ qG A ops o s (contQ (awpQs A ops K os) s d)
    | none => False

theorem OkO_det {α : Type} {o : Option α} {K : α → Prop} (h : OkO o K) : ∃ a, o = some a ∧ K a := OkO_inv h

/-- An operation of this kind yields one value. -/
theorem qOp_det {A : Env} {o : Oper} {s : St} {K : AV → Prop} (h : qOp A o s K) : ∃ av, K av ∧ ∀ K' : AV → Prop, K' av → qOp A o s K' := by
  have val : ∀ {K : AV → Prop}, OkO (valOp A.T s o) (fun y => y.2 = s.heap ∧ K y.1) → ∃ av, K av ∧ ∀ K' : AV → Prop, K' av → OkO (valOp A.T s o) (fun y => y.2 = s.heap ∧ K' y.1) := by
    intro K h
    obtain ⟨y, e, h1, h2⟩ := OkO_inv h
    exact ⟨y.1, h2, fun K' hk => by rw [e]; exact ⟨h1, hk⟩⟩
  unfold qOp at h ⊢
  split at h
  · split at h
    · rename_i v hv
      obtain ⟨h1, h2⟩ := splitB_inv h
      cases v with
      | true => exact ⟨_, h1 rfl, fun K' hk => hk⟩
      | false => exact ⟨_, h2 rfl, fun K' hk => hk⟩
    · exact h.elim
  · exact h.elim
  · split at h
    · split at h
      · split at h
        · obtain ⟨ds, e1, h⟩ := OkO_inv h
          obtain ⟨r, e2, h3, h4⟩ := OkO_inv h
          exact ⟨_, h4, fun K' hk => by rw [e1, OkO_some]; unfold thenF; rw [e2]; exact ⟨h3, hk⟩⟩
        · obtain ⟨h0, h⟩ := h
          obtain ⟨ds, e1, h⟩ := OkO_inv h
          obtain ⟨r, e2, h4⟩ := OkO_inv h
          exact ⟨_, h4, fun K' hk => ⟨h0, by rw [e1, OkO_some]; unfold thenF; rw [e2]; exact hk⟩⟩
        · exact h.elim
      · exact h.elim
    · exact val h
  · split at h
    · obtain ⟨y, e, h1⟩ := OkO_inv h
      exact ⟨y, h1, fun K' hk => by rw [e]; exact hk⟩
    · exact val h
  · split at h
    · exact h.elim
    · exact val h
  · exact h.elim
  · obtain ⟨y, e, h1⟩ := OkO_inv h
    exact ⟨y, h1, fun K' hk => by rw [e]; exact hk⟩
  · exact h.elim
  · exact val h

theorem qG_det {A : Env} {ops : List Oper} {o : Oper} {s : St} {K : AV → Prop} (h : qG A ops o s K) : ∃ av, K av ∧ ∀ K' : AV → Prop, K' av → qG A ops o s K' := by
  unfold qG at h ⊢
  split at h
  · exact qOp_det h
  · split at h
    · exact ⟨_, h, fun K' hk => hk⟩
    · split at h
      · rename_i v hv
        obtain ⟨h1, h2⟩ := splitB_inv h
        cases v with
        | true =>
          have h1 := h1 rfl
          split at h1
          · exact qOp_det h1
          · exact ⟨_, h1, fun K' hk => hk⟩
        | false =>
          have h2 := h2 rfl
          split at h2
          · exact ⟨_, h2, fun K' hk => hk⟩
          · exact qOp_det h2
      · exact ⟨_, h, fun K' hk => hk⟩
      · exact h.elim

/-- What an operation reads. -/
def Agree (ops : Array Oper) (o : Oper) (s s' : St) : Prop := s.heap = s'.heap ∧ ∀ t ∈ o.looksAt ops, s.env t = s'.env t

theorem Agree.ev {ops : Array Oper} {o : Oper} {s s' : St} (h : Agree ops o s s') {x : Operand} (hx : x ∈ o.op.operands.toList) : s.ev x = s'.ev x := by
  cases x with
  | tmp t => exact h.2 t (List.mem_append_left _ (List.mem_filterMap.2 ⟨.tmp t, hx, rfl⟩))
  | _ => rfl

theorem litS_ev (s : St) (c x : Operand) (v : Bool) (h : s.ev c = .d (.b v)) : (litS s c v).ev x = s.ev x := by rw [litS_ok h]

theorem valOp_congr {T : Tab} {ops : Array Oper} {o : Oper} {s s' : St} (h : Agree ops o s s') : valOp T s o = valOp T s' o := by
  have hh := h.1
  have he : ∀ x ∈ o.op.operands.toList, s.ev x = s'.ev x := fun x hx => h.ev hx
  obtain ⟨dst, op, type, pos, after, guard⟩ := o
  have maps : ∀ (xs : List Operand), (∀ x ∈ xs, s.ev x = s'.ev x) → xs.map s.ev = xs.map s'.ev := fun xs hx => List.map_congr_left hx
  have pairs : ∀ (ps : List (Nat × Operand)), (∀ x ∈ ps.map (·.2), s.ev x = s'.ev x) → (ps.map fun p => s.ev p.2) = ps.map fun p => s'.ev p.2 := fun ps hx => List.map_congr_left fun p hp => hx _ (List.mem_map.2 ⟨p, hp, rfl⟩)
  cases op <;> simp only [Op.operands] at he <;> simp only [valOp, hh]
  case build t ps => rw [pairs ps.toList fun x hx => he x (by simpa using hx)]
  case buildSlice t n ps => rw [pairs ps.toList fun x hx => he x (by simpa using hx)]
  case makeFunc fn first captured =>
    cases fn <;> simp only [] <;> try rfl
    rw [maps captured.toList fun x hx => he x (by simp at hx ⊢; exact .inr hx)]
  case call c =>
    unfold callB
    cases hc : c.callee with
    | value f => rfl
    | invoke r m => rfl
    | builtin b =>
      have hargs : ∀ x ∈ c.args.toList, s.ev x = s'.ev x := fun x hx => he x (by simp [Call.operands, hc]; simpa using hx)
      cases b <;> simp only [] <;> try rfl
      all_goals
        split
        · first
            | (rename_i h1 h2
               rw [h1] at hargs
               simp only [List.mem_cons, List.not_mem_nil, or_false, forall_eq, forall_eq_or_imp] at hargs
               first
                 | rw [hargs, hh]
                 | rw [hargs.1, hargs.2, hh])
            | (rename_i h1
               rw [h1] at hargs
               simp only [List.mem_cons, List.not_mem_nil, or_false, forall_eq, forall_eq_or_imp] at hargs
               rw [hargs.1, hargs.2, hh])
        · rfl
  case slice t x lo hi mx =>
    cases mx with
    | none =>
      have h1 := he x (by simp)
      have h2 : lo.map s.ev = lo.map s'.ev := by cases lo with | none => rfl | some y => simp only [Option.map_some]; rw [he y (by simp)]
      have h3 : hi.map s.ev = hi.map s'.ev := by cases hi with | none => rfl | some y => simp only [Option.map_some]; rw [he y (by simp)]
      simp only [h1, h2, h3]
    | some m => rfl
  all_goals (first | rfl | (simp_all; done))

theorem zargs_congr {T : Tab} {s s' : St} : ∀ (xs : List Operand) (ts : List TypeId), (∀ x ∈ xs, s.ev x = s'.ev x) → zargs T s xs ts = zargs T s' xs ts
  | [], _, _ => rfl
  | x :: xs, [], h => by rw [zargs, zargs, h x (by simp), zargs_congr xs [] fun y hy => h y (by simp [hy])]
  | x :: xs, t :: ts, h => by rw [zargs, zargs, h x (by simp), zargs_congr xs ts fun y hy => h y (by simp [hy])]

theorem splitB_same {v : Bool} {X X' Y Y' : Prop} (h1 : v = true → X → X') (h2 : v = false → Y → Y') (h : splitB v X Y) : splitB v X' Y' := by
  cases v
  · exact h2 rfl h
  · exact h1 rfl h

theorem qOp_congr {A : Env} {ops : Array Oper} {o : Oper} {s s' : St} (h : Agree ops o s s') {K : AV → Prop} (hq : qOp A o s K) : qOp A o s' K := by
  have val : OkO (valOp A.T s o) (fun y => y.2 = s.heap ∧ K y.1) → OkO (valOp A.T s' o) (fun y => y.2 = s'.heap ∧ K y.1) := by
    rw [valOp_congr h, h.1]; exact id
  unfold qOp at hq ⊢
  split at hq
  · rename_i c x y hop
    have e1 := h.ev (x := c) (by rw [hop]; simp [Op.operands])
    have e2 := h.ev (x := x) (by rw [hop]; simp [Op.operands])
    have e3 := h.ev (x := y) (by rw [hop]; simp [Op.operands])
    rw [← e1]
    split at hq
    · rename_i v hv
      have hv' : s'.ev c = .d (.b v) := by rw [← e1]; exact hv
      refine splitB_same (fun e h => ?_) (fun e h => ?_) hq
      · subst e; rw [litS_ev _ _ _ _ hv] at h; rw [litS_ev _ _ _ _ hv', ← e2]; exact h
      · subst e; rw [litS_ev _ _ _ _ hv] at h; rw [litS_ev _ _ _ _ hv', ← e3]; exact h
    · exact hq
  · exact hq
  · rename_i c hop
    split at hq
    · rename_i f hf
      have e1 := h.ev (x := f) (by rw [hop]; simp [Op.operands, Call.operands, hf])
      rw [← e1]
      split at hq
      · rw [← zargs_congr (s := s) (s' := s') c.args.toList c.argTypes.toList fun x hx => h.ev (x := x) (by rw [hop]; simp [Op.operands, Call.operands, hf]; exact .inr (by simpa using hx)), ← h.1]
        exact hq
      · exact hq
    · exact val hq
  · rename_i src dst x hop
    have e1 := h.ev (x := x) (by rw [hop]; simp [Op.operands])
    split at hq
    · rw [← e1, ← h.1]; exact hq
    · exact val hq
  · split at hq
    · exact hq
    · exact val hq
  · exact hq
  · rename_i ty m k ok hop
    have e1 := h.ev (x := m) (by rw [hop]; simp [Op.operands])
    have e2 := h.ev (x := k) (by rw [hop]; simp [Op.operands])
    rw [← e1, ← e2, ← h.1]; exact hq
  · exact hq
  · exact val hq

theorem Agree.lit {ops : Array Oper} {o : Oper} {s s' : St} (h : Agree ops o s s') {x : Operand} {v : Bool} (h1 : s.ev x = .d (.b v)) (h2 : s'.ev x = .d (.b v)) : Agree ops o (litS s x v) (litS s' x v) := by
  rw [litS_ok h1, litS_ok h2]; exact h

theorem qG_congr {A : Env} {ops : Array Oper} {o : Oper} {s s' : St} (h : Agree ops o s s') {K : AV → Prop} (hq : qG A ops.toList o s K) : qG A ops.toList o s' K := by
  unfold qG at hq ⊢
  split at hq
  · exact qOp_congr h hq
  · rename_i j want hg
    split at hq
    · exact hq
    · rename_i t ht
      have e1 : s.env t = s'.env t := h.2 t (List.mem_append_right _ (by
        unfold dstAt at ht
        rw [Array.getElem?_toList] at ht
        cases e : ops[j]? with
        | none => rw [e] at ht; cases ht
        | some o' => rw [e] at ht; simp only at ht; simp [hg, e, ht]))
      rw [← e1]
      split at hq
      · rename_i v hv
        have hv' : s'.env t = .d (.b v) := by rw [← e1]; exact hv
        refine splitB_same (fun e hq => ?_) (fun e hq => ?_) hq
        · subst e
          split at hq
          · exact qOp_congr (h.lit (x := .tmp t) hv hv') hq
          · exact hq
        · subst e
          split at hq
          · exact hq
          · exact qOp_congr (h.lit (x := .tmp t) hv hv') hq
      · exact hq
      · exact hq

theorem qOp_awp {A : Env} {o : Oper} {s : St} {d : Nat} (hd : o.dst = some d) (hlt : d < s.n) {K : St → Prop} (h : qOp A o s fun av => K { n := s.n, env := upd s.env d av, heap := s.heap }) : awpOp A o s K := by
  have put : ∀ {av : AV}, K { n := s.n, env := upd s.env d av, heap := s.heap } → putK s o.dst av s.heap K := fun {av} h => by rw [hd]; exact ⟨hlt, h⟩
  have val : OkO (valOp A.T s o) (fun y => y.2 = s.heap ∧ K { n := s.n, env := upd s.env d y.1, heap := s.heap }) → valW A o s K := OkO_mono fun y h => by unfold valK; rw [h.1]; exact put h.2
  obtain ⟨dst, op, type, pos, after, guard⟩ := o
  cases op <;> simp only [qOp] at h <;> simp only [awpOp] <;> try exact h.elim
  case pick c x y =>
    generalize hq : s.ev c = q at h ⊢
    split at h
    · rename_i v
      have hv := hq
      refine splitB_same (fun e h => ?_) (fun e h => ?_) h
      · subst e; rw [litS_ok hv] at h ⊢; exact put h
      · subst e; rw [litS_ok hv] at h ⊢; exact put h
    · exact h.elim
  case call c =>
    cases hc : c.callee with
    | value f =>
      rw [hc] at h
      simp only at h ⊢
      cases hf : s.ev f <;> rw [hf] at h <;> simp only at h ⊢ <;> try exact h.elim
      rename_i fn caps
      unfold callW
      cases hF : A.S fn with
      | none => rw [hF] at h; exact h.elim
      | some q =>
        rw [hF] at h
        cases q with
        | own F =>
          simp only at h ⊢
          refine OkO_mono (fun ds h => OkO_mono (fun r h => ?_) h) h
          obtain ⟨hs, hk⟩ := h
          have e1 : partsD r = [r] := by cases r <;> simp_all [scal, partsD, cellsD]
          have e2 : ∀ k, adObs k [r] = [] := fun k => by cases r <;> simp_all [scal, adObs]
          have e3 : ∀ k, adCells k [r] = [.d r] := fun k => by cases r <;> simp_all [scal, adCells]
          have e4 : retAV r [.d r] = .d r := by cases r <;> simp_all [scal, retAV, oneAV]
          unfold ownK
          rw [e1, e2, e3, e4]
          exact ⟨rfl, put hk⟩
        | shared F =>
          simp only at h ⊢
          obtain ⟨h0, h⟩ := h
          rw [h0]
          refine ⟨rfl, OkO_mono (fun ds h => OkO_mono (fun r h => put h) h) h⟩
        | _ => exact h.elim
    | invoke r m => rw [hc] at h; exact val h
    | builtin b => rw [hc] at h; exact val h
  case convert src dst' x =>
    generalize A.T.kd src = q at h ⊢
    cases q with
    | none => exact val h
    | some q => cases q <;> first | exact OkO_mono (fun y h => put h) h | exact val h
  case binOp op ty x y yt =>
    generalize nilCmp A.T op ty y = q at h ⊢
    cases q with
    | none => exact val h
    | some q => exact h.elim
  case makeMap ty r =>
    cases r with
    | none => exact h.elim
    | some x => exact val h
  case lookup ty m k ok => exact OkO_mono (fun y h => put h) h
  all_goals exact val h

theorem qG_awp {A : Env} {ops : List Oper} {o : Oper} {s : St} {d : Nat} (hd : o.dst = some d) (hlt : d < s.n) {K : St → Prop} (h : qG A ops o s fun av => K { n := s.n, env := upd s.env d av, heap := s.heap }) : awpG A ops o s K := by
  have put : ∀ {av : AV}, K { n := s.n, env := upd s.env d av, heap := s.heap } → putK s o.dst av s.heap K := fun {av} h => by rw [hd]; exact ⟨hlt, h⟩
  unfold qG at h
  unfold awpG
  cases hg : o.guard with
  | none => rw [hg] at h; exact qOp_awp hd hlt h
  | some jw =>
    obtain ⟨j, want⟩ := jw
    rw [hg] at h
    simp only at h ⊢
    cases ht : dstAt ops j with
    | none => rw [ht] at h; exact put h
    | some t =>
      rw [ht] at h
      simp only at h ⊢
      generalize hq : s.env t = q at h ⊢
      split at h
      · rename_i v
        have hv := hq
        have hl := litS_ok (s := s) (x := .tmp t) hv
        refine splitB_same (fun e h => ?_) (fun e h => ?_) h
        · subst e
          rw [hl] at h ⊢
          cases want with
          | true => exact qOp_awp hd hlt h
          | false => exact put h
        · subst e
          rw [hl] at h ⊢
          cases want with
          | true => exact put h
          | false => exact qOp_awp hd hlt h
      · exact put h
      · exact h.elim

/-! ### all orders -/
def onB (o : Oper) (i : Nat) : Bool := o.after.toList.any fun e => Region.binds .any e && e.on == i
def quietB (ops : Array Oper) : Bool :=
  (List.range ops.size).all fun i => match (ops[i]? : Option Oper) with
    | some o => o.dst.isSome && o.after.toList.all (fun e => !Region.binds .any e || decide (e.on < i)) &&
        (List.range ops.size).all fun j => i == j || match (ops[j]? : Option Oper) with
          | some p => (p.dst != o.dst) && (match p.dst with | some t => !(o.looksAt ops).contains t || onB o j || onB p i | none => true)
          | none => true
    | none => true

structure Quiet (ops : Array Oper) : Prop where
  dst : ∀ (i : Nat) (o : Oper), ops[i]? = some o → ∃ d, o.dst = some d
  back : ∀ (i : Nat) (o : Oper), ops[i]? = some o → ∀ e ∈ o.after, Region.binds .any e = true → e.on < i
  ne : ∀ (i j : Nat) (o p : Oper), ops[i]? = some o → ops[j]? = some p → i ≠ j → p.dst ≠ o.dst
  look : ∀ (i j : Nat) (o p : Oper) (t : Nat), ops[i]? = some o → ops[j]? = some p → i ≠ j → p.dst = some t → t ∈ o.looksAt ops → onB o j = true ∨ onB p i = true

theorem lt_of_some {ops : Array Oper} {i : Nat} {o : Oper} (h : ops[i]? = some o) : i < ops.size := (Array.getElem?_eq_some_iff.1 h).1

theorem quietB_ok {ops : Array Oper} (h : quietB ops = true) : Quiet ops := by
  simp only [quietB, List.all_eq_true, List.mem_range] at h
  have at1 : ∀ (i : Nat) (o : Oper), ops[i]? = some o → (o.dst.isSome = true ∧ (∀ e ∈ o.after.toList, (!Region.binds .any e || decide (e.on < i)) = true)) ∧ ∀ j, j < ops.size → (i == j || match (ops[j]? : Option Oper) with
          | some p => (p.dst != o.dst) && (match p.dst with | some t => !(o.looksAt ops).contains t || onB o j || onB p i | none => true)
          | none => true) = true := by
    intro i o ho
    have := h i (lt_of_some ho)
    rw [ho] at this
    simp only [Bool.and_eq_true, List.all_eq_true, List.mem_range] at this
    exact this
  have at2 : ∀ (i j : Nat) (o p : Oper), ops[i]? = some o → ops[j]? = some p → i ≠ j → (p.dst != o.dst) = true ∧ (match p.dst with | some t => !(o.looksAt ops).contains t || onB o j || onB p i | none => true) = true := by
    intro i j o p ho hp hne
    have := (at1 i o ho).2 j (lt_of_some hp)
    rw [hp] at this
    simp only [Bool.or_eq_true, beq_iff_eq, hne, false_or, Bool.and_eq_true] at this
    exact this
  refine ⟨fun i o ho => Option.isSome_iff_exists.1 (at1 i o ho).1.1, fun i o ho e he hb => ?_, fun i j o p ho hp hne e => ?_, fun i j o p t ho hp hne ht hm => ?_⟩
  · have := (at1 i o ho).1.2 e (by simpa using he)
    simp only [hb, Bool.not_true, Bool.false_or, decide_eq_true_eq] at this
    exact this
  · have := (at2 i j o p ho hp hne).1
    simp [e] at this
  · have := (at2 i j o p ho hp hne).2
    rw [ht] at this
    simp only [Bool.or_eq_true, Bool.not_eq_true', List.contains_eq_mem, decide_eq_false_iff_not] at this
    rcases this with (h1 | h1) | h1
    · exact absurd hm h1
    · exact .inl h1
    · exact .inr h1

theorem onB_spec {o : Oper} {i : Nat} (h : onB o i = true) : ∃ e ∈ o.after, Region.binds .any e = true ∧ e.on = i := by
  simp only [onB, List.any_eq_true, Bool.and_eq_true, beq_iff_eq] at h
  obtain ⟨e, he, h1, h2⟩ := h
  exact ⟨e, by simpa using he, h1, h2⟩

/-- A state behind some of the operations. -/
structure Half (ops : Array Oper) (s : St) (vals : Nat → AV) (L : Nat → Prop) (s' : St) : Prop where
  n : s'.n = s.n
  heap : s'.heap = s.heap
  done : ∀ (j : Nat) (o : Oper) (d : Nat), L j → ops[j]? = some o → o.dst = some d → s'.env d = vals j
  rest : ∀ (t : Nat), (∀ (j : Nat) (o : Oper), L j → ops[j]? = some o → o.dst ≠ some t) → s'.env t = s.env t

theorem Half.put {ops : Array Oper} {s s' : St} {vals : Nat → AV} {L : Nat → Prop} (hq : Quiet ops) (h : Half ops s vals L s') {i d : Nat} {o : Oper} (ho : ops[i]? = some o) (hd : o.dst = some d) (hn : ¬ L i) :
    Half ops s vals (fun j => L j ∨ j = i) { n := s'.n, env := upd s'.env d (vals i), heap := s'.heap } := by
  refine ⟨h.n, h.heap, fun j p d' hj hp hd' => ?_, fun t ht => ?_⟩
  · by_cases e : j = i
    · subst e
      rw [ho] at hp; cases hp
      rw [hd] at hd'; cases hd'
      simp [upd]
    · have hj := hj.resolve_right e
      have : d' ≠ d := fun e2 => hq.ne i j o p ho hp (Ne.symm e) (by rw [hd', hd, e2])
      simp only [upd, if_neg this]
      exact h.done j p d' hj hp hd'
  · have : t ≠ d := fun e => ht i o (.inr rfl) ho (by rw [hd, e])
    simp only [upd, if_neg this]
    exact h.rest t fun j p hj hp => ht j p (.inl hj) hp

/-- The walk in the text's order lays down what every slot gets. -/
theorem seq_vals {A : Env} {ops : Array Oper} (hq : Quiet ops) {s : St} {K : St → Prop} : ∀ (os pre : List Oper) (s' : St) (vals : Nat → AV), ops.toList = pre ++ os → Half ops s vals (fun j => j < pre.length) s' → awpQs A ops.toList K os s' →
    (∀ (j : Nat) (o : Oper), j < pre.length → ops[j]? = some o → ∃ d sj, o.dst = some d ∧ d < s.n ∧ Half ops s vals (fun i => i < j) sj ∧ ∀ K' : AV → Prop, K' (vals j) → qG A ops.toList o sj K') →
    ∃ vals' s'', (∀ j, j < pre.length → vals' j = vals j) ∧ Half ops s vals' (fun j => j < ops.size) s'' ∧ K s'' ∧ ∀ (j : Nat) (o : Oper), ops[j]? = some o → ∃ d sj, o.dst = some d ∧ d < s.n ∧ Half ops s vals' (fun i => i < j) sj ∧ ∀ K' : AV → Prop, K' (vals' j) → qG A ops.toList o sj K'
  | [], pre, s', vals, he, hh, hk, hd => by
    have hl : pre.length = ops.size := by rw [← Array.length_toList, he]; simp
    refine ⟨vals, s', fun _ _ => rfl, by rw [← hl]; exact hh, hk, fun j o ho => hd j o (by rw [hl]; exact lt_of_some ho) ho⟩
  | o :: os, pre, s', vals, he, hh, hk, hdone => by
    have ho : ops[pre.length]? = some o := by rw [← Array.getElem?_toList, he]; simp
    obtain ⟨d, hd⟩ := hq.dst _ o ho
    simp only [awpQs, hd] at hk
    obtain ⟨hlt, hk⟩ := hk
    obtain ⟨av, hk1, hk2⟩ := qG_det hk
    have keepH : ∀ {j sj}, j ≤ pre.length → Half ops s vals (fun i => i < j) sj → Half ops s (fun k => if k = pre.length then av else vals k) (fun i => i < j) sj := by
      intro j sj hj h
      refine ⟨h.n, h.heap, fun k p d' hk hp hd' => ?_, h.rest⟩
      have hk : k < j := hk
      rw [if_neg (by omega)]
      exact h.done k p d' hk hp hd'
    have h2 := (keepH (Nat.le_refl _) hh).put hq ho hd (Nat.lt_irrefl _)
    simp only [if_true] at h2
    have h3 : Half ops s (fun k => if k = pre.length then av else vals k) (fun j => j < (pre ++ [o]).length) { n := s'.n, env := upd s'.env d av, heap := s'.heap } := by
      refine ⟨h2.n, h2.heap, fun j p d' hj hp hd' => h2.done j p d' ?_ hp hd', fun t ht => h2.rest t fun j p hj hp => ht j p ?_ hp⟩
      · have hj : j < (pre ++ [o]).length := hj
        simp only [List.length_append, List.length_cons, List.length_nil] at hj
        show j < pre.length ∨ j = pre.length
        omega
      · show j < (pre ++ [o]).length
        simp only [List.length_append, List.length_cons, List.length_nil]
        rcases hj with hj | hj
        · have hj : j < pre.length := hj; omega
        · omega
    obtain ⟨vals', s'', e1, e2, e3, e4⟩ := seq_vals hq os (pre ++ [o]) _ _ (by rw [he]; simp) h3 hk1 (fun j p hj hp => by
      simp only [List.length_append, List.length_cons, List.length_nil] at hj
      by_cases e : j = pre.length
      · subst e
        rw [ho] at hp; cases hp
        refine ⟨d, s', hd, by rw [← hh.n]; exact hlt, keepH (Nat.le_refl _) hh, fun K' hk' => hk2 K' (by simpa using hk')⟩
      · obtain ⟨d', sj, q1, q2, q3, q4⟩ := hdone j p (by omega) hp
        exact ⟨d', sj, q1, q2, keepH (by omega) q3, fun K' hk' => q4 K' (by rw [if_neg e] at hk'; exact hk')⟩)
    refine ⟨vals', s'', fun j hj => ?_, e2, e3, e4⟩
    rw [e1 j (by simp only [List.length_append, List.length_cons, List.length_nil]; omega), if_neg (by omega)]

theorem Half.same {ops : Array Oper} {s s1 s2 : St} {vals : Nat → AV} {L L' : Nat → Prop} (h1 : Half ops s vals L s1) (h2 : Half ops s vals L' s2) (hL : ∀ (j : Nat) (o : Oper), ops[j]? = some o → (L j ↔ L' j)) : s1 = s2 := by
  obtain ⟨n1, e1, k1⟩ := s1
  obtain ⟨n2, e2, k2⟩ := s2
  have hn : n1 = n2 := h1.n.trans h2.n.symm
  have hk : k1 = k2 := h1.heap.trans h2.heap.symm
  have he : e1 = e2 := by
    funext t
    by_cases h : ∃ (j : Nat) (o : Oper), L j ∧ ops[j]? = some o ∧ o.dst = some t
    · obtain ⟨j, o, hj, ho, hd⟩ := h
      have a1 := h1.done j o t hj ho hd
      have a2 := h2.done j o t ((hL j o ho).1 hj) ho hd
      exact a1.trans a2.symm
    · have a1 := h1.rest t fun j o hj ho hd => h ⟨j, o, hj, ho, hd⟩
      have a2 := h2.rest t fun j o hj ho hd => h ⟨j, o, (hL j o ho).2 hj, ho, hd⟩
      exact a1.trans a2.symm
  rw [hn, hk, he]

theorem Half.iff {ops : Array Oper} {s s1 : St} {vals : Nat → AV} {L L' : Nat → Prop} (h1 : Half ops s vals L s1) (hL : ∀ (j : Nat) (o : Oper), ops[j]? = some o → (L j ↔ L' j)) : Half ops s vals L' s1 :=
  ⟨h1.n, h1.heap, fun j o d hj ho hd => h1.done j o d ((hL j o ho).2 hj) ho hd, fun t ht => h1.rest t fun j o hj ho => ht j o ((hL j o ho).1 hj) ho⟩

theorem countP_lt {α : Type} {p q : α → Bool} : ∀ {l : List α}, (∀ x ∈ l, p x = true → q x = true) → (∃ x ∈ l, q x = true ∧ p x = false) → l.countP p < l.countP q
  | [], _, ⟨x, hx, _⟩ => by cases hx
  | y :: l, h, ⟨x, hx, h1, h2⟩ => by
    have hle : l.countP p ≤ l.countP q := List.countP_mono_left fun z hz => h z (by simp [hz])
    rw [List.countP_cons, List.countP_cons]
    rcases List.mem_cons.1 hx with rfl | hx
    · simp [h1, h2]; omega
    · have := countP_lt (fun z hz => h z (by simp [hz])) ⟨x, hx, h1, h2⟩
      have h3 := h y (by simp)
      cases hp : p y <;> cases hq : q y <;> simp_all <;> omega

theorem any_quiet {A : Env} {ops : Array Oper} (hq : Quiet ops) {s s'' : St} {vals : Nat → AV} {K : St → Prop} (hfin : Half ops s vals (fun j => j < ops.size) s'') (hK : K s'')
    (hops : ∀ (j : Nat) (o : Oper), ops[j]? = some o → ∃ d sj, o.dst = some d ∧ d < s.n ∧ Half ops s vals (fun i => i < j) sj ∧ ∀ K' : AV → Prop, K' (vals j) → qG A ops.toList o sj K') :
    ∀ (n : Nat) (listed : Array Bool) (s' : St), listed.size = ops.size → Half ops s vals (fun j => listed.getD j false = true) s' → (∀ (j : Nat) (o : Oper), ops[j]? = some o → listed.getD j false = true → ∀ e ∈ o.after, Region.binds .any e = true → listed.getD e.on false = true) →
      (List.range ops.size).countP (fun j => !listed.getD j false) ≤ n → awpAny A ops K n listed s' := by
  -- where nothing is ready, all is done
  have full : ∀ (listed : Array Bool), listed.size = ops.size → Region.ready .any ops listed = [] → ∀ j, j < ops.size → listed.getD j false = true := by
    intro listed hl hr j
    induction j using Nat.strongRecOn with
    | _ j ih =>
      intro hj
      cases hb : listed.getD j false with
      | true => rfl
      | false =>
        exfalso
        have ho : ops[j]? = some ops[j] := Array.getElem?_eq_getElem hj
        have hm : j ∈ Region.ready .any ops listed := mem_ready.2 ⟨by
          have : j < listed.size := by omega
          simp [this] at hb ⊢; exact hb, ops[j], ho, fun e he hbd => by
          have := hq.back j _ ho e he hbd
          exact ih e.on this (by omega)⟩
        rw [hr] at hm
        cases hm
  have last : ∀ (listed : Array Bool) (s' : St), listed.size = ops.size → Half ops s vals (fun j => listed.getD j false = true) s' → Region.ready .any ops listed = [] → K s' := by
    intro listed s' hl hh hr
    have := hh.same hfin fun j o ho => ⟨fun _ => lt_of_some ho, fun hj => full listed hl hr j hj⟩
    rw [this]; exact hK
  intro n
  induction n with
  | zero =>
    intro listed s' hl hh hc hn
    have hr : Region.ready .any ops listed = [] := by
      refine List.eq_nil_iff_forall_not_mem.2 fun j hj => ?_
      obtain ⟨h1, o, ho, _⟩ := mem_ready.1 hj
      have hz : (List.range ops.size).countP (fun j => !listed.getD j false) = 0 := by omega
      rw [List.countP_eq_zero] at hz
      have := hz j (List.mem_range.2 (lt_of_some ho))
      have hlt : j < listed.size := by rw [hl]; exact lt_of_some ho
      simp [hlt] at this h1
      rw [h1] at this; cases this
    exact ⟨hr, last listed s' hl hh hr⟩
  | succ n ih =>
    intro listed s' hl hh hc hn
    refine ⟨last listed s' hl hh, fun i hi => ?_⟩
    obtain ⟨hun, o, ho, hall⟩ := mem_ready.1 hi
    have hil : i < listed.size := by rw [hl]; exact lt_of_some ho
    have hun' : listed.getD i false = false := by simp [hil] at hun ⊢; exact hun
    have ho' : ops.toList[i]? = some o := by rw [Array.getElem?_toList]; exact ho
    rw [ho']
    obtain ⟨d, sj, hd, hlt, hsj, hqg⟩ := hops i o ho
    have hag : Agree ops o sj s' := by
      refine ⟨hsj.heap.trans hh.heap.symm, fun t ht => ?_⟩
      by_cases hw : ∃ (j : Nat) (p : Oper), ops[j]? = some p ∧ p.dst = some t
      · obtain ⟨j, p, hp, hdp⟩ := hw
        have uniq : ∀ (k : Nat) (r : Oper), ops[k]? = some r → r.dst = some t → k = j := fun k r hr hdr => by
          by_cases e : k = j
          · exact e
          · exact absurd (hdr.trans hdp.symm) (hq.ne j k p r hp hr (Ne.symm e))
        by_cases e : i = j
        · subst e
          have a1 := hsj.rest t fun k r hk hr hdr => by have := uniq k r hr hdr; have hk : k < i := hk; omega
          have a2 := hh.rest t fun k r hk hr hdr => by
            have := uniq k r hr hdr
            subst this
            have hk : listed.getD k false = true := hk
            rw [hun'] at hk; cases hk
          exact a1.trans a2.symm
        · rcases hq.look i j o p t ho hp e hdp ht with h1 | h1
          · obtain ⟨ed, he, hb, rfl⟩ := onB_spec h1
            have b1 := hq.back i o ho ed he hb
            have a1 := hsj.done ed.on p t b1 hp hdp
            have a2 := hh.done ed.on p t (hall ed he hb) hp hdp
            exact a1.trans a2.symm
          · obtain ⟨ed, he, hb, rfl⟩ := onB_spec h1
            have b1 := hq.back j p hp ed he hb
            have a1 := hsj.rest t fun k r hk hr hdr => by have := uniq k r hr hdr; have hk : k < ed.on := hk; omega
            have a2 := hh.rest t fun k r hk hr hdr => by
              have := uniq k r hr hdr
              subst this
              have := hc k p hp hk ed he hb
              rw [hun'] at this; cases this
            exact a1.trans a2.symm
      · have a1 := hsj.rest t fun k r _ hr hdr => hw ⟨k, r, hr, hdr⟩
        have a2 := hh.rest t fun k r _ hr hdr => hw ⟨k, r, hr, hdr⟩
        exact a1.trans a2.symm
    have hput := hh.put hq ho hd (by show ¬ (listed.getD i false = true); rw [hun']; simp)
    have hget : ∀ j, (listed.setIfInBounds i true).getD j false = true ↔ (listed.getD j false = true ∨ j = i) := fun j => by
      by_cases e : j = i
      · subst e; simp [hil]
      · rw [getD_set_ne false (Ne.symm e)]; simp [e]
    refine qG_awp hd (by rw [hh.n]; exact hlt) (qG_congr hag (hqg _ ?_))
    refine ih (listed.setIfInBounds i true) _ (by simpa using hl) (hput.iff fun j p hp => (hget j).symm) (fun j p hp hj e he hb => ?_) ?_
    · rw [hget] at hj ⊢
      rcases hj with hj | rfl
      · exact .inl (hc j p hp hj e he hb)
      · rw [ho] at hp; cases hp
        exact .inl (hall e he hb)
    · have := countP_lt (p := fun j => !(listed.setIfInBounds i true).getD j false) (q := fun j => !listed.getD j false) (l := List.range ops.size) (fun j _ hj => by
          cases hb : listed.getD j false with
          | false => rfl
          | true => have := (hget j).2 (.inl hb); simp only [this] at hj; cases hj) ⟨i, List.mem_range.2 (lt_of_some ho), by simp only [hun']; rfl, by
          have := (hget i).2 (.inr rfl); simp only [this]; rfl⟩
      omega

/-- A region in which the order is left open, if it is quiet: the text's order will do. -/
theorem awp_quiet {A : Env} {id : Nat} {ops : Array Oper} {Q : Exit → St → Prop} {s : St} (hq : quietB ops = true) (h : awpQs A ops.toList (Q .normal) ops.toList s) : awp A (.region id ops true) Q s := by
  have hQ := quietB_ok hq
  obtain ⟨vals, s'', _, e2, e3, e4⟩ := seq_vals hQ ops.toList [] s (fun _ => .x) rfl ⟨rfl, rfl, fun j o d hj => absurd hj (Nat.not_lt_zero _), fun t _ => rfl⟩ h (fun j o hj => absurd hj (Nat.not_lt_zero _))
  show awpAny A ops (Q .normal) ops.size (Array.replicate ops.size false) s
  have hrep : ∀ j, (Array.replicate ops.size false).getD j false = false := fun j => by
    by_cases hj : j < ops.size <;> simp [hj]
  refine any_quiet hQ e2 e3 e4 _ _ _ (by simp) ⟨rfl, rfl, fun j o d hj => ?_, fun t _ => rfl⟩ (fun j o ho hj => ?_) (Nat.le_trans List.countP_le_length (by simp))
  · have hj : (Array.replicate ops.size false).getD j false = true := hj
    rw [hrep] at hj; cases hj
  · rw [hrep] at hj; cases hj
end Go.Fs

set_option linter.unusedVariables false
namespace Go.Fs

/-! ### shapes of data; equality; marks -/
inductive Sh where
  | b | i | s | t
  | l (cs : List Sh)
def treeS : List Sh := [.i, .i, .s, .s, .t]
mutual
def shD : Sh → D → Bool
  | .b, .b _ => true
  | .i, .i .i64 _ => true
  | .s, .s _ => true
  | .t, .l sz xs => sz == 5 && shLL treeS xs
  | .l cs, .l sz xs => sz == cs.length && shLL cs xs
  | _, _ => false
def shL : List Sh → List D → Bool
  | [], [] => true
  | c :: cs, d :: ds => shD c d && shL cs ds
  | _, _ => false
def shLL (cs : List Sh) : List (List D) → Bool
  | [] => true
  | x :: xs => shL cs x && shLL cs xs
end
theorem shLL_get {cs : List Sh} : ∀ {xs : List (List D)} {i : Nat}, shLL cs xs = true → i < xs.length → shL cs (xs.getD i []) = true
  | [], i, _, h => by simp at h
  | x :: xs, 0, h, _ => by simp only [shLL, Bool.and_eq_true] at h; exact h.1
  | x :: xs, i + 1, h, hi => by
    simp only [shLL, Bool.and_eq_true] at h
    simpa using shLL_get h.2 (i := i) (by simpa using hi)
theorem shL_nil {ds : List D} (h : shL [] ds = true) : ds = [] := by cases ds <;> simp_all [shL]
theorem shL_cons {c : Sh} {cs : List Sh} {ds : List D} (h : shL (c :: cs) ds = true) : ∃ d ds', ds = d :: ds' ∧ shD c d = true ∧ shL cs ds' = true := by
  cases ds with
  | nil => simp [shL] at h
  | cons d ds => simp only [shL, Bool.and_eq_true] at h; exact ⟨d, ds, rfl, h.1, h.2⟩
theorem shD_b {d : D} (h : shD .b d = true) : ∃ v, d = .b v := by cases d <;> simp_all [shD]
theorem shD_i {d : D} (h : shD .i d = true) : ∃ n, d = .i .i64 n := by
  cases d with
  | i k n => cases k <;> simp_all [shD]
  | _ => simp [shD] at h
theorem shD_s {d : D} (h : shD .s d = true) : ∃ v, d = .s v := by cases d <;> simp_all [shD]
theorem shD_l {cs : List Sh} {d : D} (h : shD (.l cs) d = true) : ∃ xs, d = .l cs.length xs ∧ shLL cs xs = true := by
  cases d with
  | l sz xs => simp only [shD, Bool.and_eq_true, beq_iff_eq] at h; exact ⟨xs, by rw [h.1], h.2⟩
  | _ => simp [shD] at h
theorem shD_l2 {cs : List Sh} {d : D} (h : shD (.l cs) d = true) : ∃ sz xs, d = .l sz xs ∧ sz = cs.length ∧ shLL cs xs = true := by
  obtain ⟨xs, h1, h2⟩ := shD_l h
  exact ⟨_, xs, h1, rfl, h2⟩
theorem shD_t {d : D} (h : shD .t d = true) : ∃ xs, d = .l 5 xs ∧ shLL treeS xs = true := by
  cases d with
  | l sz xs => simp only [shD, Bool.and_eq_true, beq_iff_eq] at h; exact ⟨xs, by rw [h.1], h.2⟩
  | _ => simp [shD] at h
theorem shLL_len {cs : List Sh} : ∀ {xs : List (List D)}, shLL cs xs = true → ∀ x ∈ xs, shL cs x = true
  | [], _, x, hx => by cases hx
  | y :: xs, h, x, hx => by
    simp only [shLL, Bool.and_eq_true] at h
    rcases List.mem_cons.1 hx with rfl | hx
    · exact h.1
    · exact shLL_len h.2 x hx

mutual
def eqD : D → D → Bool
  | .b x, .b y => x == y
  | .i k n, .i k' n' => k == k' && n == n'
  | .s x, .s y => decide (x = y)
  | .l sz xs, .l sz' ys => sz == sz' && eqLL xs ys
  | .g cs, .g ds => eqL cs ds
  | _, _ => false
def eqL : List D → List D → Bool
  | [], [] => true
  | c :: cs, d :: ds => eqD c d && eqL cs ds
  | _, _ => false
def eqLL : List (List D) → List (List D) → Bool
  | [], [] => true
  | x :: xs, y :: ys => eqL x y && eqLL xs ys
  | _, _ => false
end
mutual
theorem eqD_eq : ∀ (x y : D), eqD x y = true → x = y
  | .b x, y, h => by cases y <;> simp_all [eqD]
  | .i k n, y, h => by cases y <;> simp_all [eqD]
  | .s x, y, h => by cases y <;> simp_all [eqD]
  | .l sz xs, y, h => by
    cases y with
    | l sz' ys => simp only [eqD, Bool.and_eq_true, beq_iff_eq] at h; rw [h.1, eqLL_eq xs ys h.2]
    | _ => simp [eqD] at h
  | .g cs, y, h => by
    cases y with
    | g ds => simp only [eqD] at h; rw [eqL_eq cs ds h]
    | _ => simp [eqD] at h
  | .f fn caps, y, h => by simp [eqD] at h
  | .p cs, y, h => by simp [eqD] at h
  | .n, y, h => by simp [eqD] at h
  | .t vs, y, h => by simp [eqD] at h
  | .u, y, h => by simp [eqD] at h
theorem eqL_eq : ∀ (xs ys : List D), eqL xs ys = true → xs = ys
  | [], ys, h => by cases ys <;> simp_all [eqL]
  | x :: xs, ys, h => by
    cases ys with
    | nil => simp [eqL] at h
    | cons y ys => simp only [eqL, Bool.and_eq_true] at h; rw [eqD_eq x y h.1, eqL_eq xs ys h.2]
theorem eqLL_eq : ∀ (xs ys : List (List D)), eqLL xs ys = true → xs = ys
  | [], ys, h => by cases ys <;> simp_all [eqLL]
  | x :: xs, ys, h => by
    cases ys with
    | nil => simp [eqLL] at h
    | cons y ys => simp only [eqLL, Bool.and_eq_true] at h; rw [eqL_eq x y h.1, eqLL_eq xs ys h.2]
end
mutual
theorem eqD_refl : ∀ (c : Sh) (x : D), shD c x = true → eqD x x = true
  | c, .b x, _ => by simp [eqD]
  | c, .i k n, _ => by simp [eqD]
  | c, .s x, _ => by simp [eqD]
  | .t, .l sz xs, h => by
    simp only [shD, Bool.and_eq_true] at h
    simp only [eqD, beq_self_eq_true, Bool.true_and]; exact eqLL_refl treeS xs h.2
  | .l cs, .l sz xs, h => by
    simp only [shD, Bool.and_eq_true] at h
    simp only [eqD, beq_self_eq_true, Bool.true_and]; exact eqLL_refl cs xs h.2
  | .b, .l sz xs, h => by simp [shD] at h
  | .i, .l sz xs, h => by simp [shD] at h
  | .s, .l sz xs, h => by simp [shD] at h
  | c, .g cs, h => by cases c <;> simp [shD] at h
  | c, .f fn caps, h => by cases c <;> simp [shD] at h
  | c, .p cs, h => by cases c <;> simp [shD] at h
  | c, .n, h => by cases c <;> simp [shD] at h
  | c, .t vs, h => by cases c <;> simp [shD] at h
  | c, .u, h => by cases c <;> simp [shD] at h
theorem eqL_refl : ∀ (cs : List Sh) (xs : List D), shL cs xs = true → eqL xs xs = true
  | [], [], _ => rfl
  | c :: cs, x :: xs, h => by
    simp only [shL, Bool.and_eq_true] at h
    simp only [eqL, Bool.and_eq_true]; exact ⟨eqD_refl c x h.1, eqL_refl cs xs h.2⟩
  | [], _ :: _, h => by simp [shL] at h
  | _ :: _, [], h => by simp [shL] at h
theorem eqLL_refl : ∀ (cs : List Sh) (xs : List (List D)), shLL cs xs = true → eqLL xs xs = true
  | _, [], _ => rfl
  | cs, x :: xs, h => by
    simp only [shLL, Bool.and_eq_true] at h
    simp only [eqLL, Bool.and_eq_true]; exact ⟨eqL_refl cs x h.1, eqLL_refl cs xs h.2⟩
end
theorem eqLL_len : ∀ {xs ys : List (List D)}, xs.length ≠ ys.length → eqLL xs ys = false
  | [], [], h => absurd rfl h
  | [], _ :: _, _ => rfl
  | _ :: _, [], _ => rfl
  | x :: xs, y :: ys, h => by
    simp only [eqLL, Bool.and_eq_false_iff]
    exact .inr (eqLL_len fun e => h (by simp [e]))
/-- Equal up to a place. -/
theorem eqLL_step : ∀ {xs ys : List (List D)} {i : Nat}, xs.length = ys.length → i < xs.length → eqLL (xs.drop i) (ys.drop i) = (eqL (xs.getD i []) (ys.getD i []) && eqLL (xs.drop (i + 1)) (ys.drop (i + 1)))
  | [], _, i, _, h => by simp at h
  | _ :: _, [], i, h, _ => by simp at h
  | x :: xs, y :: ys, 0, _, _ => by simp [eqLL]
  | x :: xs, y :: ys, i + 1, hl, h => by
    simpa using eqLL_step (xs := xs) (ys := ys) (i := i) (by simpa using hl) (by simpa using h)

/-! ### marks -/
def mtGo (k : Nat) (out : ByteArray) : ByteArray := if h : k = 0 then out else mtGo (k / 10) (bytesS [48 + (k : Int) % 10] ++ out)
termination_by k
decreasing_by omega
/-- The text of a mark. -/
def mtext (k : Int) : ByteArray := if k ≤ 0 then ⟨#[109, 48]⟩ else ⟨#[109]⟩ ++ mtGo k.toNat .empty
mutual
def markC : D → Int → D × Int
  | .i _ _, k => (.i .i64 k, k + 1)
  | .s _, k => (.s (mtext k), k + 1)
  | .b _, k => (.b (decide (k.tmod 3 = 0)), k + 1)
  | .l sz xs, k => (.l sz (markLL xs k).1, (markLL xs k).2)
  | d, k => (d, k)
def markL : List D → Int → List D × Int
  | [], k => ([], k)
  | d :: ds, k => ((markC d k).1 :: (markL ds (markC d k).2).1, (markL ds (markC d k).2).2)
def markLL : List (List D) → Int → List (List D) × Int
  | [], k => ([], k)
  | x :: xs, k => ((markL x k).1 :: (markLL xs (markL x k).2).1, (markLL xs (markL x k).2).2)
end
mutual
def heldC : D → Int → Int
  | .i _ n, k => if n = k then k + 1 else -1
  | .s t, k => if t = mtext k then k + 1 else -1
  | .b v, k => if v = decide (k.tmod 3 = 0) then k + 1 else -1
  | .l _ xs, k => heldLL xs k
  | _, k => k
def heldL : List D → Int → Int
  | [], k => k
  | d :: ds, k => if heldC d k < 0 then -1 else heldL ds (heldC d k)
def heldLL : List (List D) → Int → Int
  | [], k => k
  | x :: xs, k => if heldL x k < 0 then -1 else heldLL xs (heldL x k)
end
mutual
/-- How many places are marked. -/
def lv : D → Nat
  | .i _ _ => 1
  | .s _ => 1
  | .b _ => 1
  | .l _ xs => lvLL xs
  | _ => 0
def lvL : List D → Nat
  | [] => 0
  | d :: ds => lv d + lvL ds
def lvLL : List (List D) → Nat
  | [] => 0
  | x :: xs => lvL x + lvLL xs
end
mutual
theorem markC_k : ∀ (d : D) (k : Int), (markC d k).2 = k + lv d
  | .i _ _, k => by simp [markC, lv]
  | .s _, k => by simp [markC, lv]
  | .b _, k => by simp [markC, lv]
  | .l sz xs, k => by simp only [markC, lv]; exact markLL_k xs k
  | .g cs, k => by simp [markC, lv]
  | .f fn caps, k => by simp [markC, lv]
  | .p cs, k => by simp [markC, lv]
  | .n, k => by simp [markC, lv]
  | .t vs, k => by simp [markC, lv]
  | .u, k => by simp [markC, lv]
theorem markL_k : ∀ (ds : List D) (k : Int), (markL ds k).2 = k + lvL ds
  | [], k => by simp [markL, lvL]
  | d :: ds, k => by simp only [markL, lvL]; rw [markL_k ds, markC_k d]; omega
theorem markLL_k : ∀ (xs : List (List D)) (k : Int), (markLL xs k).2 = k + lvLL xs
  | [], k => by simp [markLL, lvLL]
  | x :: xs, k => by simp only [markLL, lvLL]; rw [markLL_k xs, markL_k x]; omega
end
mutual
theorem held_markC : ∀ (d : D) (k : Int), 0 ≤ k → heldC (markC d k).1 k = (markC d k).2
  | .i _ _, k, _ => by simp [markC, heldC]
  | .s _, k, _ => by simp [markC, heldC]
  | .b _, k, _ => by simp [markC, heldC]
  | .l sz xs, k, h => by simp only [markC, heldC]; exact held_markLL xs k h
  | .g cs, k, _ => by simp [markC, heldC]
  | .f fn caps, k, _ => by simp [markC, heldC]
  | .p cs, k, _ => by simp [markC, heldC]
  | .n, k, _ => by simp [markC, heldC]
  | .t vs, k, _ => by simp [markC, heldC]
  | .u, k, _ => by simp [markC, heldC]
theorem held_markL : ∀ (ds : List D) (k : Int), 0 ≤ k → heldL (markL ds k).1 k = (markL ds k).2
  | [], k, _ => by simp [markL, heldL]
  | d :: ds, k, h => by
    have h1 := markC_k d k
    simp only [markL, heldL]
    rw [held_markC d k h, if_neg (by omega)]
    exact held_markL ds _ (by omega)
theorem held_markLL : ∀ (xs : List (List D)) (k : Int), 0 ≤ k → heldLL (markLL xs k).1 k = (markLL xs k).2
  | [], k, _ => by simp [markLL, heldLL]
  | x :: xs, k, h => by
    have h1 := markL_k x k
    simp only [markLL, heldLL]
    rw [held_markL x k h, if_neg (by omega)]
    exact held_markLL xs _ (by omega)
end
mutual
theorem shD_mark : ∀ (c : Sh) (d : D) (k : Int), shD c d = true → shD c (markC d k).1 = true
  | .b, .b _, k, _ => by simp [markC, shD]
  | .i, .i _ _, k, _ => by simp [markC, shD]
  | .s, .s _, k, _ => by simp [markC, shD]
  | .t, .l sz xs, k, h => by
    simp only [shD, Bool.and_eq_true] at h
    simp only [markC, shD, Bool.and_eq_true]; exact ⟨h.1, shLL_mark treeS xs k h.2⟩
  | .l cs, .l sz xs, k, h => by
    simp only [shD, Bool.and_eq_true] at h
    simp only [markC, shD, Bool.and_eq_true]; exact ⟨h.1, shLL_mark cs xs k h.2⟩
  | .b, .l sz xs, k, h => by simp [shD] at h
  | .i, .l sz xs, k, h => by simp [shD] at h
  | .s, .l sz xs, k, h => by simp [shD] at h
  | .b, .i _ _, k, h => by simp [shD] at h
  | .b, .s _, k, h => by simp [shD] at h
  | .i, .b _, k, h => by simp [shD] at h
  | .i, .s _, k, h => by simp [shD] at h
  | .s, .b _, k, h => by simp [shD] at h
  | .s, .i _ _, k, h => by simp [shD] at h
  | .t, .b _, k, h => by simp [shD] at h
  | .t, .i _ _, k, h => by simp [shD] at h
  | .t, .s _, k, h => by simp [shD] at h
  | .l cs, .b _, k, h => by simp [shD] at h
  | .l cs, .i _ _, k, h => by simp [shD] at h
  | .l cs, .s _, k, h => by simp [shD] at h
  | c, .g cs, k, h => by cases c <;> simp [shD] at h
  | c, .f fn caps, k, h => by cases c <;> simp [shD] at h
  | c, .p cs, k, h => by cases c <;> simp [shD] at h
  | c, .n, k, h => by cases c <;> simp [shD] at h
  | c, .t vs, k, h => by cases c <;> simp [shD] at h
  | c, .u, k, h => by cases c <;> simp [shD] at h
theorem shL_mark : ∀ (cs : List Sh) (ds : List D) (k : Int), shL cs ds = true → shL cs (markL ds k).1 = true
  | [], [], k, _ => rfl
  | c :: cs, d :: ds, k, h => by
    simp only [shL, Bool.and_eq_true] at h
    simp only [markL, shL, Bool.and_eq_true]; exact ⟨shD_mark c d k h.1, shL_mark cs ds _ h.2⟩
  | [], _ :: _, k, h => by simp [shL] at h
  | _ :: _, [], k, h => by simp [shL] at h
theorem shLL_mark : ∀ (cs : List Sh) (xs : List (List D)) (k : Int), shLL cs xs = true → shLL cs (markLL xs k).1 = true
  | _, [], k, _ => rfl
  | cs, x :: xs, k, h => by
    simp only [shLL, Bool.and_eq_true] at h
    simp only [markLL, shLL, Bool.and_eq_true]; exact ⟨shL_mark cs x k h.1, shLL_mark cs xs _ h.2⟩
end

theorem borCs_d (H : Nat → Option Ob) : ∀ (ds : List D), borCs H (ds.map .d) = some ds
  | [] => rfl
  | d :: ds => by simp [borCs, borC, borCs_d H ds]
theorem demoteL_d (H : Nat → Option Ob) : ∀ (ds : List D), demoteL H (ds.map .d) = some (ds.map .d, H)
  | [] => rfl
  | d :: ds => by simp [demoteL, demote1, demoteL_d H ds]
theorem shL_length : ∀ {cs : List Sh} {ds : List D}, shL cs ds = true → ds.length = cs.length
  | [], [], _ => rfl
  | c :: cs, d :: ds, h => by simp only [shL, Bool.and_eq_true] at h; simp [shL_length h.2]
  | [], _ :: _, h => by simp [shL] at h
  | _ :: _, [], h => by simp [shL] at h
/-- What the functions of one kind give: how much is left behind a datum. -/
def szP (cs : List Sh) : List D → Option D
  | [.l sz xs, .i .i64 n] => if sz = cs.length ∧ shLL cs xs = true ∧ okLL xs = true ∧ xs.length ≤ 140737488355328 ∧ -1 ≤ n ∧ n ≤ 1048576 then some (.i .i64 (less n (xs.length + wtLL xs))) else none
  | _ => none
def szG (cs : List Sh) : List D → Option D
  | [.g ds, .i .i64 n] => if shL cs ds = true ∧ okL ds = true ∧ -1 ≤ n ∧ n ≤ 1048576 then some (.i .i64 (less n (wtL ds))) else none
  | _ => none
theorem szP_inv {cs : List Sh} {ds : List D} {r : D} (h : szP cs ds = some r) : ∃ xs n, ds = [.l cs.length xs, .i .i64 n] ∧ shLL cs xs = true ∧ okLL xs = true ∧ xs.length ≤ 140737488355328 ∧ -1 ≤ n ∧ n ≤ 1048576 ∧ r = .i .i64 (less n (xs.length + wtLL xs)) := by
  unfold szP at h
  split at h
  · split at h
    · rename_i hc
      obtain ⟨rfl, h1, h2, h3, h4, h5⟩ := hc
      simp only [Option.some.injEq] at h
      exact ⟨_, _, rfl, h1, h2, h3, h4, h5, h.symm⟩
    · cases h
  · cases h
theorem szG_inv {cs : List Sh} {ds : List D} {r : D} (h : szG cs ds = some r) : ∃ xs n, ds = [.g xs, .i .i64 n] ∧ shL cs xs = true ∧ okL xs = true ∧ -1 ≤ n ∧ n ≤ 1048576 ∧ r = .i .i64 (less n (wtL xs)) := by
  unfold szG at h
  split at h
  · split at h
    · rename_i hc
      obtain ⟨h1, h2, h4, h5⟩ := hc
      simp only [Option.some.injEq] at h
      exact ⟨_, _, rfl, h1, h2, h4, h5, h.symm⟩
    · cases h
  · cases h
theorem OkO_szG {cs : List Sh} {ds : List D} {n : Int} {K : D → Prop} (h1 : shL cs ds = true) (h2 : okL ds = true) (h3 : -1 ≤ n) (h4 : n ≤ 1048576) (hk : K (.i .i64 (less n (wtL ds)))) : OkO (szG cs [.g ds, .i .i64 n]) K := by
  simp only [szG]; rw [if_pos ⟨h1, h2, h3, h4⟩]; exact hk
theorem OkO_szP {cs : List Sh} {sz : Nat} {xs : List (List D)} {n : Int} {K : D → Prop} (hs : sz = cs.length) (h1 : shLL cs xs = true) (h2 : okLL xs = true) (h0 : xs.length ≤ 140737488355328) (h3 : -1 ≤ n) (h4 : n ≤ 1048576) (hk : K (.i .i64 (less n (xs.length + wtLL xs)))) : OkO (szP cs [.l sz xs, .i .i64 n]) K := by
  simp only [szP]; rw [if_pos ⟨hs, h1, h2, h0, h3, h4⟩]; exact hk
theorem less_pos {n : Int} {w : Nat} (h : (w : Int) ≤ n) : less n w = n - w := if_neg (by omega)
theorem less_neg {n : Int} {w : Nat} (h : n < (w : Int)) : less n w = -1 := if_pos h
end Go.Fs

set_option linter.unusedVariables false
namespace Go.Fs

theorem fill_len {xs : List (List D)} {z : List D} {i : Nat} (h : i ≤ xs.length) : (xs.take i ++ List.replicate (xs.length - i) z).length = xs.length := by
  simp; omega
theorem fill_get {xs : List (List D)} {z : List D} {i : Nat} (h : i < xs.length) : (xs.take i ++ List.replicate (xs.length - i) z).getD i [] = z := by
  have h1 : (xs.take i).length = i := by simp; omega
  simp only [List.getD_eq_getElem?_getD]
  rw [List.getElem?_append_right (by omega), h1, Nat.sub_self, List.getElem?_replicate, if_pos (by omega)]
  rfl
theorem fill_set {xs : List (List D)} {z : List D} {i : Nat} (h : i < xs.length) : (xs.take i ++ List.replicate (xs.length - i) z).set i (xs.getD i []) = xs.take (i + 1) ++ List.replicate (xs.length - (i + 1)) z := by
  have h1 : (xs.take i).length = i := by simp; omega
  rw [List.set_append_right _ _ (by omega), h1, Nat.sub_self]
  have h2 : xs.length - i = xs.length - (i + 1) + 1 := by omega
  rw [h2, List.replicate_succ, List.set_cons_zero]
  have h3 : xs.getD i [] = xs[i] := by simp [List.getElem?_eq_getElem h]
  rw [h3]
  have h4 : xs.take (i + 1) = xs.take i ++ [xs[i]] := by rw [List.take_add_one, List.getElem?_eq_getElem h]; rfl
  rw [h4, List.append_assoc]
  rfl
theorem fill_zero (xs : List (List D)) (z : List D) : xs.take 0 ++ List.replicate (xs.length - 0) z = List.replicate xs.length z := by simp
theorem fill_all (xs : List (List D)) (z : List D) : xs.take xs.length ++ List.replicate (xs.length - xs.length) z = xs := by simp

/-- A copy. -/
def toP (cs : List Sh) : List D → Option D
  | [.l sz xs] => if sz = cs.length ∧ shLL cs xs = true ∧ okLL xs = true ∧ xs.length + wtLL xs ≤ 1048576 then some (.l sz xs) else none
  | _ => none
def toG (cs : List Sh) : List D → Option D
  | [.g ds] => if shL cs ds = true ∧ okL ds = true ∧ wtL ds ≤ 1048576 then some (.g ds) else none
  | _ => none
theorem toP_inv {cs : List Sh} {ds : List D} {r : D} (h : toP cs ds = some r) : ∃ xs, ds = [.l cs.length xs] ∧ shLL cs xs = true ∧ okLL xs = true ∧ xs.length + wtLL xs ≤ 1048576 ∧ r = .l cs.length xs := by
  unfold toP at h
  split at h
  · split at h
    · rename_i hc
      obtain ⟨rfl, h1, h2, h3⟩ := hc
      simp only [Option.some.injEq] at h
      exact ⟨_, rfl, h1, h2, h3, h.symm⟩
    · cases h
  · cases h
theorem toG_inv {cs : List Sh} {ds : List D} {r : D} (h : toG cs ds = some r) : ∃ xs, ds = [.g xs] ∧ shL cs xs = true ∧ okL xs = true ∧ wtL xs ≤ 1048576 ∧ r = .g xs := by
  unfold toG at h
  split at h
  · split at h
    · rename_i hc
      obtain ⟨h1, h2, h3⟩ := hc
      simp only [Option.some.injEq] at h
      exact ⟨_, rfl, h1, h2, h3, h.symm⟩
    · cases h
  · cases h
theorem OkO_toP {cs : List Sh} {sz : Nat} {xs : List (List D)} {K : D → Prop} (hs : sz = cs.length) (h1 : shLL cs xs = true) (h2 : okLL xs = true) (h3 : xs.length + wtLL xs ≤ 1048576) (hk : K (.l sz xs)) : OkO (toP cs [.l sz xs]) K := by
  simp only [toP]; rw [if_pos ⟨hs, h1, h2, h3⟩]; exact hk
theorem OkO_toG {cs : List Sh} {ds : List D} {K : D → Prop} (h1 : shL cs ds = true) (h2 : okL ds = true) (h3 : wtL ds ≤ 1048576) (hk : K (.g ds)) : OkO (toG cs [.g ds]) K := by
  simp only [toG]; rw [if_pos ⟨h1, h2, h3⟩]; exact hk

/-- Whether two are the same. -/
def eqP (cs : List Sh) : List D → Option D
  | [.l sz xs, .l sz' ys] => if sz = cs.length ∧ sz' = cs.length ∧ shLL cs xs = true ∧ shLL cs ys = true ∧ okLL xs = true ∧ okLL ys = true ∧ xs.length ≤ 140737488355328 ∧ ys.length ≤ 140737488355328 then some (.b (eqLL xs ys)) else none
  | _ => none
def eqG (cs : List Sh) : List D → Option D
  | [.g xs, .g ys] => if shL cs xs = true ∧ shL cs ys = true ∧ okL xs = true ∧ okL ys = true then some (.b (eqL xs ys)) else none
  | _ => none
theorem eqP_inv {cs : List Sh} {ds : List D} {r : D} (h : eqP cs ds = some r) : ∃ xs ys, ds = [.l cs.length xs, .l cs.length ys] ∧ shLL cs xs = true ∧ shLL cs ys = true ∧ okLL xs = true ∧ okLL ys = true ∧ xs.length ≤ 140737488355328 ∧ ys.length ≤ 140737488355328 ∧ r = .b (eqLL xs ys) := by
  unfold eqP at h
  split at h
  · split at h
    · rename_i hc
      obtain ⟨rfl, rfl, h1, h2, h3, h4, h5, h6⟩ := hc
      simp only [Option.some.injEq] at h
      exact ⟨_, _, rfl, h1, h2, h3, h4, h5, h6, h.symm⟩
    · cases h
  · cases h
theorem eqG_inv {cs : List Sh} {ds : List D} {r : D} (h : eqG cs ds = some r) : ∃ xs ys, ds = [.g xs, .g ys] ∧ shL cs xs = true ∧ shL cs ys = true ∧ okL xs = true ∧ okL ys = true ∧ r = .b (eqL xs ys) := by
  unfold eqG at h
  split at h
  · split at h
    · rename_i hc
      obtain ⟨h1, h2, h3, h4⟩ := hc
      simp only [Option.some.injEq] at h
      exact ⟨_, _, rfl, h1, h2, h3, h4, h.symm⟩
    · cases h
  · cases h
theorem OkO_eqP {cs : List Sh} {sz sz' : Nat} {xs ys : List (List D)} {K : D → Prop} (hs : sz = cs.length) (hs' : sz' = cs.length) (h1 : shLL cs xs = true) (h2 : shLL cs ys = true) (h3 : okLL xs = true) (h4 : okLL ys = true) (h5 : xs.length ≤ 140737488355328) (h6 : ys.length ≤ 140737488355328) (hk : K (.b (eqLL xs ys))) : OkO (eqP cs [.l sz xs, .l sz' ys]) K := by
  simp only [eqP]; rw [if_pos ⟨hs, hs', h1, h2, h3, h4, h5, h6⟩]; exact hk
theorem OkO_eqG {cs : List Sh} {xs ys : List D} {K : D → Prop} (h1 : shL cs xs = true) (h2 : shL cs ys = true) (h3 : okL xs = true) (h4 : okL ys = true) (hk : K (.b (eqL xs ys))) : OkO (eqG cs [.g xs, .g ys]) K := by
  simp only [eqG]; rw [if_pos ⟨h1, h2, h3, h4⟩]; exact hk
theorem eqL_nil' : eqL [] [] = true := rfl
theorem eqL_cons' (c d : D) (cs ds : List D) : eqL (c :: cs) (d :: ds) = (eqD c d && eqL cs ds) := rfl
theorem eqD_s' (x y : ByteArray) : eqD (.s x) (.s y) = decide (x = y) := rfl
theorem eqD_l' (sz : Nat) (xs ys : List (List D)) : eqD (.l sz xs) (.l sz ys) = eqLL xs ys := by simp [eqD]
theorem eqD_i' (m n : Int) : eqD (.i .i64 m) (.i .i64 n) = decide (m = n) := by
  simp only [eqD, beq_self_eq_true, Bool.true_and]
  rfl
theorem eqD_b' (x y : Bool) : eqD (.b x) (.b y) = (x == y) := rfl

/-- The text of a mark. -/
def mtP : List D → Option D
  | [.i .i64 k] => if k ≤ 4611686018427387904 then some (.s (mtext k)) else none
  | _ => none
theorem mtP_inv {ds : List D} {r : D} (h : mtP ds = some r) : ∃ k, ds = [.i .i64 k] ∧ k ≤ 4611686018427387904 ∧ r = .s (mtext k) := by
  unfold mtP at h
  split at h
  · split at h
    · rename_i hc
      simp only [Option.some.injEq] at h
      exact ⟨_, rfl, hc, h.symm⟩
    · cases h
  · cases h
theorem OkO_mtP {k : Int} {K : D → Prop} (h : k ≤ 4611686018427387904) (hk : K (.s (mtext k))) : OkO (mtP [.i .i64 k]) K := by
  simp only [mtP]; rw [if_pos h]; exact hk
theorem wrapu8 {n : Int} (h1 : 0 ≤ n) (h2 : n < 256) : IntKind.u8.wrap n = n := by
  have e : (2 ^ IntKind.u8.bits : Int) = 256 := by decide
  have e3 : IntKind.u8.signed = false := rfl
  unfold IntKind.wrap
  rw [e, e3]
  simp only [Bool.false_and, Bool.false_eq_true, if_false]
  omega
theorem tmod10 (k : Nat) : (k : Int).tmod 10 = (k : Int) % 10 := Int.tmod_eq_emod_of_nonneg (by omega)
theorem tdiv10 (k : Nat) : (k : Int).tdiv 10 = ((k / 10 : Nat) : Int) := by
  rw [Int.tdiv_eq_ediv_of_nonneg (by omega)]; omega
theorem bytesS_one (n : Int) : (bytesS [n]).size = 1 := rfl
theorem mtGo_pos {k : Nat} {out : ByteArray} (h : 0 < k) : mtGo k out = mtGo (k / 10) (bytesS [48 + (k : Int) % 10] ++ out) := by
  rw [mtGo, dif_neg (by omega)]
theorem mtGo_zero (out : ByteArray) : mtGo 0 out = out := by rw [mtGo, dif_pos rfl]
theorem mtext_pos {k : Int} (h : 0 < k) : mtext k = ⟨#[109]⟩ ++ mtGo k.toNat .empty := if_neg (by omega)
theorem mtext_neg {k : Int} (h : k ≤ 0) : mtext k = ⟨#[109, 48]⟩ := if_pos h
theorem range_0 : List.range 0 = [] := rfl
theorem range_1 : List.range 1 = [0] := rfl
theorem range_2 : List.range 2 = [0, 1] := rfl
theorem chunk_0 (sz : Nat) (ds : List D) : chunk sz 0 ds = [] := rfl
theorem chunk_1 (sz : Nat) (ds : List D) : chunk sz 1 ds = [ds.take sz] := rfl
theorem chunk_2 (sz : Nat) (ds : List D) : chunk sz 2 ds = [ds.take sz, (ds.drop sz).take sz] := rfl
end Go.Fs
