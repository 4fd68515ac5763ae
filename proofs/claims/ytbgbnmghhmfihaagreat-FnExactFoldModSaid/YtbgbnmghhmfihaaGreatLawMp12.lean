/- A part of the proof: an evaluator of the program's code over plain data, proved sound, and walks of the program's functions by it. No conditions beyond those in the theorems. -/
import Derived.Test.YtbgbnmghhmfihaaGreatLawMp11
set_option linter.unusedVariables false
set_option linter.unusedSimpArgs false
set_option linter.constructorNameAsVariable false
set_option linter.unusedSectionVars false
set_option linter.defProp false
set_option linter.unusedVariables false
namespace Go.Fs
open Go.RowKit

/-! ### the run of code -/
def frE (A : Env) (o : Oper) (s : St) : Option St := match o.op with
  | .alloc ty => (opAlloc A.T s.heap (o.dst.getD 0) ty).bind fun y => oPut s o.dst y.1 y.2
  | .box _ x => if noM (s.ev x) = true then (opBox s.heap (o.dst.getD 0) (s.ev x)).bind fun y => oPut s o.dst y.1 y.2 else none
  | .build ty parts => if (parts.toList.all fun p => noM (s.ev p.2)) = true then (opBuild A.T s.heap ty ((parts.toList.map (·.1)).zip (parts.toList.map fun p => s.ev p.2))).bind fun av => oPut s o.dst av s.heap else none
  | .unOp op _ x => (opUn op (s.ev x)).bind fun av => oPut s o.dst av s.heap
  | .call c => match c.callee with
    | .value f => match s.ev f with
      | .f fn caps => match A.S fn with
        | some (.own F) => (borLE s.heap (zargs A.T s c.args.toList c.argTypes.toList ++ caps)).bind fun ds => (F ds).bind (ownE s o.dst)
        | _ => none
      | _ => none
    | _ => none
  | _ => none
def flB (ops : Array Oper) (i : Nat) : Nat := match ops.toList[i]? with
  | some o => if rdB o = true then 1 else if frB o = true then 2 else 0
  | none => 0
def xE (A : Env) (ops : Array Oper) (i : Nat) (o : Oper) (s : St) : Option St := match flB ops i with
  | 0 => opG A ops.toList o s
  | 1 => (rdE A.T s o).bind fun av => oPut s o.dst av s.heap
  | _ => frE A o s
def xsE (A : Env) (ops : Array Oper) : List Nat → St → Option St
  | [], s => some s
  | i :: is, s => match ops.toList[i]? with
    | some o => (xE A ops i o s).bind (xsE A ops is)
    | none => none

/-- A region that asks something in parts: one truth comes out of it. -/
def gdB (ops : List Oper) : Bool := ops.any fun o => o.guard.isSome
def lastD (T : Tab) : List Oper → Option Nat
  | [] => none
  | [o] => match T.kd o.type with
    | some .bool => o.dst
    | _ => none
  | _ :: os => lastD T os
def asB : AV → Option Bool
  | .d (.b v) => some v
  | _ => none
def forget (ts : List Nat) (f : Nat → AV) : Nat → AV := ts.foldr (fun t f => upd f t .x) f
def gdE (A : Env) (ops os : List Oper) (t : Nat) (s : St) : Option Bool := (qsE A ops os s).bind fun s' => asB (s'.env t)
def gdS (os : List Oper) (t : Nat) (s : St) (v : Bool) : St := { n := s.n, env := upd (forget (dstsOf os) s.env) t (.d (.b v)), heap := s.heap }
/-- Parts, each of which ends where a truth is known. -/
def cutB (T : Tab) (o : Oper) : Bool := o.guard.isNone && (match o.op with | .pick _ _ _ => true | _ => false) && (match T.kd o.type with | some .bool => true | _ => false)
def segs (T : Tab) : List Oper → List Oper → List (List Oper)
  | acc, [] => match acc with | [] => [] | _ => [acc.reverse]
  | acc, o :: os => if cutB T o = true then (o :: acc).reverse :: segs T [] os else segs T (o :: acc) os
def gsE (A : Env) (ops : List Oper) : List (List Oper) → St → Option St
  | [], s => some s
  | os :: rest, s => if gdB os = true then match lastD A.T os with
      | some t => (gdE A ops os t s).bind fun v => gsE A ops rest (gdS os t s v)
      | none => (opsE A ops os s).bind (gsE A ops rest)
    else (opsE A ops os s).bind (gsE A ops rest)
def regE (A : Env) (ops : Array Oper) (dr : Bool) (s : St) : Option St :=
  if gdB ops.toList = true then
    if dr = true then (if quietB ops = true then match lastD A.T ops.toList with
      | some t => (gdE A ops.toList ops.toList t s).map (gdS ops.toList t s)
      | none => qsE A ops.toList ops.toList s else none)
    else gsE A ops.toList (segs A.T [] ops.toList) s
  else if dr = true then (if quietB ops = true then qsE A ops.toList ops.toList s else if ordB ops (flB ops) (List.range ops.size) = true then xsE A ops (List.range ops.size) s else none)
  else opsE A ops.toList ops.toList s

/-! #### the run is sound -/
theorem opAlloc_ext {T : Tab} {H : Nat → Option Ob} {dst : Nat} {ty : TypeId} {y : AV × (Nat → Option Ob)} (h : opAlloc T H dst ty = some y) : Ext H y.2 := by
  unfold opAlloc at h
  obtain ⟨ti, _, h⟩ := bind_inv h
  split at h
  · rename_i e
    cases h
    intro k o hk
    have : k ≠ dst := fun e' => by rw [e', e] at hk; cases hk
    simp [upd, this, hk]
  · cases h
theorem opBox_ext {H : Nat → Option Ob} {dst : Nat} {x : AV} {y : AV × (Nat → Option Ob)} (h : opBox H dst x = some y) : Ext H y.2 := by
  unfold opBox at h
  obtain ⟨_, h⟩ := ite_inv h
  split at h
  · rename_i e
    cases h
    intro k o hk
    have : k ≠ dst := fun e' => by rw [e', e] at hk; cases hk
    simp [upd, this, hk]
  · cases h
theorem freeAll_ext {H : Nat → Option Ob} : ∀ {L : List (Nat × Ob)}, freeAll H L = true → Ext H (updL L H)
  | [], _ => fun k o h => h
  | x :: L, h => by
    simp only [freeAll, Bool.and_eq_true] at h
    intro k o hk
    have : k ≠ x.1 := fun e => by rw [e] at hk; rw [hk] at h; cases h.1
    show upd (updL L H) x.1 (some x.2) k = some o
    simp only [upd, if_neg this]
    exact freeAll_ext h.2 k o hk
theorem demoteL_noM {H : Nat → Option Ob} : ∀ {cs : List AV}, cs.all noMc = true → demoteL H cs = some (cs, H)
  | [], _ => rfl
  | c :: cs, h => by
    simp only [List.all_cons, Bool.and_eq_true] at h
    have : demote1 H c = some (c, H) := by cases c <;> first | rfl | cases h.1
    simp only [demoteL, this, Option.bind_some, demoteL_noM h.2]
theorem demote_noM {H : Nat → Option Ob} {av : AV} (h : noM av = true) : demote H av = some (av, H) := by
  cases av with
  | g cs => simp only [demote, demoteL_noM (H := H) h, Option.map_some]
  | _ => first | rfl | cases h
theorem demAll_noM {H : Nat → Option Ob} : ∀ {cs : List AV}, cs.all noM = true → demAll H cs = some (cs, H)
  | [], _ => rfl
  | c :: cs, h => by
    simp only [List.all_cons, Bool.and_eq_true] at h
    simp only [demAll, demote_noM h.1, Option.bind_some, demAll_noM h.2]
theorem oPut_heap {s : St} {dst : Option Nat} {av : AV} {H : Nat → Option Ob} {s' : St} (h : oPut s dst av H = some s') : s'.heap = H := by
  unfold oPut at h
  split at h
  · obtain ⟨_, h⟩ := ite_inv h; cases h; rfl
  · cases h; rfl
theorem val_ok {A : Env} {o : Oper} {s s' : St} {y : AV × (Nat → Option Ob)} {K : St → Prop} (hv : valOp A.T s o = some y) (hp : oPut s o.dst y.1 y.2 = some s') (hk : K s') : valW A o s K := by
  simp only [valW, hv, OkO, valK]
  exact oPut_ok hp hk
theorem rd_ok {A : Env} {ops : List Oper} {o : Oper} {s : St} {av : AV} {s' : St} {K : St → Prop} (hr : rdB o = true) (h : rdE A.T s o = some av) (hp : oPut s o.dst av s.heap = some s') (hk : K s') : awpG A ops o s K := by
  unfold rdB at hr
  simp only [Bool.and_eq_true, Option.isNone_iff_eq_none] at hr
  obtain ⟨hg, hr⟩ := hr
  have hv := val_ok (A := A) (K := K) (rdE_ok h) hp hk
  unfold awpG
  simp only [hg]
  unfold awpOp
  split at hr <;> first | (rename_i e; simp only [e]; exact hv) | cases hr
theorem fr_ok {A : Env} {ops : List Oper} {o : Oper} {s s' : St} {K : St → Prop} (hr : frB o = true) (h : frE A o s = some s') (hk : K s') : Ext s.heap s'.heap ∧ awpG A ops o s K := by
  unfold frB at hr
  simp only [Bool.and_eq_true, Option.isNone_iff_eq_none] at hr
  obtain ⟨hg, hr⟩ := hr
  unfold awpG
  simp only [hg]
  unfold frE at h
  unfold awpOp
  split at h
  · rename_i e
    obtain ⟨y, h1, h2⟩ := bind_inv h
    refine ⟨by rw [oPut_heap h2]; exact opAlloc_ext h1, ?_⟩
    simp only [e]
    exact val_ok (y := y) (by simp only [valOp, e]; exact h1) h2 hk
  · rename_i e
    obtain ⟨h0, h⟩ := ite_inv h
    obtain ⟨y, h1, h2⟩ := bind_inv h
    refine ⟨by rw [oPut_heap h2]; exact opBox_ext h1, ?_⟩
    simp only [e]
    exact val_ok (y := y) (by simp only [valOp, e, dem1, demote_noM h0, Option.bind_some]; exact h1) h2 hk
  · rename_i ty parts e
    obtain ⟨h0, h⟩ := ite_inv h
    obtain ⟨av, h1, h2⟩ := bind_inv h
    refine ⟨by rw [oPut_heap h2]; exact Ext.refl _, ?_⟩
    simp only [e]
    have h0' : (parts.toList.map fun p => s.ev p.2).all noM = true := by simpa [List.all_map, Function.comp] using h0
    exact val_ok (y := (av, s.heap)) (by simp only [valOp, e, demAll_noM h0', Option.bind_some, h1, Option.map_some]) h2 hk
  · rename_i e
    obtain ⟨av, h1, h2⟩ := bind_inv h
    refine ⟨by rw [oPut_heap h2]; exact Ext.refl _, ?_⟩
    simp only [e]
    exact val_ok (y := (av, s.heap)) (by simp only [valOp, e, h1, Option.map_some]) h2 hk
  · rename_i c e
    split at h
    · rename_i f e1
      split at h
      · rename_i fn caps e2
        split at h
        · rename_i F e3
          obtain ⟨ds, h1, h⟩ := bind_inv h
          have h1 := borLE_ok h1
          obtain ⟨r, h2, h⟩ := bind_inv h
          obtain ⟨h3, h⟩ := ite_inv h
          refine ⟨by rw [oPut_heap h]; exact freeAll_ext h3, ?_⟩
          simp only [e, e1, e2, callW, e3, h1, OkO, thenF, h2]
          exact ⟨h3, oPut_ok h hk⟩
        · cases h
      · cases h
    · cases h
  · cases h
theorem xsE_ok {A : Env} {ops : Array Oper} {K : St → Prop} : ∀ {is : List Nat} {s s' : St}, xsE A ops is s = some s' → K s' → awpXs A ops (flB ops) K is s
  | [], s, s', h, hk => by cases h; exact hk
  | i :: is, s, s', h, hk => by
    unfold xsE at h
    unfold awpXs
    split at h
    · rename_i o e
      obtain ⟨s1, h1, h⟩ := bind_inv h
      have ih := xsE_ok h hk
      simp only [e]
      unfold xE at h1
      have hfl : flB ops i = if rdB o = true then 1 else if frB o = true then 2 else 0 := by simp only [flB, e]
      split at h1
      · rename_i e2
        refine opG_ok h1 ?_
        rw [e2]
        exact ⟨trivial, ih⟩
      · rename_i e2
        obtain ⟨av, h2, h3⟩ := bind_inv h1
        have hr : rdB o = true := by
          rw [e2] at hfl
          by_cases hr : rdB o = true
          · exact hr
          · rw [if_neg hr] at hfl
            split at hfl <;> omega
        refine rd_ok hr h2 h3 ?_
        rw [e2]
        exact ⟨oPut_heap h3, ih⟩
      · rename_i n0 n1
        have hf : flB ops i = 2 ∧ frB o = true := by
          by_cases hr : rdB o = true
          · rw [if_pos hr] at hfl; exact absurd hfl n1
          · rw [if_neg hr] at hfl
            by_cases hf : frB o = true
            · rw [if_pos hf] at hfl; exact ⟨hfl, hf⟩
            · rw [if_neg hf] at hfl; exact absurd hfl n0
        obtain ⟨hx, _⟩ := fr_ok (ops := ops.toList) (K := fun _ => True) hf.2 h1 trivial
        refine (fr_ok hf.2 h1 ?_).2
        rw [hf.1]
        exact ⟨hx, ih⟩
    · cases h
theorem forget_env {ts : List Nat} {f : Nat → AV} {t : Nat} : forget ts f t = .x ∨ (t ∉ ts ∧ forget ts f t = f t) := by
  induction ts with
  | nil => exact .inr ⟨by simp, rfl⟩
  | cons x xs ih =>
    by_cases e : t = x
    · left; simp [forget, upd, e]
    · have : forget (x :: xs) f t = forget xs f t := by simp [forget, upd, e]
      rw [this]
      rcases ih with h | ⟨h1, h2⟩
      · exact .inl h
      · exact .inr ⟨by simp [e, h1], h2⟩
theorem sem_gd {A : Env} {ops os : List Oper} {aa : AV} {t : Nat} {s s' : St} {v : Bool} (h : qsE A ops os s = some s') (hv : asB (s'.env t) = some v) : Sem aa s' (gdS os t s v) := by
  obtain ⟨e1, e2, e3⟩ := qsE_frame h
  have hv : s'.env t = .d (.b v) := by
    unfold asB at hv
    split at hv
    · rename_i e; cases hv; exact e
    · cases hv
  have key : gdS os t s v = { s' with env := upd (forget (dstsOf os) s.env) t (.d (.b v)) } := by
    unfold gdS
    rw [e1, e2]
  rw [key]
  intro B G a w hB hr
  refine ⟨G, ⟨hr.obj, fun i => ?_, hr.size, hr.defers, hr.nodup, hr.disj, hr.ge, hr.rest, hr.below, hr.ban, hr.base, hr.anc⟩⟩
  show AVR w G s'.heap (Ban B.F G s'.heap) _ (upd (forget (dstsOf os) s.env) t (.d (.b v)) i)
  by_cases e : i = t
  · subst e
    simp only [upd, if_true]
    rw [← hv]
    exact hr.env i
  · simp only [upd, if_neg e]
    rcases forget_env (ts := dstsOf os) (f := s.env) (t := i) with h1 | ⟨h1, h2⟩
    · rw [h1]; exact .x _
    · rw [h2, ← e3 i h1]; exact hr.env i

def toK (Q : Exit → St → Prop) (r : Exit × St) : Prop := Q r.1 r.2
theorem awpQs_region {A : Env} {id : Nat} {ops : Array Oper} {dr : Bool} {Q : Exit → St → Prop} {s s' : St} (hq : dr = true → quietB ops = true) (h : qsE A ops.toList ops.toList s = some s') (hk : Q .normal s') : awp A (.region id ops dr) Q s := by
  cases dr with
  | true => exact awp_quiet (hq rfl) (qsE_ok h hk)
  | false => exact qsE_ops h hk
theorem segs_join (T : Tab) : ∀ (os acc : List Oper), (segs T acc os).flatten = acc.reverse ++ os
  | [], acc => by
    unfold segs
    cases acc <;> simp
  | o :: os, acc => by
    unfold segs
    split
    · simp [segs_join T os []]
    · rw [segs_join T os (o :: acc)]; simp
/-- All but what asks something in parts without an order. -/
theorem regE_ok {A : Env} {ops : Array Oper} {dr : Bool} {s s' : St} (hg : gdB ops.toList = true → dr = true) (h : regE A ops dr s = some s') : ∃ s0, Sem A.aa s0 s' ∧ ∀ (id : Nat) (Q : Exit → St → Prop), Q .normal s0 → awp A (.region id ops dr) Q s := by
  unfold regE at h
  split at h
  · rename_i hgd
    have hd := hg hgd
    subst hd
    simp only [if_true] at h
    obtain ⟨h1, h⟩ := ite_inv h
    split at h
    · obtain ⟨v, h2, rfl⟩ := Option.map_eq_some_iff.1 h
      obtain ⟨s0, h3, h4⟩ := bind_inv h2
      exact ⟨s0, sem_gd h3 h4, fun id Q hk => awpQs_region (fun _ => h1) h3 hk⟩
    · exact ⟨s', Sem.refl _ _, fun id Q hk => awpQs_region (fun _ => h1) h hk⟩
  · split at h
    · rename_i hd
      subst hd
      split at h
      · rename_i h1
        exact ⟨s', Sem.refl _ _, fun id Q hk => awpQs_region (fun _ => h1) h hk⟩
      · obtain ⟨h1, h⟩ := ite_inv h
        exact ⟨s', Sem.refl _ _, fun id Q hk => awp_ord _ _ h1 (xsE_ok h hk)⟩
    · rename_i hd
      simp only [Bool.not_eq_true] at hd
      subst hd
      exact ⟨s', Sem.refl _ _, fun id Q hk => opsE_ok h hk⟩
end Go.Fs

set_option linter.unusedVariables false
set_option linter.constructorNameAsVariable false
namespace Go.Fs
open Go.RowKit

/-! ### where two states look alike to an operation -/
theorem rdE_congr {T : Tab} {ops : Array Oper} {o : Oper} {s s' : St} (h : Agree ops o s s') : rdE T s o = rdE T s' o := by
  have hh := h.1
  have he : ∀ x ∈ o.op.operands.toList, s.ev x = s'.ev x := fun x hx => h.ev hx
  obtain ⟨dst, op, type, pos, after, guard⟩ := o
  cases op <;> simp only [Op.operands] at he <;> simp only [rdE, hh]
  case call c =>
    cases hc : c.callee with
    | value f => rfl
    | invoke r m => rfl
    | builtin b =>
      have hargs : ∀ x ∈ c.args.toList, s.ev x = s'.ev x := fun x hx => he x (by simp [Call.operands, hc]; simpa using hx)
      cases b <;> simp only [] <;> try rfl
      all_goals
        split
        · first
            | (rename_i h1 h2
               rw [h1] at hargs
               simp only [List.mem_cons, List.not_mem_nil, or_false, forall_eq, forall_eq_or_imp] at hargs
               rw [hargs])
            | (rename_i h1
               rw [h1] at hargs
               simp only [List.mem_cons, List.not_mem_nil, or_false, forall_eq, forall_eq_or_imp] at hargs
               rw [hargs.1, hargs.2])
        · rfl
  case slice t x lo hi mx =>
    cases mx with
    | none =>
      have h1 := he x (by simp)
      have h2 : lo.map s.ev = lo.map s'.ev := by cases lo with | none => rfl | some y => simp only [Option.map_some]; rw [he y (by simp)]
      have h3 : hi.map s.ev = hi.map s'.ev := by cases hi with | none => rfl | some y => simp only [Option.map_some]; rw [he y (by simp)]
      simp only [h1, h2, h3]
    | some m => rfl
  all_goals (first | rfl | (simp_all; done))
theorem qE_congr {A : Env} {ops : Array Oper} {o : Oper} {s s' : St} (h : Agree ops o s s') : qE A o s = qE A o s' := by
  have hr := rdE_congr (T := A.T) h
  have hh := h.1
  have he : ∀ x ∈ o.op.operands.toList, s.ev x = s'.ev x := fun x hx => h.ev hx
  unfold qE
  split
  · rename_i c x y hop
    have h1 := he c (by simp [hop, Op.operands])
    have h2 := he x (by simp [hop, Op.operands])
    have h3 := he y (by simp [hop, Op.operands])
    rw [← h1]
    split
    · rename_i v hv
      have l1 := litS_ev s c x true
      cases v with
      | true =>
        have e1 := litS_ok (s := s) (x := c) hv
        have e2 := litS_ok (s := s') (x := c) (h1 ▸ hv)
        simp only [if_true, e1, e2, h2]
      | false =>
        have e1 := litS_ok (s := s) (x := c) hv
        have e2 := litS_ok (s := s') (x := c) (h1 ▸ hv)
        simp only [Bool.false_eq_true, if_false, e1, e2, h3]
    · rfl
  · rfl
  · rfl
  · rfl
  · rename_i c hop
    split
    · rename_i f hc
      have h1 := he f (by simp [hop, Op.operands, Call.operands, hc])
      have h2 := zargs_congr (T := A.T) (s := s) (s' := s') c.args.toList c.argTypes.toList fun x hx => he x (by simp [hop, Op.operands, Call.operands, hc]; exact .inr (by simpa using hx))
      rw [← h1, ← h2, ← hh]
    · exact hr
  · rename_i src dst x hop
    have h1 := he x (by simp [hop, Op.operands])
    rw [← h1, ← hh, hr]
  · split
    · rfl
    · exact hr
  · rename_i ty m k ok hop
    have h1 := he m (by simp [hop, Op.operands])
    have h2 := he k (by simp [hop, Op.operands])
    rw [← h1, ← h2, ← hh]
  · exact hr
theorem qGE_congr {A : Env} {ops : Array Oper} {o : Oper} {s s' : St} (h : Agree ops o s s') : qGE A ops.toList o s = qGE A ops.toList o s' := by
  unfold qGE
  split
  · exact qE_congr h
  · rename_i j want hg
    split
    · rfl
    · rename_i t ht
      have h1 : s.env t = s'.env t := h.2 t (by
        unfold dstAt at ht
        rw [Array.getElem?_toList] at ht
        simp only [Oper.looksAt, hg]
        simp
        right
        cases e : ops[j]? with
        | none => rw [e] at ht; cases ht
        | some p => rw [e] at ht; simpa using ht)
      rw [← h1]
      split
      · rename_i v hv
        have e1 := litS_ok (s := s) (x := .tmp t) hv
        have e2 := litS_ok (s := s') (x := .tmp t) (h1 ▸ hv)
        cases v with
        | true => simp only [if_true, e1, e2, qE_congr h]
        | false => simp only [Bool.false_eq_true, if_false, e1, e2, qE_congr h]
      · rfl
      · rfl

/-! ### regions of open order in which something is written: the writing operations stand in a chain -/
def wrB (o : Oper) : Bool := match o.op with
  | .alloc _ => true
  | .box _ _ => true
  | .build _ _ => true
  | .buildSlice _ _ _ => true
  | .makeSlice _ _ _ => true
  | .makeFunc _ _ _ => true
  | .store _ _ _ => true
  | .call c => match c.callee with
    | .value _ => true
    | .builtin .append => true
    | _ => false
  | _ => false
def wrAt (ops : Array Oper) (i : Nat) : Bool := match ops[i]? with
  | some o => wrB o
  | none => false
/-- How many writing operations stand ahead. -/
def rankW (ops : Array Oper) (i : Nat) : Nat := (List.range i).countP (wrAt ops)
def loW (ops : Array Oper) (i : Nat) : Nat := (List.range ops.size).countP fun j => wrAt ops j && depN ops ops.size j i
def hiW (ops : Array Oper) (i : Nat) : Nat := (List.range ops.size).countP fun j => wrAt ops j && !depN ops ops.size i j
/-- Behind which operation the p-th heap begins. -/
def posW (ops : Array Oper) (p : Nat) : Option Nat := (List.range (ops.size + 1)).find? fun k => rankW ops k == p
/-- An operation, run: its value if it has a place, and the state behind it. -/
def stepY (A : Env) (ops : Array Oper) (o : Oper) (s : St) : Option St := if wrB o = true then opG A ops.toList o s else
  match o.dst with
  | some d => if d < s.n then (qGE A ops.toList o s).bind fun av => some { n := s.n, env := upd s.env d av, heap := s.heap } else none
  | none => none
def trY (A : Env) (ops : Array Oper) : List Oper → St → Option (List St)
  | [], s => some [s]
  | o :: os, s => (stepY A ops o s).bind fun s1 => (trY A ops os s1).map (s :: ·)
/-- What may be seen of a region's text. -/
def planB (ops : Array Oper) (prs : List (Nat × Nat)) : Bool :=
  (List.range ops.size).all fun i => match (ops[i]? : Option Oper) with
    | some o => (wrB o || o.dst.isSome) && o.after.toList.all (fun e => !Region.binds .any e || decide (e.on < i)) &&
        ((List.range ops.size).all fun j => i == j || match (ops[j]? : Option Oper) with
          | some p => (p.dst != o.dst || p.dst.isNone) && (match p.dst with | some t => !(o.looksAt ops).contains t || onB o j || onB p i | none => true)
              && (!(wrB o && wrB p) || depN ops ops.size i j || depN ops ops.size j i)
          | none => true) &&
        (wrB o || (List.range (ops.size + 1)).all fun q => !(decide (loW ops i ≤ q) && decide (q ≤ hiW ops i)) || q == rankW ops i || (match posW ops q with | some k => prs.contains (i, k) | none => false))
    | none => true
/-- The checks: this operation, looked at from its own place but over that heap, has the same value. -/
def chkY (A : Env) (ops : Array Oper) (L : List St) (p : Nat × Nat) : Prop := match (ops[p.1]? : Option Oper), L[p.1]?, L[p.1 + 1]?, L[p.2]? with
  | some o, some s, some s1, some sk => match o.dst with
    | some d => qGE A ops.toList o { n := s.n, env := s.env, heap := sk.heap } = some (s1.env d)
    | none => False
  | _, _, _, _ => False
end Go.Fs

set_option linter.unusedVariables false
set_option linter.constructorNameAsVariable false
namespace Go.Fs
open Go.RowKit
def putS (s : St) (dst : Option Nat) (av : AV) (H : Nat → Option Ob) : St := match dst with
  | some d => { n := s.n, env := upd s.env d av, heap := H }
  | none => { n := s.n, env := s.env, heap := H }
def Fr (dst : Option Nat) (s s' : St) (x x' : Option St) : Prop := ∀ s1, x = some s1 → ∃ av H, s1 = putS s dst av H ∧ x' = some (putS s' dst av H)
theorem oPut_fr {s s' : St} (hn : s.n = s'.n) (dst : Option Nat) (av : AV) (H : Nat → Option Ob) : Fr dst s s' (oPut s dst av H) (oPut s' dst av H) := by
  intro s1 h
  unfold oPut at h ⊢
  cases dst with
  | none => cases h; exact ⟨av, H, rfl, rfl⟩
  | some d =>
    simp only at h ⊢
    obtain ⟨h1, h⟩ := ite_inv h
    cases h
    exact ⟨av, H, rfl, by rw [if_pos (by rw [← hn]; exact h1)]; rfl⟩
theorem Fr.bind {α : Type} {dst : Option Nat} {s s' : St} {o : Option α} {f g : α → Option St} (h : ∀ a, Fr dst s s' (f a) (g a)) : Fr dst s s' (o.bind f) (o.bind g) := by
  intro s1 h1
  obtain ⟨a, e, h2⟩ := bind_inv h1
  obtain ⟨av, H, h3, h4⟩ := h a s1 h2
  exact ⟨av, H, h3, by rw [e, Option.bind_some, h4]⟩
theorem Fr.ite {dst : Option Nat} {s s' : St} {c : Prop} [Decidable c] {x y : Option St} (h : Fr dst s s' x y) : Fr dst s s' (if c then x else none) (if c then y else none) := by
  intro s1 h1
  obtain ⟨hc, h2⟩ := ite_inv h1
  obtain ⟨av, H, h3, h4⟩ := h s1 h2
  exact ⟨av, H, h3, by rw [if_pos hc, h4]⟩
theorem Fr.none {dst : Option Nat} {s s' : St} {y : Option St} : Fr dst s s' Option.none y := fun s1 h => by cases h
theorem mk_fr {s s' : St} (H : Nat → Option Ob) : Fr Option.none s s' (some { n := s.n, env := s.env, heap := H }) (some { n := s'.n, env := s'.env, heap := H }) := fun s1 h => by
  cases h
  exact ⟨.x, H, rfl, rfl⟩
section
variable {A : Env} {s s' : St}
theorem callE_fr (hn : s.n = s'.n) (hh : s.heap = s'.heap) (dst : Option Nat) (f : FuncId) (args : List AV) : Fr dst s s' (callE A s dst f args) (callE A s' dst f args) := by
  unfold callE
  rw [← hh]
  split
  · exact .none
  · refine .bind fun ds => .bind fun r => ?_
    unfold ownE
    rw [← hh]
    exact .ite (oPut_fr hn _ _ _)
  · refine .bind fun H1 => ?_
    unfold sharedE
    rw [← hh]
    exact .ite (.bind fun ds => .bind fun r => oPut_fr hn _ _ _)
  · split
    · exact .none
    · split
      · refine .ite (.bind fun cs => ?_)
        unfold nestC
        rw [← hh]
        refine .bind fun x => .bind fun ds => .bind fun r => ?_
        unfold nestE
        rw [← hh]
        exact .ite (.ite (oPut_fr hn _ _ _))
      · exact .none
    · refine .bind fun x => .bind fun ds => .bind fun r => ?_
      unfold ioE2
      rw [← hh]
      refine .ite (.ite (.bind fun os => ?_))
      unfold ioE3
      rw [← hh]
      exact .ite (oPut_fr hn _ _ _)
  · refine .bind fun y => ?_
    unfold eatE
    rw [← hh]
    exact oPut_fr hn _ _ _
theorem opE_fr {ops : Array Oper} {o : Oper} (h : Agree ops o s s') (hn : s.n = s'.n) : Fr o.dst s s' (opE A o s) (opE A o s') := by
  have hh := h.1
  have he : ∀ x ∈ o.op.operands.toList, s.ev x = s'.ev x := fun x hx => h.ev hx
  have val : Fr o.dst s s' (valE A o s) (valE A o s') := by
    unfold valE
    rw [valOp_congr h]
    exact .bind fun y => oPut_fr hn _ _ _
  unfold opE
  split
  · rename_i c x y hop
    have h1 := he c (by simp [hop, Op.operands])
    have h2 := he x (by simp [hop, Op.operands])
    have h3 := he y (by simp [hop, Op.operands])
    rw [← h1, ← hh]
    split
    · rename_i v hv
      have e1 := litS_ok (s := s) (x := c) hv
      have e2 := litS_ok (s := s') (x := c) (h1 ▸ hv)
      cases v with
      | true => simp only [if_true, e1, e2, ← h2]; exact oPut_fr hn _ _ _
      | false => simp only [Bool.false_eq_true, if_false, e1, e2, ← h3]; exact oPut_fr hn _ _ _
    · exact .none
  · rename_i ty ad v hop
    have h1 := he ad (by simp [hop, Op.operands])
    have h2 := he v (by simp [hop, Op.operands])
    split
    · rename_i hd
      unfold storeE
      rw [← h1, ← h2, ← hh, hd]
      split
      · exact .bind fun H => mk_fr H
      · exact .bind fun m => .bind fun H => mk_fr H
    · exact .none
  · rename_i c hop
    split
    · rename_i f hc
      have h1 := he f (by simp [hop, Op.operands, Call.operands, hc])
      have h2 := zargs_congr (T := A.T) (s := s) (s' := s') c.args.toList c.argTypes.toList fun x hx => he x (by simp [hop, Op.operands, Call.operands, hc]; exact .inr (by simpa using hx))
      rw [← h1, ← h2]
      split
      · exact callE_fr hn hh _ _ _
      · exact .ite (callE_fr hn hh _ _ _)
      · exact .none
    · exact val
  · rename_i src dst x hop
    have h1 := he x (by simp [hop, Op.operands])
    split
    · rw [← h1, ← hh]
      exact .bind fun av => oPut_fr hn _ _ _
    · exact val
  · rename_i op ty x y yt hop
    have h1 := he x (by simp [hop, Op.operands])
    split
    · rw [← h1, ← hh]
      refine .bind fun d => ?_
      split
      · exact oPut_fr hn _ _ _
      · exact .none
    · exact val
  · rw [← hh]; exact .bind fun y => oPut_fr hn _ _ _
  · rename_i ty m k ok hop
    have h1 := he m (by simp [hop, Op.operands])
    have h2 := he k (by simp [hop, Op.operands])
    rw [← h1, ← h2, ← hh]
    exact .bind fun av => oPut_fr hn _ _ _
  · rename_i ty m k x hop
    have h1 := he m (by simp [hop, Op.operands])
    have h2 := he k (by simp [hop, Op.operands])
    have h3 := he x (by simp [hop, Op.operands])
    split
    · rename_i hd
      rw [← h1, ← h2, ← h3, ← hh, hd]
      exact .bind fun H => mk_fr H
    · exact .none
  · rename_i ty x hop
    have h1 := he x (by simp [hop, Op.operands])
    rw [← h1, ← hh]
    exact .bind fun av => oPut_fr hn _ _ _
  · rename_i ty x i hop
    have h1 := he x (by simp [hop, Op.operands])
    have h2 := he i (by simp [hop, Op.operands])
    rw [← h1, ← h2, ← hh]
    exact .bind fun y => .bind fun av => oPut_fr hn _ _ _
  · exact val
theorem opG_fr {ops : Array Oper} {o : Oper} (h : Agree ops o s s') (hn : s.n = s'.n) : Fr o.dst s s' (opG A ops.toList o s) (opG A ops.toList o s') := by
  have hh := h.1
  unfold opG
  split
  · exact opE_fr h hn
  · rename_i j want hg
    split
    · rw [← hh]; exact oPut_fr hn _ _ _
    · rename_i t ht
      have h1 : s.env t = s'.env t := h.2 t (by
        unfold dstAt at ht
        rw [Array.getElem?_toList] at ht
        simp only [Oper.looksAt, hg]
        simp
        right
        cases e : ops[j]? with
        | none => rw [e] at ht; cases ht
        | some p => rw [e] at ht; simpa using ht)
      rw [← h1, ← hh]
      split
      · rename_i v hv
        have e1 := litS_ok (s := s) (x := .tmp t) hv
        have e2 := litS_ok (s := s') (x := .tmp t) (h1 ▸ hv)
        cases v with
        | true =>
          simp only [if_true, e1, e2]
          cases want with
          | true => exact opE_fr h hn
          | false => exact oPut_fr hn _ _ _
        | false =>
          simp only [Bool.false_eq_true, if_false, e1, e2]
          cases want with
          | true => exact oPut_fr hn _ _ _
          | false => exact opE_fr h hn
      · exact oPut_fr hn _ _ _
      · exact .none
end
end Go.Fs

set_option linter.unusedVariables false
set_option linter.constructorNameAsVariable false
namespace Go.Fs
open Go.RowKit

structure PlanOK (ops : Array Oper) (prs : List (Nat × Nat)) : Prop where
  dst : ∀ (i : Nat) (o : Oper), ops[i]? = some o → wrB o = true ∨ ∃ d, o.dst = some d
  back : ∀ (i : Nat) (o : Oper), ops[i]? = some o → ∀ e ∈ o.after, Region.binds .any e = true → e.on < i
  ne : ∀ (i j : Nat) (o p : Oper) (t : Nat), ops[i]? = some o → ops[j]? = some p → o.dst = some t → p.dst = some t → i = j
  look : ∀ (i j : Nat) (o p : Oper) (t : Nat), ops[i]? = some o → ops[j]? = some p → i ≠ j → p.dst = some t → t ∈ o.looksAt ops → onB o j = true ∨ onB p i = true
  chain : ∀ (i j : Nat) (o p : Oper), ops[i]? = some o → ops[j]? = some p → i ≠ j → wrB o = true → wrB p = true → depN ops ops.size i j = true ∨ depN ops ops.size j i = true
  chk : ∀ (i : Nat) (o : Oper), ops[i]? = some o → wrB o = false → ∀ q, q ≤ ops.size → loW ops i ≤ q → q ≤ hiW ops i → q = rankW ops i ∨ ∃ k, posW ops q = some k ∧ (i, k) ∈ prs
theorem planB_ok {ops : Array Oper} {prs : List (Nat × Nat)} (h : planB ops prs = true) : PlanOK ops prs := by
  simp only [planB, List.all_eq_true, List.mem_range] at h
  have at1 := fun (i : Nat) (o : Oper) (ho : ops[i]? = some o) => by
    have := h i (lt_of_some ho)
    rw [ho] at this
    simp only [Bool.and_eq_true, List.all_eq_true, List.mem_range] at this
    exact this
  have at2 : ∀ (i j : Nat) (o p : Oper), ops[i]? = some o → ops[j]? = some p → i ≠ j → ((p.dst != o.dst || p.dst.isNone) = true ∧ (match p.dst with | some t => !(o.looksAt ops).contains t || onB o j || onB p i | none => true) = true) ∧ (!(wrB o && wrB p) || depN ops ops.size i j || depN ops ops.size j i) = true := by
    intro i j o p ho hp hne
    have := (at1 i o ho).1.2 j (lt_of_some hp)
    rw [hp] at this
    simp only [Bool.or_eq_true (i == j), beq_iff_eq, hne, false_or, Bool.and_eq_true] at this
    exact this
  refine ⟨fun i o ho => ?_, fun i o ho e he hb => ?_, fun i j o p t ho hp h1 h2 => ?_, fun i j o p t ho hp hne ht hm => ?_, fun i j o p ho hp hne w1 w2 => ?_, fun i o ho hw q hq h1 h2 => ?_⟩
  · have := (at1 i o ho).1.1.1
    simp only [Bool.or_eq_true] at this
    rcases this with h | h
    · exact .inl h
    · exact .inr (Option.isSome_iff_exists.1 h)
  · have := (at1 i o ho).1.1.2 e (by simpa using he)
    simp only [hb, Bool.not_true, Bool.false_or, decide_eq_true_eq] at this
    exact this
  · by_cases e : i = j
    · exact e
    · have := (at2 i j o p ho hp e).1.1
      rw [h1, h2] at this
      simp at this
  · have := (at2 i j o p ho hp hne).1.2
    rw [ht] at this
    simp only [Bool.or_eq_true, Bool.not_eq_true', List.contains_eq_mem, decide_eq_false_iff_not] at this
    rcases this with (h1 | h1) | h1
    · exact absurd hm h1
    · exact .inl h1
    · exact .inr h1
  · have := (at2 i j o p ho hp hne).2
    simp only [w1, w2, Bool.and_self, Bool.not_true, Bool.false_or, Bool.or_eq_true] at this
    exact this
  · have := (at1 i o ho).2
    simp only [hw, Bool.or_eq_true, Bool.false_eq_true, false_or, List.all_eq_true, List.mem_range] at this
    have := this q (by omega)
    simp only [h1, h2, decide_true, Bool.and_self, Bool.not_true, Bool.false_eq_true, false_or, beq_iff_eq] at this
    rcases this with h | h
    · exact .inl h
    · split at h
      · rename_i k hk
        exact .inr ⟨k, hk, by simpa using h⟩
      · cases h
theorem depN_lt {ops : Array Oper} (hb : ∀ (i : Nat) (o : Oper), ops[i]? = some o → ∀ e ∈ o.after, Region.binds .any e = true → e.on < i) : ∀ (n j i : Nat), depN ops n j i = true → j < i
  | 0, j, i, h => by cases h
  | n + 1, j, i, h => by
    simp only [depN] at h
    split at h
    · rename_i o ho
      rw [Array.getElem?_toList] at ho
      simp only [List.any_eq_true, Bool.and_eq_true, Bool.or_eq_true, beq_iff_eq] at h
      obtain ⟨e, he, hbd, h⟩ := h
      have h1 := hb i o ho e (by simpa using he) hbd
      rcases h with rfl | h
      · exact h1
      · exact Nat.lt_trans (depN_lt hb n j e.on h) h1
    · cases h

/-! #### the text's own run -/
theorem trY_len {A : Env} {ops : Array Oper} : ∀ {os : List Oper} {s : St} {L : List St}, trY A ops os s = some L → L.length = os.length + 1 ∧ L[0]? = some s ∧ ∀ (i : Nat) (o : Oper), os[i]? = some o → ∃ s1 s2, L[i]? = some s1 ∧ L[i + 1]? = some s2 ∧ stepY A ops o s1 = some s2
  | [], s, L, h => by cases h; exact ⟨rfl, rfl, fun i o h => by simp at h⟩
  | o :: os, s, L, h => by
    obtain ⟨s1, h1, h⟩ := bind_inv h
    obtain ⟨L', h2, rfl⟩ := Option.map_eq_some_iff.1 h
    obtain ⟨e1, e2, e3⟩ := trY_len h2
    refine ⟨by simp [e1], rfl, fun i p hp => ?_⟩
    cases i with
    | zero =>
      simp at hp
      subst hp
      exact ⟨s, s1, rfl, by simpa using e2, h1⟩
    | succ i =>
      obtain ⟨a, b, k1, k2, k3⟩ := e3 i p (by simpa using hp)
      exact ⟨a, b, by simpa using k1, by simpa using k2, k3⟩
theorem stepY_fr {A : Env} {ops : Array Oper} {o : Oper} {s s1 : St} (hd : wrB o = true ∨ ∃ d, o.dst = some d) (h : stepY A ops o s = some s1) : ∃ av H, s1 = putS s o.dst av H ∧ (wrB o = false → H = s.heap ∧ ∃ d, o.dst = some d ∧ d < s.n ∧ qGE A ops.toList o s = some av) ∧ (wrB o = true → opG A ops.toList o s = some s1) := by
  unfold stepY at h
  split at h
  · rename_i hw
    obtain ⟨av, H, e1, e2⟩ := opG_fr (A := A) (ops := ops) (o := o) (s := s) (s' := s) ⟨rfl, fun _ _ => rfl⟩ rfl s1 h
    exact ⟨av, H, e1, fun hf => (by rw [hw] at hf; cases hf), fun _ => h⟩
  · rename_i hw
    split at h
    · rename_i d e
      obtain ⟨h1, h⟩ := ite_inv h
      obtain ⟨av, h2, h⟩ := bind_inv h
      cases h
      refine ⟨av, s.heap, ?_, fun _ => ⟨rfl, d, e, h1, h2⟩, fun hf => absurd hf hw⟩
      rw [e]; rfl
    · cases h
end Go.Fs

set_option linter.unusedVariables false
set_option linter.constructorNameAsVariable false
namespace Go.Fs
open Go.RowKit

theorem rankW_succ (ops : Array Oper) (i : Nat) : rankW ops (i + 1) = rankW ops i + if wrAt ops i = true then 1 else 0 := by
  unfold rankW
  rw [List.range_succ, List.countP_append]
  simp [List.countP_cons]
theorem rankW_mono (ops : Array Oper) : ∀ {i j : Nat}, i ≤ j → rankW ops i ≤ rankW ops j
  | i, 0, h => by obtain rfl : i = 0 := by omega
                  exact Nat.le_refl _
  | i, j + 1, h => by
    by_cases e : i = j + 1
    · subst e; exact Nat.le_refl _
    · have := rankW_mono ops (i := i) (j := j) (by omega)
      rw [rankW_succ]
      omega
theorem countP_le_len {α : Type} (p : α → Bool) (l : List α) : l.countP p ≤ l.length := List.countP_le_length
/-- Writing operations that are listed, counted. -/
def cntW (ops : Array Oper) (L : Nat → Bool) : Nat := (List.range ops.size).countP fun j => wrAt ops j && L j
theorem cntW_lt (ops : Array Oper) (i : Nat) (hi : i ≤ ops.size) : cntW ops (fun j => decide (j < i)) = rankW ops i := by
  unfold cntW rankW
  have h : List.range ops.size = List.range i ++ List.range' i (ops.size - i) := by
    rw [List.range_eq_range', List.range_eq_range']
    have := List.range'_append_1 (s := 0) (m := i) (n := ops.size - i)
    simp only [Nat.zero_add] at this
    rw [this]
    congr 1
    omega
  rw [h, List.countP_append]
  have e1 : (List.range i).countP (fun j => wrAt ops j && decide (j < i)) = (List.range i).countP (wrAt ops) := by
    refine List.countP_congr fun j hj => ?_
    simp [List.mem_range.1 hj]
  have e2 : (List.range' i (ops.size - i)).countP (fun j => wrAt ops j && decide (j < i)) = 0 := by
    rw [List.countP_eq_zero]
    intro j hj
    have := (List.mem_range'_1.1 hj).1
    simp
    intro _
    omega
  rw [e1, e2, Nat.add_zero]
theorem cntW_congr {ops : Array Oper} {L L' : Nat → Bool} (h : ∀ j, j < ops.size → wrAt ops j = true → L j = L' j) : cntW ops L = cntW ops L' := by
  unfold cntW
  refine List.countP_congr fun j hj => ?_
  have hj := List.mem_range.1 hj
  cases hw : wrAt ops j with
  | false => simp
  | true => simp [h j hj hw]

theorem putS_env (s : St) (dst : Option Nat) (av : AV) (H : Nat → Option Ob) (t : Nat) : (putS s dst av H).env t = if dst = some t then av else s.env t := by
  cases dst with
  | none => simp [putS]
  | some d =>
    by_cases k : t = d
    · subst k; simp [putS, upd]
    · have : ¬ d = t := fun e => k e.symm
      simp [putS, upd, k, this]
section
variable {A : Env} {ops : Array Oper} {s : St} {Ls : List St}
/-- A state behind some of the operations. -/
structure HalfY (ops : Array Oper) (s : St) (vals : Nat → AV) (hp : Nat → Nat → Option Ob) (L : Nat → Bool) (s' : St) : Prop where
  n : s'.n = s.n
  heap : s'.heap = hp (cntW ops L)
  done : ∀ (j : Nat) (o : Oper) (d : Nat), L j = true → ops[j]? = some o → o.dst = some d → s'.env d = vals j
  rest : ∀ (t : Nat), (∀ (j : Nat) (o : Oper), L j = true → ops[j]? = some o → o.dst ≠ some t) → s'.env t = s.env t
theorem HalfY.same {vals : Nat → AV} {hp : Nat → Nat → Option Ob} {L L' : Nat → Bool} {s1 s2 : St} (h1 : HalfY ops s vals hp L s1) (h2 : HalfY ops s vals hp L' s2) (hL : ∀ (j : Nat), j < ops.size → L j = L' j) : s1 = s2 := by
  obtain ⟨n1, e1, k1⟩ := s1
  obtain ⟨n2, e2, k2⟩ := s2
  have hn : n1 = n2 := h1.n.trans h2.n.symm
  have hk : k1 = k2 := h1.heap.trans ((congrArg hp (cntW_congr fun j hj _ => hL j hj)).trans h2.heap.symm)
  have he : e1 = e2 := by
    funext t
    by_cases h : ∃ (j : Nat) (o : Oper), L j = true ∧ ops[j]? = some o ∧ o.dst = some t
    · obtain ⟨j, o, hj, ho, hd⟩ := h
      exact (h1.done j o t hj ho hd).trans (h2.done j o t (by rw [← hL j (lt_of_some ho)]; exact hj) ho hd).symm
    · have a1 := h1.rest t fun j o hj ho hd => h ⟨j, o, hj, ho, hd⟩
      have a2 := h2.rest t fun j o hj ho hd => h ⟨j, o, by rw [hL j (lt_of_some ho)]; exact hj, ho, hd⟩
      exact a1.trans a2.symm
  rw [hn, hk, he]
theorem HalfY.put {prs : List (Nat × Nat)} (hq : PlanOK ops prs) {vals : Nat → AV} {hp : Nat → Nat → Option Ob} {L L' : Nat → Bool} {s' : St} (h : HalfY ops s vals hp L s') {i : Nat} {o : Oper} (ho : ops[i]? = some o) {av : AV} {H : Nat → Option Ob}
    (hv : ∀ d, o.dst = some d → av = vals i) (hH : H = hp (cntW ops L')) (hL : ∀ j, L' j = true ↔ (L j = true ∨ j = i)) : HalfY ops s vals hp L' (putS s' o.dst av H) := by
  have hn : (putS s' o.dst av H).n = s.n := by unfold putS; split <;> exact h.n
  have hh : (putS s' o.dst av H).heap = H := by unfold putS; split <;> rfl
  have he : ∀ t, (putS s' o.dst av H).env t = if o.dst = some t then av else s'.env t := putS_env s' o.dst av H
  refine ⟨hn, hh.trans hH, fun j p d hj hp' hd => ?_, fun t ht => ?_⟩
  · rw [he]
    by_cases e : j = i
    · subst e
      rw [ho] at hp'; cases hp'
      rw [if_pos hd]; exact hv d hd
    · have hj := ((hL j).1 hj).resolve_right e
      rw [if_neg (fun e2 => e (hq.ne j i p o d hp' ho hd e2))]
      exact h.done j p d hj hp' hd
  · rw [he, if_neg (ht i o ((hL i).2 (.inr rfl)) ho)]
    exact h.rest t fun j p hj hp' => ht j p ((hL j).2 (.inl hj)) hp'

theorem any_plan {prs : List (Nat × Nat)} (hq : PlanOK ops prs) (ht : trY A ops ops.toList s = some Ls) (hc : ∀ x ∈ prs, chkY A ops Ls x) {s'' : St} (hfin : Ls[ops.size]? = some s'') {K : St → Prop} (hK : K s'') :
    awpAny A ops K ops.size (Array.replicate ops.size false) s := by
  obtain ⟨hlen, h0, hst⟩ := trY_len ht
  have hlen : Ls.length = ops.size + 1 := by rw [hlen, Array.length_toList]
  -- the states, the values, the heaps
  let st : Nat → St := fun i => Ls.getD i s
  have st_get : ∀ {i : Nat} {x : St}, Ls[i]? = some x → st i = x := fun {i x} h => by show Ls.getD i s = x; rw [List.getD_eq_getElem?_getD, h]; rfl
  have step : ∀ (i : Nat) (o : Oper), ops[i]? = some o → stepY A ops o (st i) = some (st (i + 1)) := fun i o ho => by
    obtain ⟨a, b, k1, k2, k3⟩ := hst i o (by rw [Array.getElem?_toList]; exact ho)
    rw [st_get k1, st_get k2]; exact k3
  let vals : Nat → AV := fun i => match ops[i]? with
    | some o => (match o.dst with
      | some d => (st (i + 1)).env d
      | none => AV.x)
    | none => AV.x
  have vals_eq : ∀ {i d : Nat} {o : Oper}, ops[i]? = some o → o.dst = some d → vals i = (st (i + 1)).env d := fun {i d o} ho hd => by
    show (match ops[i]? with | some o => (match o.dst with | some d => (st (i + 1)).env d | none => AV.x) | none => AV.x) = _
    rw [ho]; simp only [hd]
  let hp : Nat → Nat → Option Ob := fun p => (st ((posW ops p).getD 0)).heap
  have frs : ∀ (i : Nat) (o : Oper), ops[i]? = some o → ∃ av H, st (i + 1) = putS (st i) o.dst av H ∧ (wrB o = false → H = (st i).heap ∧ ∃ d, o.dst = some d ∧ d < (st i).n ∧ qGE A ops.toList o (st i) = some av) ∧ (wrB o = true → opG A ops.toList o (st i) = some (st (i + 1))) :=
    fun i o ho => stepY_fr (hq.dst i o ho) (step i o ho)
  have pheap : ∀ (x : St) (dst : Option Nat) (av : AV) (H : Nat → Option Ob), (putS x dst av H).heap = H := fun x dst av H => by unfold putS; split <;> rfl
  -- where nothing was written the heap is as it was
  have same : ∀ (j i : Nat), i ≤ j → j ≤ ops.size → rankW ops i = rankW ops j → (st i).heap = (st j).heap := by
    intro j
    induction j with
    | zero => intro i h _ _; obtain rfl : i = 0 := by omega
              rfl
    | succ j ih =>
      intro i h hj hr
      by_cases e : i = j + 1
      · subst e; rfl
      have h1 := rankW_mono ops (i := i) (j := j) (by omega)
      have h2 := rankW_succ ops j
      have hw : ¬ wrAt ops j = true := fun hw => by rw [if_pos hw] at h2; omega
      rw [if_neg hw] at h2
      have ho : ops[j]? = some ops[j] := Array.getElem?_eq_getElem (by omega)
      obtain ⟨av, H, e1, e2, _⟩ := frs j _ ho
      have hwb : wrB ops[j] = false := by
        unfold wrAt at hw
        rw [ho] at hw
        simpa using hw
      rw [ih i (by omega) (by omega) (by omega), e1, pheap]
      exact (e2 hwb).1.symm
  have hp_eq : ∀ i, i ≤ ops.size → hp (rankW ops i) = (st i).heap := by
    intro i hi
    have : ∃ k, posW ops (rankW ops i) = some k ∧ k ≤ i ∧ rankW ops k = rankW ops i := by
      unfold posW
      have hs : ((List.range (ops.size + 1)).find? fun k => rankW ops k == rankW ops i).isSome = true := by
        rw [List.find?_isSome]
        exact ⟨i, List.mem_range.2 (by omega), by simp⟩
      obtain ⟨k, hk⟩ := Option.isSome_iff_exists.1 hs
      have h1 : rankW ops k = rankW ops i := by simpa using List.find?_some hk
      refine ⟨k, hk, ?_, h1⟩
      obtain ⟨_, as, bs, h3, h4⟩ := List.find?_eq_some_iff_append.1 hk
      apply Nat.le_of_not_lt
      intro hlt
      have hmem : i ∈ as := by
        have hl : as.length = k := by
          have h5 := congrArg (fun l => l[as.length]?) h3
          simp only [List.getElem?_append_right (Nat.le_refl _), Nat.sub_self, List.getElem?_cons_zero] at h5
          have h6 := List.getElem?_eq_some_iff.1 h5
          simpa using h6.2
        have h5 := congrArg (fun l => l[i]?) h3
        rw [List.getElem?_append_left (by omega), List.getElem?_range (by omega)] at h5
        exact List.mem_of_getElem? h5.symm
      have := h4 i hmem
      simp at this
    obtain ⟨k, h1, h2, h3⟩ := this
    show (st ((posW ops (rankW ops i)).getD 0)).heap = _
    rw [h1]
    exact same i k h2 hi h3
  -- the text's own states
  have half : ∀ i, i ≤ ops.size → HalfY ops s vals hp (fun j => decide (j < i)) (st i) := by
    intro i
    induction i with
    | zero =>
      intro _
      have : st 0 = s := st_get h0
      rw [this]
      refine ⟨rfl, ?_, fun j o d hj => by simp at hj, fun t _ => rfl⟩
      rw [cntW_lt ops 0 (Nat.zero_le _), hp_eq 0 (Nat.zero_le _), this]
    | succ i ih =>
      intro hi
      have ho : ops[i]? = some ops[i] := Array.getElem?_eq_getElem (by omega)
      obtain ⟨av, H, e1, e2, e3⟩ := frs i _ ho
      have hL : ∀ j, (fun j => decide (j < i + 1)) j = true ↔ ((fun j => decide (j < i)) j = true ∨ j = i) := fun j => by simp; omega
      have := (ih (by omega)).put hq ho (L' := fun j => decide (j < i + 1)) (av := av) (H := H) (fun d hd => ?_) ?_ hL
      · rw [e1]; exact this
      · rw [vals_eq ho hd, e1, hd]
        simp [putS, upd]
      · rw [cntW_lt ops (i + 1) hi, hp_eq (i + 1) hi, e1, pheap]
  have hst'' : st ops.size = s'' := st_get hfin
  -- any order
  have full : ∀ (listed : Array Bool), listed.size = ops.size → Region.ready .any ops listed = [] → ∀ j, j < ops.size → listed.getD j false = true := by
    intro listed hl hr j
    induction j using Nat.strongRecOn with
    | _ j ih =>
      intro hj
      cases hb : listed.getD j false with
      | true => rfl
      | false =>
        exfalso
        have ho : ops[j]? = some ops[j] := Array.getElem?_eq_getElem hj
        have hm : j ∈ Region.ready .any ops listed := mem_ready.2 ⟨by
          have : j < listed.size := by omega
          simp [this] at hb ⊢; exact hb, ops[j], ho, fun e he hbd => by
          have := hq.back j _ ho e he hbd
          exact ih e.on this (by omega)⟩
        rw [hr] at hm
        cases hm
  have last : ∀ (listed : Array Bool) (s' : St), listed.size = ops.size → HalfY ops s vals hp (fun j => listed.getD j false) s' → Region.ready .any ops listed = [] → K s' := by
    intro listed s' hl hh hr
    have := hh.same (half ops.size (Nat.le_refl _)) fun j hj => by simp [full listed hl hr j hj, hj]
    rw [this, hst'']; exact hK
  have main : ∀ (n : Nat) (listed : Array Bool) (s' : St), listed.size = ops.size → HalfY ops s vals hp (fun j => listed.getD j false) s' → (∀ (j : Nat) (o : Oper), ops[j]? = some o → listed.getD j false = true → ∀ e ∈ o.after, Region.binds .any e = true → listed.getD e.on false = true) →
      (List.range ops.size).countP (fun j => !listed.getD j false) ≤ n → awpAny A ops K n listed s' := by
    intro n
    induction n with
    | zero =>
      intro listed s' hl hh hcl hn
      have hr : Region.ready .any ops listed = [] := by
        refine List.eq_nil_iff_forall_not_mem.2 fun j hj => ?_
        obtain ⟨h1, o, ho, _⟩ := mem_ready.1 hj
        have hz : (List.range ops.size).countP (fun j => !listed.getD j false) = 0 := by omega
        rw [List.countP_eq_zero] at hz
        have := hz j (List.mem_range.2 (lt_of_some ho))
        have hlt : j < listed.size := by rw [hl]; exact lt_of_some ho
        simp [hlt] at this h1
        rw [h1] at this; cases this
      exact ⟨hr, last listed s' hl hh hr⟩
    | succ n ih =>
      intro listed s' hl hh hcl hn
      refine ⟨last listed s' hl hh, fun i hi => ?_⟩
      obtain ⟨hun, o, ho, hall⟩ := mem_ready.1 hi
      have hil : i < listed.size := by rw [hl]; exact lt_of_some ho
      have hio := lt_of_some ho
      have hun' : listed.getD i false = false := by simp [hil] at hun ⊢; exact hun
      have ho' : ops.toList[i]? = some o := by rw [Array.getElem?_toList]; exact ho
      rw [ho']
      have hsi := half i (by omega)
      have henv : ∀ t ∈ o.looksAt ops, (st i).env t = s'.env t := by
        intro t ht
        by_cases hw : ∃ (j : Nat) (p : Oper), ops[j]? = some p ∧ p.dst = some t
        · obtain ⟨j, p, hp', hdp⟩ := hw
          have uniq : ∀ (k : Nat) (r : Oper), ops[k]? = some r → r.dst = some t → k = j := fun k r hr hdr => hq.ne k j r p t hr hp' hdr hdp
          by_cases e : i = j
          · subst e
            have a1 := hsi.rest t fun k r hk hr hdr => by have := uniq k r hr hdr; simp at hk; omega
            have a2 := hh.rest t fun k r hk hr hdr => by
              have := uniq k r hr hdr
              subst this
              rw [hun'] at hk; cases hk
            exact a1.trans a2.symm
          · rcases hq.look i j o p t ho hp' e hdp ht with h1 | h1
            · obtain ⟨ed, he, hb, rfl⟩ := onB_spec h1
              have b1 := hq.back i o ho ed he hb
              have a1 := hsi.done ed.on p t (by simpa using b1) hp' hdp
              have a2 := hh.done ed.on p t (hall ed he hb) hp' hdp
              exact a1.trans a2.symm
            · obtain ⟨ed, he, hb, rfl⟩ := onB_spec h1
              have b1 := hq.back j p hp' ed he hb
              have a1 := hsi.rest t fun k r hk hr hdr => by have := uniq k r hr hdr; simp at hk; omega
              have a2 := hh.rest t fun k r hk hr hdr => by
                have := uniq k r hr hdr
                subst this
                have := hcl k p hp' hk ed he hb
                rw [hun'] at this; cases this
              exact a1.trans a2.symm
        · have a1 := hsi.rest t fun k r _ hr hdr => hw ⟨k, r, hr, hdr⟩
          have a2 := hh.rest t fun k r _ hr hdr => hw ⟨k, r, hr, hdr⟩
          exact a1.trans a2.symm
      have hget : ∀ j, (listed.setIfInBounds i true).getD j false = true ↔ (listed.getD j false = true ∨ j = i) := fun j => by
        by_cases e : j = i
        · subst e; simp [hil]
        · rw [getD_set_ne false (Ne.symm e)]; simp [e]
      have deps : ∀ j, depN ops ops.size j i = true → listed.getD j false = true := fun j h => dep_listed hcl _ _ _ h fun p hp' => by rw [ho] at hp'; cases hp'; exact hall
      have ndeps : ∀ j, listed.getD j false = true → ¬ depN ops ops.size i j = true := fun j hj h => by
        have hjs : j < ops.size := by
          apply Classical.byContradiction
          intro hx
          have : listed.getD j false = false := by simp [show ¬ j < listed.size by omega]
          rw [this] at hj; cases hj
        have := dep_listed hcl _ _ _ h fun p hp' => hcl j p hp' hj
        rw [hun'] at this; cases this
      have next : ∀ {s1 : St}, HalfY ops s vals hp (fun j => (listed.setIfInBounds i true).getD j false) s1 → awpAny A ops K n (listed.setIfInBounds i true) s1 := by
        intro s1 h1
        refine ih _ _ (by simpa using hl) h1 (fun j p hp' hj e he hb => ?_) ?_
        · rw [hget] at hj ⊢
          rcases hj with hj | rfl
          · exact .inl (hcl j p hp' hj e he hb)
          · rw [ho] at hp'; cases hp'
            exact .inl (hall e he hb)
        · have := countP_lt (p := fun j => !(listed.setIfInBounds i true).getD j false) (q := fun j => !listed.getD j false) (l := List.range ops.size) (fun j _ hj => by
            cases hb : listed.getD j false with
            | false => rfl
            | true => rw [Bool.not_eq_true', ← Bool.not_eq_true] at hj; exact absurd ((hget j).2 (.inl hb)) hj) ⟨i, List.mem_range.2 hio, by simpa using hun', by simp [hil]⟩
          omega
      obtain ⟨av, H, e1, e2, e3⟩ := frs i o ho
      have hvv : ∀ d, o.dst = some d → av = vals i := fun d hd => by
        rw [vals_eq ho hd, e1, hd]; simp [putS, upd]
      cases hw : wrB o with
      | true =>
        have hwi : wrAt ops i = true := by unfold wrAt; rw [ho]; exact hw
        have hcnt : cntW ops (fun j => listed.getD j false) = rankW ops i := by
          rw [← cntW_lt ops i (by omega)]
          refine cntW_congr fun j hj hwj => ?_
          have hoj : ops[j]? = some ops[j] := Array.getElem?_eq_getElem hj
          by_cases e : j = i
          · subst e; simp [hun']
          have hwbj : wrB ops[j] = true := by unfold wrAt at hwj; rw [hoj] at hwj; exact hwj
          rcases hq.chain i j o _ ho hoj (fun h => e h.symm) hw hwbj with h | h
          · have hlt := depN_lt hq.back _ _ _ h
            have : listed.getD j false = false := by
              cases hb : listed.getD j false with
              | false => rfl
              | true => exact absurd h (ndeps j hb)
            simp [this]; omega
          · have hlt := depN_lt hq.back _ _ _ h
            simp [deps j h, hlt]
        have hheap : (st i).heap = s'.heap := by rw [hh.heap, hcnt, hp_eq i (by omega)]
        have hns : (st i).n = s'.n := hsi.n.trans hh.n.symm
        obtain ⟨av2, H2, f1, f2⟩ := opG_fr (A := A) ⟨hheap, henv⟩ hns _ (e3 hw)
        refine opG_ok f2 (next (hh.put hq ho (fun d hd => ?_) ?_ hget))
        · rw [vals_eq ho hd, f1, hd]; simp [putS, upd]
        · have hc2 : cntW ops (fun j => (listed.setIfInBounds i true).getD j false) = rankW ops (i + 1) := by
            rw [← cntW_lt ops (i + 1) (by omega)]
            refine cntW_congr fun j hj hwj => ?_
            have hoj : ops[j]? = some ops[j] := Array.getElem?_eq_getElem hj
            by_cases e : j = i
            · subst e; simp [hil]
            have hwbj : wrB ops[j] = true := by unfold wrAt at hwj; rw [hoj] at hwj; exact hwj
            rw [getD_set_ne false (Ne.symm e)]
            rcases hq.chain i j o _ ho hoj (fun h => e h.symm) hw hwbj with h | h
            · have hlt := depN_lt hq.back _ _ _ h
              have : listed.getD j false = false := by
                cases hb : listed.getD j false with
                | false => rfl
                | true => exact absurd h (ndeps j hb)
              rw [this]; simp; omega
            · have hlt := depN_lt hq.back _ _ _ h
              rw [deps j h]; simp; omega
          rw [hc2, hp_eq (i + 1) (by omega), f1, pheap]
      | false =>
        obtain ⟨eH, d, hd, hlt, hqe⟩ := e2 hw
        have hwi : wrAt ops i = false := by unfold wrAt; rw [ho]; exact hw
        have hlo : loW ops i ≤ cntW ops (fun j => listed.getD j false) := by
          unfold loW cntW
          refine List.countP_mono_left fun j _ h => ?_
          simp only [Bool.and_eq_true] at h ⊢
          exact ⟨h.1, deps j h.2⟩
        have hhi : cntW ops (fun j => listed.getD j false) ≤ hiW ops i := by
          unfold hiW cntW
          refine List.countP_mono_left fun j _ h => ?_
          simp only [Bool.and_eq_true, Bool.not_eq_true'] at h ⊢
          exact ⟨h.1, by simpa using ndeps j h.2⟩
        have hsz : cntW ops (fun j => listed.getD j false) ≤ ops.size := by
          have := countP_le_len (fun j => wrAt ops j && listed.getD j false) (List.range ops.size)
          simpa [cntW] using this
        have hval : qGE A ops.toList o s' = some (vals i) := by
          rcases hq.chk i o ho hw _ hsz hlo hhi with h | ⟨k, hk, hm⟩
          · have hheap : (st i).heap = s'.heap := by rw [hh.heap, h, hp_eq i (by omega)]
            rw [← qGE_congr (s := st i) ⟨hheap, henv⟩, hqe, hvv d hd]
          · have := hc _ hm
            unfold chkY at this
            simp only [ho] at this
            split at this
            · rename_i o2 x1 x2 x3 g1 g2 g3 g4
              cases g1
              simp only [hd] at this
              have a1 := st_get g2
              have a2 := st_get g3
              have a3 := st_get g4
              have hheap : x3.heap = s'.heap := by
                rw [hh.heap, ← a3]
                show _ = (st ((posW ops _).getD 0)).heap
                rw [hk]; rfl
              have hag : Agree ops o { n := x1.n, env := x1.env, heap := x3.heap } s' := ⟨hheap, fun t ht => by rw [← a1]; exact henv t ht⟩
              rw [← qGE_congr hag, this, vals_eq ho hd, a2]
            · exact this.elim
        have hlt' : d < s'.n := by rw [hh.n, ← hsi.n]; exact hlt
        refine qG_awp hd hlt' (qGE_ok hval ?_)
        have hc2 : cntW ops (fun j => (listed.setIfInBounds i true).getD j false) = cntW ops (fun j => listed.getD j false) := by
          refine cntW_congr fun j hj hwj => ?_
          by_cases e : j = i
          · subst e; rw [hwi] at hwj; cases hwj
          · rw [getD_set_ne false (Ne.symm e)]
        have := hh.put hq ho (L' := fun j => (listed.setIfInBounds i true).getD j false) (av := vals i) (H := s'.heap) (fun _ _ => rfl) (by rw [hc2]; exact hh.heap) hget
        have hps : putS s' o.dst (vals i) s'.heap = { n := s'.n, env := upd s'.env d (vals i), heap := s'.heap } := by rw [hd]; rfl
        rw [hps] at this
        exact next this
  refine main ops.size (Array.replicate ops.size false) s (by simp) ?_ (fun j o ho hj => ?_) ?_
  · have h00 := half 0 (Nat.zero_le _)
    have : st 0 = s := st_get h0
    rw [this] at h00
    refine ⟨h00.n, ?_, fun j o d hj ho => ?_, fun t _ => rfl⟩
    · rw [h00.heap]
      congr 1
      refine cntW_congr fun j hj _ => ?_
      simp [hj]
    · have hj' := lt_of_some ho
      simp [hj'] at hj
  · have hj' := lt_of_some ho
    simp [hj'] at hj
  · exact Nat.le_trans List.countP_le_length (by simp)
end
end Go.Fs
