/- A part of the proof: an evaluator of the program's code over plain data, proved sound, and walks of the program's functions by it. No conditions beyond those in the theorems. -/
import Derived.Test.YtbgbnmghhmfihaaLawGp11
set_option linter.unusedVariables false
set_option linter.unusedSimpArgs false
set_option linter.constructorNameAsVariable false
set_option linter.unusedSectionVars false
set_option linter.defProp false
set_option linter.unusedVariables false
set_option linter.constructorNameAsVariable false
namespace Go.Fs
open Go.RowKit
section
variable {P : Program} {B : Ctx} {A : Env} {lv : Nat → List Nat}
/-- From a state that is known to be this one. -/
def At (B : Ctx) (s : St) (Q : Act → World → Prop) : Prop := ∀ (G : Nat → GI) (a : Act) (w : World), RelG B G s a w → Q a w
theorem At.sem {aa : AV} (hA : B.aa = aa) {s s' : St} (h : Sem aa s s') {Q : Act → World → Prop} (hq : At B s' Q) : At B s Q := fun G a w hr => by
  obtain ⟨G', hr'⟩ := h B G a w hA hr
  exact hq G' a w hr'
/-- A part of a region, and then what is left of it. -/
theorem seg_ok (hT : A.T.ok P = true) (hS : SumOK P A.S) {ops : Array Oper} {Q : Exit → Act → World → Prop} {rest : List Nat} {s0 : St} (hrest : At B s0 (wpOps P ops Q rest)) :
    ∀ (os pre post : List Oper) (s : St), ops.toList = pre ++ (os ++ post) → awpOps A ops.toList (fun s => s = s0) os s → At B s (wpOps P ops Q (List.range' pre.length os.length ++ rest))
  | [], pre, post, s, e, h => by
    have h : s = s0 := h
    subst h
    exact hrest
  | o :: os, pre, post, s, e, h => by
    intro G a w hr
    have ho : ops[pre.length]? = some o := by rw [← Array.getElem?_toList, e]; simp
    have hl : (pre ++ [o]).length = pre.length + 1 := by simp
    have ih := seg_ok hT hS hrest os (pre ++ [o]) post
    rw [hl] at ih
    show wpOps P ops Q (List.range' pre.length (os.length + 1) ++ rest) a w
    rw [List.range'_succ, List.cons_append, wpOps_cons]
    refine awpG_ok hT hS (B := B) hr ho (K := awpOps A ops.toList (fun s => s = s0) os) ?_ h
    intro G1 s1 a1 w1 hr1 h1
    exact ih s1 (by rw [e]; simp) h1 G1 a1 w1 hr1
theorem gsE_ok (hT : A.T.ok P = true) (hS : SumOK P A.S) (hA : B.aa = A.aa) {ops : Array Oper} {Q : Exit → Act → World → Prop} : ∀ (L : List (List Oper)) (pre : List Oper) (s s' : St), ops.toList = pre ++ L.flatten → gsE A ops.toList L s = some s' → At B s' (wpOps P ops Q []) →
    At B s (wpOps P ops Q (List.range' pre.length L.flatten.length))
  | [], pre, s, s', e, h, hq => by
    cases h
    exact hq
  | os :: L, pre, s, s', e, h, hq => by
    have hsplit : List.range' pre.length (os :: L).flatten.length = List.range' pre.length os.length ++ List.range' (pre ++ os).length L.flatten.length := by
      rw [List.flatten_cons, List.length_append, List.length_append, List.range'_append_1]
    rw [hsplit]
    have ih := gsE_ok hT hS hA (ops := ops) (Q := Q) L (pre ++ os)
    have plain : (opsE A ops.toList os s).bind (gsE A ops.toList L) = some s' → At B s (wpOps P ops Q (List.range' pre.length os.length ++ List.range' (pre ++ os).length L.flatten.length)) := by
      intro h
      obtain ⟨s1, h1, h2⟩ := bind_inv h
      exact seg_ok hT hS (ih s1 s' (by rw [e]; simp) h2 hq) os pre L.flatten s (by rw [e]; simp) (opsE_ok h1 rfl)
    unfold gsE at h
    split at h
    · split at h
      · rename_i t _
        obtain ⟨v, h1, h2⟩ := bind_inv h
        obtain ⟨s0, h3, h4⟩ := bind_inv h1
        have := ih _ s' (by rw [e]; simp) h2 hq
        exact seg_ok hT hS (At.sem hA (sem_gd h3 h4) this) os pre L.flatten s (by rw [e]; simp) (qsE_ops h3 rfl)
      · exact plain h
    · exact plain h
/-- The run of the mind is a run of the code. -/
theorem ev_ok (hT : A.T.ok P = true) (hS : SumOK P A.S) (hm : P.follows .mixedOrders = true) (hA : B.aa = A.aa) :
    ∀ (c : Code) {s : St} {r : Exit × St}, ev A lv c s = some r → ∀ {Q : Exit → Act → World → Prop}, At B r.2 (Q r.1) → At B s (c.wp P Q) := by
  intro c
  induction c with
  | skip => intro s r h Q hQ G a w hr; simp only [ev, Option.some.injEq] at h; subst h; exact wp_skip (hQ _ _ _ hr)
  | label l => intro s r h Q hQ G a w hr; simp only [ev, Option.some.injEq] at h; subst h; exact wp_label (hQ _ _ _ hr)
  | exit id => intro s r h Q hQ G a w hr; simp only [ev, Option.some.injEq] at h; subst h; exact wp_exit (hQ _ _ _ hr)
  | goto l => intro s r h Q hQ G a w hr; simp only [ev, Option.some.injEq] at h; subst h; exact wp_goto (hQ _ _ _ hr)
  | ret => intro s r h Q hQ G a w hr; simp only [ev, Option.some.injEq] at h; subst h; exact wp_ret (hQ _ _ _ hr)
  | rangeFunc f ps x y => intro s r h; simp only [ev] at h; cases h
  | scope b => intro s r h; simp only [ev] at h; cases h
  | refuse why => intro s r h; simp only [ev] at h; cases h
  | region id ops dr =>
    intro s r h Q hQ G a w hr
    simp only [ev, Option.map_eq_some_iff] at h
    obtain ⟨s', h, rfl⟩ := h
    by_cases hpl : (lv (rkey id)) ≠ [] ∧ dr = true
    · obtain ⟨hpl, rfl⟩ := hpl
      have h : planE A ops (prsOf (lv (rkey id))) s = some s' := by
        unfold regY at h
        split at h
        · rename_i e; exact absurd e hpl
        · simpa using h
      refine awp_ok hT hS hm hA (.region id ops true) (Q := fun e s => e = .normal ∧ s = s') (fun e => ?_) G s a w hr (planE_ok h id _ ⟨rfl, rfl⟩)
      rintro G s1 a w hr ⟨rfl, rfl⟩
      exact hQ G a w hr
    have h : regE A ops dr s = some s' := by
      unfold regY at h
      split at h
      · exact h
      · rename_i e
        split at h
        · rename_i hd; exact absurd ⟨e, hd⟩ hpl
        · exact h
    by_cases hg : gdB ops.toList = true ∧ dr = false
    · obtain ⟨hg, rfl⟩ := hg
      unfold regE at h
      rw [if_pos hg, if_neg (by decide)] at h
      have := gsE_ok hT hS hA (Q := Q) (segs A.T [] ops.toList) [] s s' (by rw [segs_join]; rfl) h hQ G a w hr
      rw [segs_join] at this
      refine wp_region ?_
      rw [List.range_eq_range']
      simpa using this
    obtain ⟨s0, h1, h2⟩ := regE_ok (fun e => by cases dr with | true => rfl | false => exact absurd ⟨e, rfl⟩ hg) h
    refine awp_ok hT hS hm hA (.region id ops dr) (Q := fun e s => e = .normal ∧ s = s0) (fun e => ?_) G s a w hr (h2 id (fun e s => e = .normal ∧ s = s0) ⟨rfl, rfl⟩)
    rintro G s1 a w hr ⟨rfl, rfl⟩
    exact At.sem hA h1 hQ G a w hr
  | seq x y ihx ihy =>
    intro s r h Q hQ G a w hr
    simp only [ev] at h
    obtain ⟨r1, h1, h2⟩ := bind_inv h
    refine wp_seq (ihx h1 ?_ G a w hr)
    rcases thenR_inv h2 with ⟨s2, rfl, h2⟩ | ⟨h3, rfl⟩
    · exact ihy h2 hQ
    · obtain ⟨e, s2⟩ := r
      cases e with
      | normal => exact absurd rfl h3
      | _ => exact hQ
  | cond c x y ihx ihy =>
    intro s r h Q hQ G a w hr
    simp only [ev] at h
    split at h
    case h_2 => cases h
    rename_i v hev
    have hb : a.eval c = .bool v := by have := hr.ev c; rw [hev] at this; exact this.inv_bool
    split at h
    · rename_i e
      subst e
      rw [litS_ok hev] at h
      exact wp_cond_true hb (ihx h hQ G a w hr)
    · rename_i e
      simp only [Bool.not_eq_true] at e
      subst e
      rw [litS_ok hev] at h
      exact wp_cond_false hb (ihy h hQ G a w hr)
  | block id b ih =>
    intro s r h Q hQ G a w hr
    simp only [ev, Option.map_eq_some_iff] at h
    obtain ⟨r1, h, rfl⟩ := h
    refine wp_block (ih h ?_ G a w hr)
    obtain ⟨e, s1⟩ := r1
    cases e with
    | exit id' =>
      simp only [inBlk] at hQ
      intro G a w hr
      simp only [Exit.inBlock]
      split
      · rename_i e; rw [if_pos e] at hQ; exact hQ G a w hr
      · rename_i e; rw [if_neg e] at hQ; exact hQ G a w hr
    | _ => exact hQ
  | loop b ih =>
    intro s r h Q hQ G a w hr
    simp only [ev] at h
    obtain ⟨n, h⟩ := lim_inv h
    refine wp_loop_ghost (fun n a w => ∃ G s, RelG B G s a w ∧ itE A.aa (lv (cid b)) (ev A lv b) n s = some r) n ⟨G, s, hr, h⟩ ?_
    rintro n a w ⟨G, s, hr, h⟩
    cases n with
    | zero => cases h
    | succ n =>
      unfold itE at h
      obtain ⟨s1, h1, h⟩ := bind_inv h
      obtain ⟨x, h2, h⟩ := bind_inv h
      refine At.sem hA (sem_rnd h1) (ih h2 ?_) G a w hr
      rcases thenR_inv h with ⟨s2, rfl, h⟩ | ⟨h3, rfl⟩
      · exact fun G a w hr => ⟨n, Nat.lt_succ_self n, G, s2, hr, h⟩
      · obtain ⟨e, s2⟩ := r
        cases e with
        | normal => exact absurd rfl h3
        | _ => exact hQ
end

/-! ### functions -/
structure Prm where
  P : Program
  T : Tab
  given : FuncId → Option Summ
  mode : FuncId → Nat
  achk : FuncId → List D → Bool
  chk : FuncId → D → Bool
  lv : FuncId → Nat → List Nat

def endE (T : Tab) (aa : AV) (rs : List ResultVar) : Exit × St → Option Ret
  | (.normal, s) => outR T s aa rs
  | (.ret, s) => outR T s aa rs
  | _ => none
noncomputable def runB (M : Prm) (S : Nat → Option Summ) (f : FuncId) (fn : Func) (ins : List In) (c : Code) : Option Ret :=
  (ev ⟨M.T, S, ancA ins⟩ (M.lv f) c (inSt fn.ntmps ins)).bind (endE M.T (ancA ins) fn.results.toList)
def fnB (fn : Func) (ins : List In) : Bool := !(fn.name == "runtime.NumGoroutine") && insOK ins && decide (ins.length ≤ fn.ntmps)
noncomputable def runF (M : Prm) (S : Nat → Option Summ) (f : FuncId) (ins : List In) : Option Ret := match M.P.funcs[f]? with
  | none => none
  | some fn => match fn.body with
    | none => none
    | some c => if fnB fn ins = true then runB M S f fn ins c else none
def endEM (T : Tab) (rs : List ResultVar) : Exit × St → Option Ret
  | (.normal, s) => outM T s rs
  | (.ret, s) => outM T s rs
  | _ => none
noncomputable def runBM (M : Prm) (S : Nat → Option Summ) (f : FuncId) (fn : Func) (ins : List In) (c : Code) : Option Ret :=
  (ev ⟨M.T, S, .x⟩ (M.lv f) c (inSt fn.ntmps ins)).bind (endEM M.T fn.results.toList)
noncomputable def runFM (M : Prm) (S : Nat → Option Summ) (f : FuncId) (ins : List In) : Option Ret := match M.P.funcs[f]? with
  | none => none
  | some fn => match fn.body with
    | none => none
    | some c => if fnB fn ins = true then runBM M S f fn ins c else none
/-- How a function's arguments come: 3: the first is used up. -/
def inO (m : Nat) (ds : List D) : List In := match m, ds with
  | 3, x :: xs => .io x :: xs.map .d
  | _, ds => ds.map .d
/-- 3, 4: what one owns may be taken apart at the end. -/
noncomputable def runO (M : Prm) (S : Nat → Option Summ) (f : FuncId) (ds : List D) : Option Ret :=
  if M.mode f = 3 ∨ M.mode f = 4 then runFM M S f (inO (M.mode f) ds) else runF M S f (ds.map .d)
def outO (M : Prm) (f : FuncId) (r : Ret) : Option D := if (M.mode f = 1 ∨ r.deep = true) ∧ r.io.isNone = true then if M.chk f r.ret = true then some r.ret else none else none
def outI (M : Prm) (f : FuncId) (r : Ret) : Option (D × D) := match r.io with
  | some y => if r.deep = true then if M.chk f (.t [r.ret, y]) = true then some (r.ret, y) else none else none
  | none => none
structure Tb where
  o : FuncId → List D → Option D
  i : FuncId → D → List D → Option (D × D)
def mkS (M : Prm) (R : Tb) : Nat → Option Summ := fun f => match M.given f with
  | some s => some s
  | none => match M.mode f with
    | 0 => some (.own (R.o f))
    | 1 => some (.shared (R.o f))
    | 3 => some (.eat fun x ds => R.o f (x :: ds))
    | 4 => some (.own (R.o f))
    | _ => some (.io (R.i f))
noncomputable def stepR (M : Prm) (R : Tb) : Tb where
  o f ds := if M.achk f ds = true then (runO M (mkS M R) f ds).bind (outO M f) else none
  i f x ds := if M.achk f (x :: ds) = true then (runF M (mkS M R) f (.io x :: ds.map .d)).bind (outI M f) else none
noncomputable def runN (M : Prm) : Nat → Tb
  | 0 => ⟨fun _ _ => none, fun _ _ _ => none⟩
  | n + 1 => stepR M (runN M n)
/-- What a function answers, once it has called whatever it calls. -/
noncomputable def lastR (M : Prm) : Tb := ⟨fun f ds => lim fun n => (runN M n).o f ds, fun f x ds => lim fun n => (runN M n).i f x ds⟩

/-! #### it is true -/
structure PrmOK (M : Prm) : Prop where
  tab : M.T.ok M.P = true
  mixed : M.P.follows .mixedOrders = true
  given : SumOK M.P M.given
theorem runF_ok {M : Prm} (hM : PrmOK M) {S : Nat → Option Summ} (hS : SumOK M.P S) {f : FuncId} {ins : List In} {r : Ret} (h : runF M S f ins = some r) : FnOK M.P f ins r := by
  unfold runF at h
  split at h
  · cases h
  rename_i fn hf
  split at h
  · cases h
  rename_i c hb
  obtain ⟨h0, h⟩ := ite_inv h
  simp only [fnB, Bool.and_eq_true, Bool.not_eq_true', decide_eq_true_eq] at h0
  obtain ⟨⟨h1, h2⟩, h3⟩ := h0
  obtain ⟨x, h4, h5⟩ := bind_inv h
  refine fnOK_of hM.tab hf hb h1 rfl h2 h3 fun B G a w hr hB => ?_
  refine ev_ok hM.tab hS hM.mixed hB c h4 (Q := EndQ M.T B fn.results.toList r) ?_ G a w hr
  intro G a w hr
  obtain ⟨e, s⟩ := x
  cases e with
  | normal => exact ⟨.inl rfl, G, s, hr, by rw [hB]; exact h5⟩
  | ret => exact ⟨.inr rfl, G, s, hr, by rw [hB]; exact h5⟩
  | _ => cases h5
theorem runFM_ok {M : Prm} (hM : PrmOK M) {S : Nat → Option Summ} (hS : SumOK M.P S) {f : FuncId} {ins : List In} {r : Ret} (h : runFM M S f ins = some r) : FnOK M.P f ins r := by
  unfold runFM at h
  split at h
  · cases h
  rename_i fn hf
  split at h
  · cases h
  rename_i c hb
  obtain ⟨h0, h⟩ := ite_inv h
  simp only [fnB, Bool.and_eq_true, Bool.not_eq_true', decide_eq_true_eq] at h0
  obtain ⟨⟨h1, h2⟩, h3⟩ := h0
  obtain ⟨x, h4, h5⟩ := bind_inv h
  refine fnOK_ofM hM.tab hf hb h1 rfl h2 h3 fun B G a w hr hB => ?_
  refine ev_ok hM.tab hS hM.mixed hB c h4 (Q := EndM M.T B fn.results.toList r) ?_ G a w hr
  intro G a w hr
  obtain ⟨e, s⟩ := x
  cases e with
  | normal => exact ⟨.inl rfl, G, s, hr, h5⟩
  | ret => exact ⟨.inr rfl, G, s, hr, h5⟩
  | _ => cases h5
theorem runO_ok {M : Prm} (hM : PrmOK M) {S : Nat → Option Summ} (hS : SumOK M.P S) {f : FuncId} {ds : List D} {r : Ret} (h : runO M S f ds = some r) : FnOK M.P f (inO (M.mode f) ds) r := by
  unfold runO at h
  split at h
  · exact runFM_ok hM hS h
  · rename_i hm
    have e : inO (M.mode f) ds = ds.map .d := by
      unfold inO
      split
      · rename_i e; exact absurd (.inl e) hm
      · rfl
    rw [e]
    exact runF_ok hM hS h
theorem inO_d {m : Nat} (h : m ≠ 3) (ds : List D) : inO m ds = ds.map .d := by
  unfold inO
  split
  · exact absurd rfl h
  · rfl
theorem Post.share {w w' : World} {args : List Value} {Sd M : List Nat} {x : D} {v : Value} {io : Option D} (h : Post w args Sd M { ret := x, deep := true, io := io } v w') : Post w args Sd M { ret := x, deep := false, io := io } v w' := by
  obtain ⟨h1, h2, S, Si, h3, h4, h5, h6, h7, h8, h9, h10⟩ := h
  exact ⟨h1, h2, S, Si, h3.shared, h4, h5, h6, h7, h8, fun e => (by cases e), h10⟩
theorem FnOK.share {P : Program} {f : FuncId} {ins : List In} {x : D} {dp : Bool} {io : Option D} (h : FnOK P f ins { ret := x, deep := dp, io := io }) : FnOK P f ins { ret := x, deep := false, io := io } := by
  cases dp with
  | false => exact h
  | true =>
    intro w args Sd Mm ha hn hd
    exact (h w args Sd Mm ha hn hd).mono fun v w' hp => hp.share
theorem stepR_ok {M : Prm} (hM : PrmOK M) {R : Tb} (hS : SumOK M.P (mkS M R)) : SumOK M.P (mkS M (stepR M R)) := by
  have ho : ∀ f ds r, (stepR M R).o f ds = some r → FnOK M.P f (inO (M.mode f) ds) { ret := r, deep := false } ∧ (M.mode f ≠ 1 → FnOK M.P f (inO (M.mode f) ds) { ret := r }) := by
    intro f ds r h
    obtain ⟨_, h⟩ := ite_inv h
    obtain ⟨x, h1, h2⟩ := bind_inv h
    have hf := runO_ok hM hS h1
    unfold outO at h2
    obtain ⟨⟨h3, h4⟩, h2⟩ := ite_inv h2
    obtain ⟨h5, h2⟩ := ite_inv h2
    cases h2
    obtain ⟨ret, deep, io⟩ := x
    simp only [Option.isNone_iff_eq_none] at h4
    subst h4
    refine ⟨hf.share, fun hm => ?_⟩
    rcases h3 with h3 | h3
    · exact absurd h3 hm
    · simp only at h3; subst h3; exact hf
  have hi : ∀ f x ds r, (stepR M R).i f x ds = some r → FnOK M.P f (.io x :: ds.map .d) { ret := r.1, io := some r.2 } := by
    intro f x ds r h
    obtain ⟨_, h⟩ := ite_inv h
    obtain ⟨y, h1, h2⟩ := bind_inv h
    have hf := runF_ok hM hS h1
    unfold outI at h2
    split at h2
    case h_2 => cases h2
    rename_i z e
    obtain ⟨h3, h2⟩ := ite_inv h2
    obtain ⟨h5, h2⟩ := ite_inv h2
    cases h2
    obtain ⟨ret, deep, io⟩ := y
    simp only at e h3
    subst e h3
    exact hf
  intro f s h
  unfold mkS at h
  split at h
  · rename_i s' e
    cases h
    exact hM.given f s e
  · split at h
    all_goals rename_i e0 e; cases h
    · exact fun ds r h => by have := (ho f ds r h).2 (by rw [e]; decide); rwa [e, inO_d (by decide)] at this
    · exact fun ds r h => by have := (ho f ds r h).1; rwa [e, inO_d (by decide)] at this
    · exact fun x ds r h => by have := (ho f (x :: ds) r h).2 (by rw [e]; decide); rwa [e] at this
    · exact fun ds r h => by have := (ho f ds r h).2 (by rw [e]; decide); rwa [e, inO_d (by decide)] at this
    · exact fun x ds r h => hi f x ds r h
theorem runN_ok {M : Prm} (hM : PrmOK M) : ∀ n, SumOK M.P (mkS M (runN M n))
  | 0 => by
    intro f s h
    unfold mkS at h
    split at h
    · rename_i s' e
      cases h
      exact hM.given f s e
    · split at h <;> cases h
      · intro ds r h; cases h
      · intro ds r h; cases h
      · intro x ds r h; cases h
      · intro ds r h; cases h
      · intro x ds r h; cases h
  | n + 1 => stepR_ok hM (runN_ok hM n)
theorem lastR_ok {M : Prm} (hM : PrmOK M) : SumOK M.P (mkS M (lastR M)) := by
  intro f s h
  unfold mkS at h
  split at h
  · rename_i s' e
    cases h
    exact hM.given f s e
  · rename_i e
    split at h <;> rename_i e0 e1 <;> cases h
    · intro ds r h
      obtain ⟨n, h⟩ := lim_inv h
      exact runN_ok hM n f (.own ((runN M n).o f)) (by unfold mkS; simp only [e, e1]) ds r h
    · intro ds r h
      obtain ⟨n, h⟩ := lim_inv h
      exact runN_ok hM n f (.shared ((runN M n).o f)) (by unfold mkS; simp only [e, e1]) ds r h
    · intro x ds r h
      obtain ⟨n, h⟩ := lim_inv h
      exact runN_ok hM n f (.eat fun x ds => (runN M n).o f (x :: ds)) (by unfold mkS; simp only [e, e1]) x ds r h
    · intro ds r h
      obtain ⟨n, h⟩ := lim_inv h
      exact runN_ok hM n f (.own ((runN M n).o f)) (by unfold mkS; simp only [e, e1]) ds r h
    · intro x ds r h
      obtain ⟨n, h⟩ := lim_inv h
      refine runN_ok hM n f (.io ((runN M n).i f)) ?_ x ds r h
      unfold mkS
      simp only [e]
end Go.Fs

set_option linter.unusedVariables false
set_option linter.constructorNameAsVariable false
namespace Go.Fs
open Go.RowKit

/-! ### the last table answers by itself -/
def Evt (p : Nat → Prop) : Prop := ∃ N, ∀ m, N ≤ m → p m
theorem Evt.all {p : Nat → Prop} (h : ∀ m, p m) : Evt p := ⟨0, fun m _ => h m⟩
theorem Evt.mono {p q : Nat → Prop} (h : Evt p) (k : ∀ m, p m → q m) : Evt q := by
  obtain ⟨N, h⟩ := h
  exact ⟨N, fun m hm => k m (h m hm)⟩
theorem Evt.and {p q : Nat → Prop} (h : Evt p) (k : Evt q) : Evt fun m => p m ∧ q m := by
  obtain ⟨N, h⟩ := h
  obtain ⟨N', k⟩ := k
  exact ⟨N + N', fun m hm => ⟨h m (by omega), k m (by omega)⟩⟩
def TendsS (S : Nat → Option Summ) (f : FuncId) : Summ → Prop
  | .own F' => ∀ ds r, F' ds = some r → ∃ F, S f = some (.own F) ∧ F ds = some r
  | .shared F' => ∀ ds r, F' ds = some r → ∃ F, S f = some (.shared F) ∧ F ds = some r
  | .io F' => ∀ x ds r, F' x ds = some r → ∃ F, S f = some (.io F) ∧ F x ds = some r
  | .eat F' => ∀ x ds r, F' x ds = some r → ∃ F, S f = some (.eat F) ∧ F x ds = some r
structure Tends (S : Nat → Nat → Option Summ) (S' : Nat → Option Summ) : Prop where
  own : ∀ f F', S' f = some (.own F') → ∀ ds r, F' ds = some r → Evt fun m => ∃ F, S m f = some (.own F) ∧ F ds = some r
  shared : ∀ f F', S' f = some (.shared F') → ∀ ds r, F' ds = some r → Evt fun m => ∃ F, S m f = some (.shared F) ∧ F ds = some r
  io : ∀ f F', S' f = some (.io F') → ∀ x ds r, F' x ds = some r → Evt fun m => ∃ F, S m f = some (.io F) ∧ F x ds = some r
  eat : ∀ f F', S' f = some (.eat F') → ∀ x ds r, F' x ds = some r → Evt fun m => ∃ F, S m f = some (.eat F) ∧ F x ds = some r
section
variable {S : Nat → Nat → Option Summ} {S' : Nat → Option Summ} {T : Tab} {aa : AV}
theorem callE_tends (ht : Tends S S') {s : St} {dst : Option Nat} {f : FuncId} {args : List AV} {s' : St} (h : callE ⟨T, S', aa⟩ s dst f args = some s') : Evt fun m => callE ⟨T, S m, aa⟩ s dst f args = some s' := by
  unfold callE at h
  split at h
  · cases h
  · rename_i F e
    obtain ⟨ds, h1, h⟩ := bind_inv h
    obtain ⟨r, h2, h⟩ := bind_inv h
    refine (ht.own f F e ds r h2).mono fun m ⟨F', e1, e2⟩ => ?_
    simp only [callE, e1, h1, Option.bind_some, e2]
    exact h
  · rename_i F e
    obtain ⟨H1, h1, h⟩ := bind_inv h
    obtain ⟨h2, h⟩ := ite_inv h
    obtain ⟨ds, h3, h⟩ := bind_inv h
    obtain ⟨r, h4, h⟩ := bind_inv h
    refine (ht.shared f F e ds r h4).mono fun m ⟨F', e1, e2⟩ => ?_
    simp only [callE, e1, h1, Option.bind_some, sharedE, h2, if_true, h3, e2]
    exact h
  · rename_i F e
    split at h
    · cases h
    · rename_i k ve i o rest
      split at h
      case h_2 => cases h
      rename_i sz xs ve' e2
      obtain ⟨⟨e5, h1b⟩, h1c⟩ := ite_inv h
      subst e5
      obtain ⟨cs, h8, h⟩ := bind_inv h1c
      obtain ⟨x, h9, h⟩ := bind_inv h
      obtain ⟨ds, h2, h⟩ := bind_inv h
      obtain ⟨r, h3, h⟩ := bind_inv h
      refine (ht.io f F e _ ds r h3).mono fun m ⟨F', e3, e4⟩ => ?_
      simp only [callE, e3, e2, h1b, and_self, if_true, h8, Option.bind_some, nestC, h9, h2, e4]
      exact h
    · rename_i io rest hne
      obtain ⟨x, h1, h⟩ := bind_inv h
      obtain ⟨ds, h2, h⟩ := bind_inv h
      obtain ⟨r, h3, h⟩ := bind_inv h
      refine (ht.io f F e _ ds r h3).mono fun m ⟨F', e3, e4⟩ => ?_
      unfold callE
      simp only [e3, h1, h2, Option.bind_some, e4]
      exact h
  · rename_i F e
    obtain ⟨y, h1, h⟩ := bind_inv h
    obtain ⟨x, ds, r, h2, h3⟩ := eatC_inv h1
    refine (ht.eat f F e _ ds r h2).mono fun m ⟨F', e1, e2⟩ => ?_
    simp only [callE, e1, h3 F' e2, Option.bind_some]
    exact h
theorem opE_tends (ht : Tends S S') {o : Oper} {s s' : St} (h : opE ⟨T, S', aa⟩ o s = some s') : Evt fun m => opE ⟨T, S m, aa⟩ o s = some s' := by
  by_cases hc : ∃ c f, o.op = .call c ∧ c.callee = .value f
  · obtain ⟨c, f, e1, e2⟩ := hc
    simp only [opE, e1, e2] at h ⊢
    split at h
    · exact callE_tends ht h
    · obtain ⟨h1, h⟩ := ite_inv h
      simp only [h1, if_true]
      exact callE_tends ht h
    · cases h
  · refine Evt.all fun m => ?_
    rw [← h]
    unfold opE
    split
    all_goals try rfl
    rename_i c e1
    split
    · rename_i f e2; exact absurd ⟨c, f, e1, e2⟩ hc
    · rfl
theorem opG_tends (ht : Tends S S') {ops : List Oper} {o : Oper} {s s' : St} (h : opG ⟨T, S', aa⟩ ops o s = some s') : Evt fun m => opG ⟨T, S m, aa⟩ ops o s = some s' := by
  unfold opG at h ⊢
  split at h
  · exact opE_tends ht h
  · split at h
    · exact Evt.all fun m => h
    · split at h
      · split at h
        · rename_i e
          simp only [e, if_true]
          split at h
          · exact opE_tends ht h
          · exact Evt.all fun m => h
        · rename_i e
          simp only [e]
          split at h
          · exact Evt.all fun m => h
          · exact opE_tends ht h
      · exact Evt.all fun m => h
      · cases h
theorem opsE_tends (ht : Tends S S') {ops : List Oper} : ∀ {os : List Oper} {s s' : St}, opsE ⟨T, S', aa⟩ ops os s = some s' → Evt fun m => opsE ⟨T, S m, aa⟩ ops os s = some s'
  | [], s, s', h => Evt.all fun m => h
  | o :: os, s, s', h => by
    obtain ⟨s1, h1, h⟩ := bind_inv h
    refine ((opG_tends ht h1).and (opsE_tends ht h)).mono fun m ⟨e1, e2⟩ => ?_
    simp only [opsE, e1, Option.bind_some, e2]
theorem qE_tends (ht : Tends S S') {o : Oper} {s : St} {av : AV} (h : qE ⟨T, S', aa⟩ o s = some av) : Evt fun m => qE ⟨T, S m, aa⟩ o s = some av := by
  by_cases hc : ∃ c f, o.op = .call c ∧ c.callee = .value f
  · obtain ⟨c, f, e1, e2⟩ := hc
    simp only [qE, e1, e2] at h ⊢
    split at h
    · rename_i fn caps e3
      split at h
      · rename_i F e4
        obtain ⟨ds, h1, h⟩ := bind_inv h
        obtain ⟨r, h2, h⟩ := bind_inv h
        refine (ht.own fn F e4 ds r h2).mono fun m ⟨F', e5, e6⟩ => ?_
        simp only [e5, h1, Option.bind_some, e6]
        exact h
      · rename_i F e4
        obtain ⟨h0, h⟩ := ite_inv h
        obtain ⟨ds, h1, h⟩ := bind_inv h
        obtain ⟨r, h2, h⟩ := bind_inv h
        refine (ht.shared fn F e4 ds r h2).mono fun m ⟨F', e5, e6⟩ => ?_
        simp only [e5, h0, if_true, h1, Option.bind_some, e6]
        exact h
      · cases h
    · cases h
  · refine Evt.all fun m => ?_
    rw [← h]
    unfold qE
    split
    all_goals try rfl
    rename_i c e1
    split
    · rename_i f e2; exact absurd ⟨c, f, e1, e2⟩ hc
    · rfl
theorem qGE_tends (ht : Tends S S') {ops : List Oper} {o : Oper} {s : St} {av : AV} (h : qGE ⟨T, S', aa⟩ ops o s = some av) : Evt fun m => qGE ⟨T, S m, aa⟩ ops o s = some av := by
  unfold qGE at h ⊢
  split at h
  · exact qE_tends ht h
  · split at h
    · exact Evt.all fun m => h
    · split at h
      · split at h
        · rename_i e
          simp only [e, if_true]
          split at h
          · exact qE_tends ht h
          · exact Evt.all fun m => h
        · rename_i e
          simp only [e]
          split at h
          · exact Evt.all fun m => h
          · exact qE_tends ht h
      · exact Evt.all fun m => h
      · cases h
theorem qsE_tends (ht : Tends S S') {ops : List Oper} : ∀ {os : List Oper} {s s' : St}, qsE ⟨T, S', aa⟩ ops os s = some s' → Evt fun m => qsE ⟨T, S m, aa⟩ ops os s = some s'
  | [], s, s', h => Evt.all fun m => h
  | o :: os, s, s', h => by
    unfold qsE at h
    split at h
    · rename_i d e
      obtain ⟨h1, h⟩ := ite_inv h
      obtain ⟨av, h2, h⟩ := bind_inv h
      refine ((qGE_tends ht h2).and (qsE_tends ht h)).mono fun m ⟨e1, e2⟩ => ?_
      simp only [qsE, e, h1, if_true, e1, Option.bind_some, e2]
    · cases h
theorem xsE_tends (ht : Tends S S') {ops : Array Oper} : ∀ {is : List Nat} {s s' : St}, xsE ⟨T, S', aa⟩ ops is s = some s' → Evt fun m => xsE ⟨T, S m, aa⟩ ops is s = some s'
  | [], s, s', h => Evt.all fun m => h
  | i :: is, s, s', h => by
    unfold xsE at h
    split at h
    · rename_i o e
      obtain ⟨s1, h1, h⟩ := bind_inv h
      have hx : Evt fun m => xE ⟨T, S m, aa⟩ ops i o s = some s1 := by
        unfold xE at h1 ⊢
        split at h1
        · exact opG_tends ht h1
        · exact Evt.all fun m => h1
        · by_cases hc : ∃ c f, o.op = .call c ∧ c.callee = .value f
          · obtain ⟨c, f, e1, e2⟩ := hc
            simp only [frE, e1, e2] at h1 ⊢
            split at h1
            · rename_i fn caps e3
              split at h1
              · rename_i F e4
                obtain ⟨ds, h2, h1⟩ := bind_inv h1
                obtain ⟨r, h3, h1⟩ := bind_inv h1
                refine (ht.own fn F e4 ds r h3).mono fun m ⟨F', e5, e6⟩ => ?_
                simp only [e5, h2, Option.bind_some, e6]
                exact h1
              · cases h1
            · cases h1
          · refine Evt.all fun m => ?_
            rw [← h1]
            unfold frE
            split
            all_goals try rfl
            rename_i c e1
            split
            · rename_i f e2; exact absurd ⟨c, f, e1, e2⟩ hc
            · rfl
      refine (hx.and (xsE_tends ht h)).mono fun m ⟨e1, e2⟩ => ?_
      simp only [xsE, e, e1, Option.bind_some, e2]
    · cases h
theorem gsE_tends (ht : Tends S S') {ops : List Oper} : ∀ {L : List (List Oper)} {s s' : St}, gsE ⟨T, S', aa⟩ ops L s = some s' → Evt fun m => gsE ⟨T, S m, aa⟩ ops L s = some s'
  | [], s, s', h => Evt.all fun m => h
  | os :: L, s, s', h => by
    have plain : ∀ {s' : St}, (opsE ⟨T, S', aa⟩ ops os s).bind (gsE ⟨T, S', aa⟩ ops L) = some s' → Evt fun m => (opsE ⟨T, S m, aa⟩ ops os s).bind (gsE ⟨T, S m, aa⟩ ops L) = some s' := by
      intro s' h
      obtain ⟨s1, h1, h2⟩ := bind_inv h
      refine ((opsE_tends ht h1).and (gsE_tends ht h2)).mono fun m ⟨e1, e2⟩ => ?_
      rw [e1, Option.bind_some, e2]
    unfold gsE at h ⊢
    split at h
    · rename_i e0
      simp only [e0, if_true]
      split at h
      · rename_i e9
        simp only [e9]
        obtain ⟨v, h1, h2⟩ := bind_inv h
        obtain ⟨s0, h3, h4⟩ := bind_inv h1
        refine ((qsE_tends ht h3).and (gsE_tends ht h2)).mono fun m ⟨e1, e2⟩ => ?_
        simp only [gdE, e1, Option.bind_some, h4, e2]
      · rename_i e9
        simp only [e9]
        exact plain h
    · rename_i e0
      simp only [e0]
      exact plain h
theorem regE_tends (ht : Tends S S') {ops : Array Oper} {dr : Bool} {s s' : St} (h : regE ⟨T, S', aa⟩ ops dr s = some s') : Evt fun m => regE ⟨T, S m, aa⟩ ops dr s = some s' := by
  unfold regE at h ⊢
  split at h
  · rename_i e0
    simp only [e0, if_true]
    split at h
    · rename_i hd
      simp only [hd, if_true]
      obtain ⟨h1, h⟩ := ite_inv h
      simp only [h1, if_true]
      split at h
      · rename_i e9
        simp only [e9]
        obtain ⟨v, h2, h⟩ := Option.map_eq_some_iff.1 h
        obtain ⟨s0, h3, h4⟩ := bind_inv h2
        refine (qsE_tends ht h3).mono fun m e1 => ?_
        simp only [gdE, e1, Option.bind_some, h4, Option.map_some, h]
      · rename_i e9
        simp only [e9]
        exact qsE_tends ht h
    · rename_i hd
      simp only [hd]
      exact gsE_tends ht h
  · rename_i e0
    simp only [e0]
    split at h
    · rename_i hd
      simp only [hd, if_true]
      split at h
      · rename_i h1
        simp only [h1, if_true]
        exact qsE_tends ht h
      · rename_i h1
        obtain ⟨h2, h⟩ := ite_inv h
        simp only [h1, h2, if_true]
        exact xsE_tends ht h
    · rename_i hd
      simp only [hd]
      exact opsE_tends ht h
theorem stepY_tends (ht : Tends S S') {ops : Array Oper} {o : Oper} {s s' : St} (h : stepY ⟨T, S', aa⟩ ops o s = some s') : Evt fun m => stepY ⟨T, S m, aa⟩ ops o s = some s' := by
  unfold stepY at h ⊢
  split at h
  · rename_i hw
    simp only [hw, if_true]
    exact opG_tends ht h
  · rename_i hw
    simp only [hw]
    split at h
    · rename_i d e
      obtain ⟨h1, h⟩ := ite_inv h
      obtain ⟨av, h2, h⟩ := bind_inv h
      refine (qGE_tends ht h2).mono fun m e1 => ?_
      simp only [e1, Option.bind_some, h1, if_true]
      exact h
    · cases h
theorem trY_tends (ht : Tends S S') {ops : Array Oper} : ∀ {os : List Oper} {s : St} {L : List St}, trY ⟨T, S', aa⟩ ops os s = some L → Evt fun m => trY ⟨T, S m, aa⟩ ops os s = some L
  | [], s, L, h => Evt.all fun m => h
  | o :: os, s, L, h => by
    obtain ⟨s1, h1, h⟩ := bind_inv h
    obtain ⟨L', h2, rfl⟩ := Option.map_eq_some_iff.1 h
    refine ((stepY_tends ht h1).and (trY_tends ht h2)).mono fun m ⟨e1, e2⟩ => ?_
    simp only [trY, e1, Option.bind_some, e2, Option.map_some]
theorem chkY_tends (ht : Tends S S') {ops : Array Oper} {L : List St} {x : Nat × Nat} (h : chkY ⟨T, S', aa⟩ ops L x) : Evt fun m => chkY ⟨T, S m, aa⟩ ops L x := by
  unfold chkY at h ⊢
  split at h
  · split at h
    · exact qGE_tends ht h
    · exact h.elim
  · exact h.elim
theorem chks_tends (ht : Tends S S') {ops : Array Oper} {L : List St} : ∀ {prs : List (Nat × Nat)}, (∀ x ∈ prs, chkY ⟨T, S', aa⟩ ops L x) → Evt fun m => ∀ x ∈ prs, chkY ⟨T, S m, aa⟩ ops L x
  | [], _ => Evt.all fun m => by simp
  | x :: xs, h => by
    refine ((chkY_tends ht (h x (.head _))).and (chks_tends ht fun y hy => h y (.tail _ hy))).mono fun m ⟨e1, e2⟩ y hy => ?_
    cases hy with
    | head => exact e1
    | tail _ hy => exact e2 y hy
theorem regY_tends (ht : Tends S S') {hint : List Nat} {ops : Array Oper} {dr : Bool} {s s' : St} (h : regY ⟨T, S', aa⟩ hint ops dr s = some s') : Evt fun m => regY ⟨T, S m, aa⟩ hint ops dr s = some s' := by
  unfold regY at h ⊢
  split at h
  · exact regE_tends ht h
  · split at h
    · rename_i hd
      simp only [hd, if_true]
      unfold planE at h ⊢
      obtain ⟨h1, h⟩ := ite_inv h
      obtain ⟨L, h2, h⟩ := bind_inv h
      obtain ⟨h3, h⟩ : (∀ x ∈ prsOf _, chkY ⟨T, S', aa⟩ ops L x) ∧ L[ops.size]? = some s' := by
        split at h
        · exact ⟨by assumption, h⟩
        · cases h
      refine ((trY_tends ht h2).and (chks_tends ht h3)).mono fun m ⟨e1, e2⟩ => ?_
      rw [if_pos h1, e1, Option.bind_some, if_pos e2]
      exact h
    · rename_i hd
      simp only [Bool.not_eq_true] at hd
      subst hd
      simp only [Bool.false_eq_true, if_false]
      exact regE_tends ht h
theorem ev_tends (ht : Tends S S') {lv : Nat → List Nat} : ∀ (c : Code) {s : St} {r : Exit × St}, ev ⟨T, S', aa⟩ lv c s = some r → Evt fun m => ev ⟨T, S m, aa⟩ lv c s = some r := by
  intro c
  induction c with
  | region id ops dr =>
    intro s r h
    simp only [ev, Option.map_eq_some_iff] at h ⊢
    obtain ⟨s', h, rfl⟩ := h
    exact (regY_tends ht h).mono fun m e => ⟨s', e, rfl⟩
  | seq x y ihx ihy =>
    intro s r h
    simp only [ev] at h ⊢
    obtain ⟨r1, h1, h2⟩ := bind_inv h
    rcases thenR_inv h2 with ⟨s2, rfl, h2⟩ | ⟨h3, rfl⟩
    · refine ((ihx h1).and (ihy h2)).mono fun m ⟨e1, e2⟩ => ?_
      rw [e1, Option.bind_some, thenR_go, e2]
    · refine (ihx h1).mono fun m e1 => ?_
      rw [e1, Option.bind_some, thenR_out h3]
  | cond c x y ihx ihy =>
    intro s r h
    simp only [ev] at h ⊢
    split at h
    case h_2 => cases h
    split at h
    · rename_i e
      simp only [e, if_true]
      exact ihx h
    · rename_i e
      simp only [e]
      exact ihy h
  | block id b ih =>
    intro s r h
    simp only [ev, Option.map_eq_some_iff] at h ⊢
    obtain ⟨r1, h, e⟩ := h
    exact (ih h).mono fun m e1 => ⟨r1, e1, e⟩
  | loop b ih =>
    intro s r h
    have hm : ∀ m n, itE aa (lv (cid b)) (ev ⟨T, S m, aa⟩ lv b) n s = some r → ev ⟨T, S m, aa⟩ lv (.loop b) s = some r := fun m n e => by
      simp only [ev]
      exact lim_some (fun n r h => itE_mono n s r h) e
    simp only [ev] at h
    obtain ⟨n, h⟩ := lim_inv h
    have key : ∀ n s, itE aa (lv (cid b)) (ev ⟨T, S', aa⟩ lv b) n s = some r → Evt fun m => itE aa (lv (cid b)) (ev ⟨T, S m, aa⟩ lv b) n s = some r := by
      intro n
      induction n with
      | zero => intro s h; cases h
      | succ n ihn =>
        intro s h
        unfold itE at h
        obtain ⟨s1, h1, h⟩ := bind_inv h
        obtain ⟨x, h2, h⟩ := bind_inv h
        rcases thenR_inv h with ⟨s2, rfl, h⟩ | ⟨h3, rfl⟩
        · refine ((ih h2).and (ihn s2 h)).mono fun m ⟨e1, e2⟩ => ?_
          unfold itE
          rw [h1, Option.bind_some, e1, Option.bind_some, thenR_go, e2]
        · refine (ih h2).mono fun m e1 => ?_
          unfold itE
          rw [h1, Option.bind_some, e1, Option.bind_some, thenR_out h3]
    exact (key n s h).mono fun m e => hm m n e
  | _ =>
    intro s r h
    exact Evt.all fun m => by simpa only [ev] using h
end
theorem runF_tends {M : Prm} {S : Nat → Nat → Option Summ} {S' : Nat → Option Summ} (ht : Tends S S') {f : FuncId} {ins : List In} {r : Ret} (h : runF M S' f ins = some r) : Evt fun m => runF M (S m) f ins = some r := by
  unfold runF at h ⊢
  split at h
  · cases h
  rename_i fn hf
  split at h
  · cases h
  rename_i c hb
  obtain ⟨h0, h⟩ := ite_inv h
  obtain ⟨x, h1, h2⟩ := bind_inv h
  refine (ev_tends ht c h1).mono fun m e => ?_
  rw [if_pos h0]
  unfold runB
  rw [e, Option.bind_some, h2]

theorem runFM_tends {M : Prm} {S : Nat → Nat → Option Summ} {S' : Nat → Option Summ} (ht : Tends S S') {f : FuncId} {ins : List In} {r : Ret} (h : runFM M S' f ins = some r) : Evt fun m => runFM M (S m) f ins = some r := by
  unfold runFM at h ⊢
  split at h
  · cases h
  rename_i fn hf
  split at h
  · cases h
  rename_i c hb
  obtain ⟨h0, h⟩ := ite_inv h
  obtain ⟨x, h1, h2⟩ := bind_inv h
  refine (ev_tends ht c h1).mono fun m e => ?_
  rw [if_pos h0]
  unfold runBM
  rw [e, Option.bind_some, h2]
theorem runO_tends {M : Prm} {S : Nat → Nat → Option Summ} {S' : Nat → Option Summ} (ht : Tends S S') {f : FuncId} {ds : List D} {r : Ret} (h : runO M S' f ds = some r) : Evt fun m => runO M (S m) f ds = some r := by
  unfold runO at h ⊢
  split at h
  · rename_i e; simp only [e, if_true]; exact runFM_tends ht h
  · rename_i e; simp only [e, if_false]; exact runF_tends ht h

theorem mkS_tends {M : Prm} {R : Nat → Tb} {R' : Tb} (ho : ∀ f ds r, R'.o f ds = some r → Evt fun m => (R m).o f ds = some r) (hi : ∀ f x ds r, R'.i f x ds = some r → Evt fun m => (R m).i f x ds = some r) : Tends (fun m => mkS M (R m)) (mkS M R') := by
  refine ⟨fun f F' h ds r hr => ?_, fun f F' h ds r hr => ?_, fun f F' h x ds r hr => ?_, fun f F' h x ds r hr => ?_⟩
  all_goals
    unfold mkS at h ⊢
    split at h
    · cases h
      rename_i e
      exact Evt.all fun m => ⟨F', by simp only [e], hr⟩
    · rename_i e
      split at h <;> cases h
      all_goals first
        | exact (ho f ds r hr).mono fun m e1 => ⟨_, rfl, e1⟩
        | exact (hi f x ds r hr).mono fun m e1 => ⟨_, rfl, e1⟩
        | exact (ho f (x :: ds) r hr).mono fun m e1 => ⟨fun x ds => (R m).o f (x :: ds), rfl, e1⟩
theorem runN_mono (M : Prm) : ∀ n, (∀ f ds r, (runN M n).o f ds = some r → (runN M (n + 1)).o f ds = some r) ∧ (∀ f x ds r, (runN M n).i f x ds = some r → (runN M (n + 1)).i f x ds = some r)
  | 0 => ⟨fun f ds r h => (by cases h), fun f x ds r h => (by cases h)⟩
  | n + 1 => by
    obtain ⟨i1, i2⟩ := runN_mono M n
    have ht := mkS_tends (M := M) (R := fun _ => runN M (n + 1)) (R' := runN M n) (fun f ds r h => Evt.all fun _ => i1 f ds r h) (fun f x ds r h => Evt.all fun _ => i2 f x ds r h)
    have hN : ∀ {p : Prop}, Evt (fun _ => p) → p := fun h => by obtain ⟨N, h⟩ := h; exact h N (Nat.le_refl N)
    refine ⟨fun f ds r h => ?_, fun f x ds r h => ?_⟩
    · obtain ⟨h0, h⟩ := ite_inv h
      obtain ⟨y, h1, h2⟩ := bind_inv h
      show (if M.achk f ds = true then (runO M (mkS M (runN M (n + 1))) f ds).bind (outO M f) else none) = some r
      rw [if_pos h0, hN (runO_tends ht h1), Option.bind_some, h2]
    · obtain ⟨h0, h⟩ := ite_inv h
      obtain ⟨y, h1, h2⟩ := bind_inv h
      show (if M.achk f (x :: ds) = true then (runF M (mkS M (runN M (n + 1))) f (.io x :: ds.map .d)).bind (outI M f) else none) = some r
      rw [if_pos h0, hN (runF_tends ht h1), Option.bind_some, h2]
theorem lastR_up (M : Prm) : (∀ f ds r, (lastR M).o f ds = some r → Evt fun m => (runN M m).o f ds = some r) ∧ (∀ f x ds r, (lastR M).i f x ds = some r → Evt fun m => (runN M m).i f x ds = some r) := by
  refine ⟨fun f ds r h => ?_, fun f x ds r h => ?_⟩
  · obtain ⟨n, h⟩ := lim_inv h
    exact ⟨n, fun m hm => mono_le (g := fun n => (runN M n).o f ds) (fun n r h => (runN_mono M n).1 f ds r h) hm h⟩
  · obtain ⟨n, h⟩ := lim_inv h
    exact ⟨n, fun m hm => mono_le (g := fun n => (runN M n).i f x ds) (fun n r h => (runN_mono M n).2 f x ds r h) hm h⟩
/-- What a function answers is what its code answers. -/
theorem lastR_o (M : Prm) (f : FuncId) (ds : List D) : (lastR M).o f ds = if M.achk f ds = true then (runO M (mkS M (lastR M)) f ds).bind (outO M f) else none := by
  apply Option.ext
  intro r
  constructor
  · intro h
    obtain ⟨n, h⟩ := lim_inv h
    cases n with
    | zero => cases h
    | succ n =>
      obtain ⟨h0, h⟩ := ite_inv h
      obtain ⟨y, h1, h2⟩ := bind_inv h
      have ht := mkS_tends (M := M) (R := fun _ => lastR M) (R' := runN M n) (fun f ds r h => Evt.all fun _ => lim_some (fun n r h => (runN_mono M n).1 f ds r h) h) (fun f x ds r h => Evt.all fun _ => lim_some (fun n r h => (runN_mono M n).2 f x ds r h) h)
      obtain ⟨N, h3⟩ := runO_tends ht h1
      rw [if_pos h0, h3 N (Nat.le_refl N), Option.bind_some, h2]
  · intro h
    obtain ⟨h0, h⟩ := ite_inv h
    obtain ⟨y, h1, h2⟩ := bind_inv h
    obtain ⟨N, h3⟩ := runO_tends (mkS_tends (M := M) (R := runN M) (R' := lastR M) (lastR_up M).1 (lastR_up M).2) h1
    refine lim_some (fun n r h => (runN_mono M n).1 f ds r h) (n := N + 1) ?_
    show (if M.achk f ds = true then (runO M (mkS M (runN M N)) f ds).bind (outO M f) else none) = some r
    rw [if_pos h0, h3 N (Nat.le_refl N), Option.bind_some, h2]
theorem lastR_i (M : Prm) (f : FuncId) (x : D) (ds : List D) : (lastR M).i f x ds = if M.achk f (x :: ds) = true then (runF M (mkS M (lastR M)) f (.io x :: ds.map .d)).bind (outI M f) else none := by
  apply Option.ext
  intro r
  constructor
  · intro h
    obtain ⟨n, h⟩ := lim_inv h
    cases n with
    | zero => cases h
    | succ n =>
      obtain ⟨h0, h⟩ := ite_inv h
      obtain ⟨y, h1, h2⟩ := bind_inv h
      have ht := mkS_tends (M := M) (R := fun _ => lastR M) (R' := runN M n) (fun f ds r h => Evt.all fun _ => lim_some (fun n r h => (runN_mono M n).1 f ds r h) h) (fun f x ds r h => Evt.all fun _ => lim_some (fun n r h => (runN_mono M n).2 f x ds r h) h)
      obtain ⟨N, h3⟩ := runF_tends ht h1
      rw [if_pos h0, h3 N (Nat.le_refl N), Option.bind_some, h2]
  · intro h
    obtain ⟨h0, h⟩ := ite_inv h
    obtain ⟨y, h1, h2⟩ := bind_inv h
    obtain ⟨N, h3⟩ := runF_tends (mkS_tends (M := M) (R := runN M) (R' := lastR M) (lastR_up M).1 (lastR_up M).2) h1
    refine lim_some (fun n r h => (runN_mono M n).2 f x ds r h) (n := N + 1) ?_
    show (if M.achk f (x :: ds) = true then (runF M (mkS M (runN M N)) f (.io x :: ds.map .d)).bind (outI M f) else none) = some r
    rw [if_pos h0, h3 N (Nat.le_refl N), Option.bind_some, h2]
end Go.Fs

set_option linter.unusedVariables false
namespace Go.Fs
open Go.RowKit

/-! ### typed values -/
/-- How a type lies in cells. -/
class Cel (α : Type) where
  cel : α → List D
  unc : List D → Option α
  w : Nat
  unc_cel : ∀ a, unc (cel a) = some a
  cel_unc : ∀ ds a, unc ds = some a → ds = cel a
  len : ∀ a, (cel a).length = w
/-- How a type is read as a datum. -/
class Dat (α : Type) where
  enc : α → D
  dec : D → Option α
  dec_enc : ∀ a, dec (enc a) = some a
  enc_dec : ∀ d a, dec d = some a → d = enc a
open Cel (cel unc)
open Dat (enc dec)

def oneD {α : Type} (f : D → Option α) : List D → Option α
  | [d] => f d
  | _ => none
def decI : D → Option Int
  | .i .i64 n => some n
  | _ => none
def decU : D → Option Int
  | .i .u8 n => some n
  | _ => none
def decB : D → Option Bool
  | .b v => some v
  | _ => none
def decS : D → Option ByteArray
  | .s v => some v
  | _ => none
def cI (n : Int) : List D := [.i .i64 n]
def cB (v : Bool) : List D := [.b v]
def cS (v : ByteArray) : List D := [.s v]
instance : Dat Int := ⟨.i .i64, decI, fun _ => rfl, fun d a h => by unfold decI at h; split at h <;> cases h; rfl⟩
instance : Dat Bool := ⟨.b, decB, fun _ => rfl, fun d a h => by unfold decB at h; split at h <;> cases h; rfl⟩
instance : Dat ByteArray := ⟨.s, decS, fun _ => rfl, fun d a h => by unfold decS at h; split at h <;> cases h; rfl⟩
theorem oneD_inv {α : Type} {f : D → Option α} {ds : List D} {a : α} (h : oneD f ds = some a) : ∃ d, ds = [d] ∧ f d = some a := by
  unfold oneD at h
  split at h
  · exact ⟨_, rfl, h⟩
  · cases h
def CelT (α : Type) : Type := Cel α
def DatT (α : Type) : Type := Dat α
def celOf {α : Type} [Dat α] : CelT α := Cel.mk (fun a => [enc a]) (oneD dec) 1 (fun a => Dat.dec_enc a)
  (fun ds a h => by obtain ⟨d, rfl, h⟩ := oneD_inv h; rw [Dat.enc_dec d a h]) (fun a => rfl)
instance : Cel Int := celOf
instance : Cel Bool := celOf
instance : Cel ByteArray := celOf
def decG {α : Type} [Cel α] : D → Option α
  | .g ds => unc ds
  | _ => none
/-- A struct is read as its cells. -/
def datOf {α : Type} [Cel α] : DatT α := Dat.mk (fun a => .g (cel a)) decG (fun a => Cel.unc_cel a)
  (fun d a h => by
    unfold decG at h
    split at h
    · rw [Cel.cel_unc _ a h]
    · cases h)
def uncL {α : Type} (f : List D → Option α) : List (List D) → Option (List α)
  | [] => some []
  | x :: xs => (f x).bind fun a => (uncL f xs).map (a :: ·)
def decL {α : Type} [Cel α] : D → Option (List α)
  | .l sz xs => if sz = Cel.w α then uncL unc xs else none
  | _ => none
theorem uncL_map {α : Type} [Cel α] : ∀ (xs : List α), uncL unc (xs.map cel) = some xs
  | [] => rfl
  | x :: xs => by simp only [List.map_cons, uncL, Cel.unc_cel, Option.bind_some, uncL_map xs, Option.map_some]
theorem uncL_inv {α : Type} [Cel α] : ∀ {ds : List (List D)} {xs : List α}, uncL unc ds = some xs → ds = xs.map cel
  | [], xs, h => by cases h; rfl
  | d :: ds, xs, h => by
    simp only [uncL, Option.bind_eq_some_iff, Option.map_eq_some_iff] at h
    obtain ⟨a, h1, ys, h2, rfl⟩ := h
    rw [List.map_cons, ← uncL_inv h2, Cel.cel_unc _ _ h1]
instance instDatL {α : Type} [Cel α] : Dat (List α) where
  enc xs := .l (Cel.w α) (xs.map cel)
  dec := decL
  dec_enc xs := by simp only [decL, if_true, uncL_map]
  enc_dec d xs h := by
    unfold decL at h
    split at h
    · obtain ⟨e, h2⟩ := ite_inv h
      rw [uncL_inv h2, e]
    · cases h
instance instCelL {α : Type} [Cel α] : Cel (List α) := celOf
def decT2 {α β : Type} (f : D → Option α) (g : D → Option β) : D → Option (α × β)
  | .t [x, y] => (f x).bind fun a => (g y).map fun b => (a, b)
  | _ => none
instance instDat2 {α β : Type} [Dat α] [Dat β] : Dat (α × β) where
  enc x := .t [enc x.1, enc x.2]
  dec := decT2 dec dec
  dec_enc x := by simp only [decT2, Dat.dec_enc, Option.bind_some, Option.map_some]
  enc_dec d x h := by
    unfold decT2 at h
    split at h
    · simp only [Option.bind_eq_some_iff, Option.map_eq_some_iff] at h
      obtain ⟨a, h1, b, h2, rfl⟩ := h
      rw [Dat.enc_dec _ _ h1, Dat.enc_dec _ _ h2]
    · cases h
/-- What is answered beside a second, third thing. -/
structure T3 (α β γ : Type) where
  a : α
  b : β
  c : γ
def decT3 {α β γ : Type} (f : D → Option α) (g : D → Option β) (h : D → Option γ) : D → Option (T3 α β γ)
  | .t [x, y, z] => (f x).bind fun a => (g y).bind fun b => (h z).map fun c => ⟨a, b, c⟩
  | _ => none
instance instDat3 {α β γ : Type} [Dat α] [Dat β] [Dat γ] : Dat (T3 α β γ) where
  enc x := .t [enc x.a, enc x.b, enc x.c]
  dec := decT3 dec dec dec
  dec_enc x := by simp only [decT3, Dat.dec_enc, Option.bind_some, Option.map_some]
  enc_dec d x h := by
    unfold decT3 at h
    split at h
    · simp only [Option.bind_eq_some_iff, Option.map_eq_some_iff] at h
      obtain ⟨a, h1, b, h2, c, h3, rfl⟩ := h
      rw [Dat.enc_dec _ _ h1, Dat.enc_dec _ _ h2, Dat.enc_dec _ _ h3]
    · cases h

/-- A byte; a function as a value. -/
structure U8 where
  n : Int
  deriving Inhabited
structure Fv where
  d : D
  deriving Inhabited
instance : Dat U8 := ⟨fun x => .i .u8 x.n, fun d => (decU d).map U8.mk, fun _ => rfl, fun d a h => by
  obtain ⟨n, h, rfl⟩ := Option.map_eq_some_iff.1 h
  unfold decU at h; split at h <;> cases h; rfl⟩
instance : Cel U8 := celOf
instance : Dat Fv := ⟨Fv.d, fun d => some ⟨d⟩, fun _ => rfl, fun d a h => by cases h; rfl⟩
theorem len1 {α : Type} {l : List α} (h : l.length = 1) : ∃ x0, l = [x0] := by
  obtain ⟨x0, l, rfl⟩ := List.exists_cons_of_length_pos (l := l) (by simp_all); obtain rfl := List.eq_nil_of_length_eq_zero (l := l) (by simp_all)
  exact ⟨x0, rfl⟩
theorem len2 {α : Type} {l : List α} (h : l.length = 2) : ∃ x0 x1, l = [x0, x1] := by
  obtain ⟨x0, l, rfl⟩ := List.exists_cons_of_length_pos (l := l) (by simp_all); obtain ⟨x1, l, rfl⟩ := List.exists_cons_of_length_pos (l := l) (by simp_all); obtain rfl := List.eq_nil_of_length_eq_zero (l := l) (by simp_all)
  exact ⟨x0, x1, rfl⟩
theorem len3 {α : Type} {l : List α} (h : l.length = 3) : ∃ x0 x1 x2, l = [x0, x1, x2] := by
  obtain ⟨x0, l, rfl⟩ := List.exists_cons_of_length_pos (l := l) (by simp_all); obtain ⟨x1, l, rfl⟩ := List.exists_cons_of_length_pos (l := l) (by simp_all); obtain ⟨x2, l, rfl⟩ := List.exists_cons_of_length_pos (l := l) (by simp_all); obtain rfl := List.eq_nil_of_length_eq_zero (l := l) (by simp_all)
  exact ⟨x0, x1, x2, rfl⟩
theorem len4 {α : Type} {l : List α} (h : l.length = 4) : ∃ x0 x1 x2 x3, l = [x0, x1, x2, x3] := by
  obtain ⟨x0, l, rfl⟩ := List.exists_cons_of_length_pos (l := l) (by simp_all); obtain ⟨x1, l, rfl⟩ := List.exists_cons_of_length_pos (l := l) (by simp_all); obtain ⟨x2, l, rfl⟩ := List.exists_cons_of_length_pos (l := l) (by simp_all); obtain ⟨x3, l, rfl⟩ := List.exists_cons_of_length_pos (l := l) (by simp_all); obtain rfl := List.eq_nil_of_length_eq_zero (l := l) (by simp_all)
  exact ⟨x0, x1, x2, x3, rfl⟩
theorem len5 {α : Type} {l : List α} (h : l.length = 5) : ∃ x0 x1 x2 x3 x4, l = [x0, x1, x2, x3, x4] := by
  obtain ⟨x0, l, rfl⟩ := List.exists_cons_of_length_pos (l := l) (by simp_all); obtain ⟨x1, l, rfl⟩ := List.exists_cons_of_length_pos (l := l) (by simp_all); obtain ⟨x2, l, rfl⟩ := List.exists_cons_of_length_pos (l := l) (by simp_all); obtain ⟨x3, l, rfl⟩ := List.exists_cons_of_length_pos (l := l) (by simp_all); obtain ⟨x4, l, rfl⟩ := List.exists_cons_of_length_pos (l := l) (by simp_all); obtain rfl := List.eq_nil_of_length_eq_zero (l := l) (by simp_all)
  exact ⟨x0, x1, x2, x3, x4, rfl⟩
theorem len6 {α : Type} {l : List α} (h : l.length = 6) : ∃ x0 x1 x2 x3 x4 x5, l = [x0, x1, x2, x3, x4, x5] := by
  obtain ⟨x0, l, rfl⟩ := List.exists_cons_of_length_pos (l := l) (by simp_all); obtain ⟨x1, l, rfl⟩ := List.exists_cons_of_length_pos (l := l) (by simp_all); obtain ⟨x2, l, rfl⟩ := List.exists_cons_of_length_pos (l := l) (by simp_all); obtain ⟨x3, l, rfl⟩ := List.exists_cons_of_length_pos (l := l) (by simp_all); obtain ⟨x4, l, rfl⟩ := List.exists_cons_of_length_pos (l := l) (by simp_all); obtain ⟨x5, l, rfl⟩ := List.exists_cons_of_length_pos (l := l) (by simp_all); obtain rfl := List.eq_nil_of_length_eq_zero (l := l) (by simp_all)
  exact ⟨x0, x1, x2, x3, x4, x5, rfl⟩
theorem len7 {α : Type} {l : List α} (h : l.length = 7) : ∃ x0 x1 x2 x3 x4 x5 x6, l = [x0, x1, x2, x3, x4, x5, x6] := by
  obtain ⟨x0, l, rfl⟩ := List.exists_cons_of_length_pos (l := l) (by simp_all); obtain ⟨x1, l, rfl⟩ := List.exists_cons_of_length_pos (l := l) (by simp_all); obtain ⟨x2, l, rfl⟩ := List.exists_cons_of_length_pos (l := l) (by simp_all); obtain ⟨x3, l, rfl⟩ := List.exists_cons_of_length_pos (l := l) (by simp_all); obtain ⟨x4, l, rfl⟩ := List.exists_cons_of_length_pos (l := l) (by simp_all); obtain ⟨x5, l, rfl⟩ := List.exists_cons_of_length_pos (l := l) (by simp_all); obtain ⟨x6, l, rfl⟩ := List.exists_cons_of_length_pos (l := l) (by simp_all); obtain rfl := List.eq_nil_of_length_eq_zero (l := l) (by simp_all)
  exact ⟨x0, x1, x2, x3, x4, x5, x6, rfl⟩
theorem len8 {α : Type} {l : List α} (h : l.length = 8) : ∃ x0 x1 x2 x3 x4 x5 x6 x7, l = [x0, x1, x2, x3, x4, x5, x6, x7] := by
  obtain ⟨x0, l, rfl⟩ := List.exists_cons_of_length_pos (l := l) (by simp_all); obtain ⟨x1, l, rfl⟩ := List.exists_cons_of_length_pos (l := l) (by simp_all); obtain ⟨x2, l, rfl⟩ := List.exists_cons_of_length_pos (l := l) (by simp_all); obtain ⟨x3, l, rfl⟩ := List.exists_cons_of_length_pos (l := l) (by simp_all); obtain ⟨x4, l, rfl⟩ := List.exists_cons_of_length_pos (l := l) (by simp_all); obtain ⟨x5, l, rfl⟩ := List.exists_cons_of_length_pos (l := l) (by simp_all); obtain ⟨x6, l, rfl⟩ := List.exists_cons_of_length_pos (l := l) (by simp_all); obtain ⟨x7, l, rfl⟩ := List.exists_cons_of_length_pos (l := l) (by simp_all); obtain rfl := List.eq_nil_of_length_eq_zero (l := l) (by simp_all)
  exact ⟨x0, x1, x2, x3, x4, x5, x6, x7, rfl⟩
theorem len9 {α : Type} {l : List α} (h : l.length = 9) : ∃ x0 x1 x2 x3 x4 x5 x6 x7 x8, l = [x0, x1, x2, x3, x4, x5, x6, x7, x8] := by
  obtain ⟨x0, l, rfl⟩ := List.exists_cons_of_length_pos (l := l) (by simp_all); obtain ⟨x1, l, rfl⟩ := List.exists_cons_of_length_pos (l := l) (by simp_all); obtain ⟨x2, l, rfl⟩ := List.exists_cons_of_length_pos (l := l) (by simp_all); obtain ⟨x3, l, rfl⟩ := List.exists_cons_of_length_pos (l := l) (by simp_all); obtain ⟨x4, l, rfl⟩ := List.exists_cons_of_length_pos (l := l) (by simp_all); obtain ⟨x5, l, rfl⟩ := List.exists_cons_of_length_pos (l := l) (by simp_all); obtain ⟨x6, l, rfl⟩ := List.exists_cons_of_length_pos (l := l) (by simp_all); obtain ⟨x7, l, rfl⟩ := List.exists_cons_of_length_pos (l := l) (by simp_all); obtain ⟨x8, l, rfl⟩ := List.exists_cons_of_length_pos (l := l) (by simp_all); obtain rfl := List.eq_nil_of_length_eq_zero (l := l) (by simp_all)
  exact ⟨x0, x1, x2, x3, x4, x5, x6, x7, x8, rfl⟩
/-! #### arguments -/
class Arg (α : Type) where
  ea : α → List D
  da : List D → Option α
  da_ea : ∀ a, da (ea a) = some a
  ea_da : ∀ ds a, da ds = some a → ds = ea a
open Arg (ea da)
def daC {α β : Type} (f : D → Option α) (g : List D → Option β) : List D → Option (α × β)
  | d :: ds => (f d).bind fun a => (g ds).map fun b => (a, b)
  | _ => none
def da0 : List D → Option Unit
  | [] => some ()
  | _ => none
instance : Arg Unit := ⟨fun _ => [], da0, fun _ => rfl, fun ds a h => by unfold da0 at h; split at h <;> cases h; rfl⟩
instance instArgC {α β : Type} [Dat α] [Arg β] : Arg (α × β) where
  ea x := enc x.1 :: ea x.2
  da := daC dec da
  da_ea x := by simp only [daC, Dat.dec_enc, Option.bind_some, Arg.da_ea, Option.map_some]
  ea_da ds x h := by
    unfold daC at h
    split at h
    · simp only [Option.bind_eq_some_iff, Option.map_eq_some_iff] at h
      obtain ⟨a, h1, b, h2, rfl⟩ := h
      rw [Dat.enc_dec _ _ h1, Arg.ea_da _ _ h2]
    · cases h

/-! #### how all this is computed -/
theorem enc_I (n : Int) : enc n = .i .i64 n := rfl
theorem enc_B (v : Bool) : enc v = .b v := rfl
theorem enc_S (v : ByteArray) : enc v = .s v := rfl
theorem enc_U (x : U8) : enc x = .i .u8 x.n := rfl
theorem enc_F (x : Fv) : enc x = x.d := rfl
theorem enc_L {α : Type} [Cel α] (xs : List α) : enc xs = .l (Cel.w α) (xs.map cel) := rfl
theorem enc_2 {α β : Type} [Dat α] [Dat β] (x : α × β) : enc x = .t [enc x.1, enc x.2] := rfl
theorem enc_3 {α β γ : Type} [Dat α] [Dat β] [Dat γ] (x : T3 α β γ) : enc x = .t [enc x.a, enc x.b, enc x.c] := rfl
theorem cel_I (n : Int) : cel n = [.i .i64 n] := rfl
theorem cel_B (v : Bool) : cel v = [.b v] := rfl
theorem cel_S (v : ByteArray) : cel v = [.s v] := rfl
theorem cel_U (x : U8) : cel x = [.i .u8 x.n] := rfl
theorem cel_L {α : Type} [Cel α] (xs : List α) : cel xs = [.l (Cel.w α) (xs.map cel)] := rfl
theorem w_I : Cel.w Int = 1 := rfl
theorem w_B : Cel.w Bool = 1 := rfl
theorem w_S : Cel.w ByteArray = 1 := rfl
theorem w_U : Cel.w U8 = 1 := rfl
theorem w_L {α : Type} [Cel α] : Cel.w (List α) = 1 := rfl
theorem dec_I (n : Int) : dec (.i .i64 n) = some n := rfl
theorem dec_B (v : Bool) : dec (.b v) = some v := rfl
theorem dec_S (v : ByteArray) : dec (.s v) = some v := rfl
theorem dec_U (n : Int) : dec (.i .u8 n) = some (U8.mk n) := rfl
theorem dec_F (d : D) : dec d = some (Fv.mk d) := rfl
theorem dec_L {α : Type} [Cel α] (sz : Nat) (xs : List (List D)) : dec (α := List α) (.l sz xs) = if sz = Cel.w α then uncL unc xs else none := rfl
theorem dec_2 {α β : Type} [Dat α] [Dat β] (x y : D) : dec (α := α × β) (.t [x, y]) = (dec x).bind fun a => (dec y).map fun b => (a, b) := rfl
theorem dec_3 {α β γ : Type} [Dat α] [Dat β] [Dat γ] (x y z : D) : dec (α := T3 α β γ) (.t [x, y, z]) = (dec x).bind fun a => (dec y).bind fun b => (dec z).map fun c => ⟨a, b, c⟩ := rfl
theorem unc_I (d : D) : unc (α := Int) [d] = dec d := rfl
theorem unc_B (d : D) : unc (α := Bool) [d] = dec d := rfl
theorem unc_S (d : D) : unc (α := ByteArray) [d] = dec d := rfl
theorem unc_U (d : D) : unc (α := U8) [d] = dec d := rfl
theorem unc_L {α : Type} [Cel α] (d : D) : unc (α := List α) [d] = dec d := rfl
theorem uncL_nil {α : Type} (f : List D → Option α) : uncL f [] = some [] := rfl
theorem uncL_cons {α : Type} (f : List D → Option α) (x : List D) (xs : List (List D)) : uncL f (x :: xs) = (f x).bind fun a => (uncL f xs).map (a :: ·) := rfl
theorem uncL_app {α : Type} (f : List D → Option α) : ∀ (xs ys : List (List D)), uncL f (xs ++ ys) = (uncL f xs).bind fun a => (uncL f ys).map (a ++ ·)
  | [], ys => by simp [uncL]
  | x :: xs, ys => by
    simp only [List.cons_append, uncL, uncL_app f xs ys]
    cases f x with
    | none => rfl
    | some a =>
      simp only [Option.bind_some]
      cases uncL f xs with
      | none => rfl
      | some b => cases uncL f ys <;> rfl
theorem ea_0 : ea () = [] := rfl
theorem ea_C {α β : Type} [Dat α] [Arg β] (a : α) (b : β) : ea (a, b) = enc a :: ea b := rfl
theorem da_0 : da (α := Unit) [] = some () := rfl
theorem da_C {α β : Type} [Dat α] [Arg β] (d : D) (ds : List D) : da (α := α × β) (d :: ds) = (dec d).bind fun a => (da ds).map fun b => (a, b) := rfl
theorem all_scal {α : Type} [Cel α] (h : ∀ a : α, (cel a).all scal = true) (xs : List α) : (xs.map cel).all (fun x => x.all scal) = true := by
  rw [List.all_eq_true]
  intro x hx
  obtain ⟨a, _, rfl⟩ := List.mem_map.1 hx
  exact h a
theorem all_I (xs : List Int) : (xs.map cel).all (fun x => x.all scal) = true := all_scal (fun _ => rfl) xs
theorem all_B (xs : List Bool) : (xs.map cel).all (fun x => x.all scal) = true := all_scal (fun _ => rfl) xs
theorem all_S (xs : List ByteArray) : (xs.map cel).all (fun x => x.all scal) = true := all_scal (fun _ => rfl) xs
theorem all_U (xs : List U8) : (xs.map cel).all (fun x => x.all scal) = true := all_scal (fun _ => rfl) xs
theorem map_dropR {α β : Type} (f : α → β) (xs : List α) (n : Nat) : (xs.map f).drop n = (xs.drop n).map f := List.map_drop.symm
theorem map_takeR {α β : Type} (f : α → β) (xs : List α) (n : Nat) : (xs.map f).take n = (xs.take n).map f := List.map_take.symm
theorem getI_map {α β : Type} (f : α → β) (xs : List α) (n : Int) : getI (xs.map f) n = (getI xs n).map f := by
  unfold getI
  split
  · rw [List.getElem?_map]
  · rfl
theorem ixG {α β : Type} (xs : List α) (n : Int) (c : α → List D) (K : List D → β) : (if 0 ≤ n ∧ n < (xs.length : Int) then some (K ((xs.map c).getD n.toNat [])) else none) = (getI xs n).map fun x => K (c x) := by
  unfold getI
  by_cases h : 0 ≤ n
  · obtain ⟨m, rfl⟩ := Int.eq_ofNat_of_zero_le h
    simp only [Int.natCast_nonneg, true_and, Int.ofNat_lt, if_true, Int.toNat_natCast]
    by_cases hm : m < xs.length
    · rw [if_pos hm, List.getElem?_eq_getElem hm, Option.map_some]
      simp [hm]
    · rw [if_neg hm, List.getElem?_eq_none (by omega)]; rfl
  · simp [h]
theorem ixL {α : Type} (xs : List α) (n : Int) (c : α → List D) : (if 0 ≤ n ∧ n < (xs.length : Int) then some (AV.q ((xs.map c).getD n.toNat []) 0) else none) = (getI xs n).map fun x => AV.q (c x) 0 := ixG xs n c fun l => AV.q l 0
theorem bind_mapL {α β γ : Type} (x : Option α) (f : α → β) (g : β → Option γ) : (x.map f).bind g = x.bind fun a => g (f a) := by cases x <;> rfl
theorem map_bindL {α β γ : Type} (x : Option α) (f : α → Option β) (g : β → γ) : (x.bind f).map g = x.bind fun a => (f a).map g := by cases x <;> rfl
theorem map_mapL {α β γ : Type} (x : Option α) (f : α → β) (g : β → γ) : (x.map f).map g = x.map fun a => g (f a) := by cases x <;> rfl
theorem map_ite {α β : Type} {c : Prop} [Decidable c] (x y : Option α) (f : α → β) : (if c then x else y).map f = if c then x.map f else y.map f := by split <;> rfl

/-- Which types a function takes and answers. -/
structure Sig where
  α : Type
  β : Type
  [ha : Arg α]
  [hb : Dat β]
attribute [instance] Sig.ha Sig.hb
def sigA (S : Sig) (ds : List D) : Bool := (da (α := S.α) ds).isSome
def sigR (S : Sig) (d : D) : Bool := (dec (α := S.β) d).isSome
def noSig : Sig := ⟨Unit, Bool⟩

section
variable {M : Prm} {f : FuncId} {α β : Type} [Arg α] [Dat β]
noncomputable def fnO (M : Prm) (f : FuncId) (β : Type) {α : Type} [Arg α] [Dat β] (a : α) : Option β := ((lastR M).o f (ea a)).bind dec
structure Has (M : Prm) (f : FuncId) (α β : Type) [Arg α] [Dat β] : Prop where
  a : ∀ ds, M.achk f ds = (da (α := α) ds).isSome
  r : ∀ d, M.chk f d = (dec (α := β) d).isSome
theorem fnO_run (h : Has M f α β) (a : α) : fnO M f β a = ((runO M (mkS M (lastR M)) f (ea a)).bind (outO M f)).bind dec := by
  unfold fnO
  rw [lastR_o, h.a, Arg.da_ea]
  rfl
/-- A call, seen from where it stands. -/
theorem call_o (h : Has M f α β) (ds : List D) : (lastR M).o f ds = (da (α := α) ds).bind fun a => (fnO M f β a).map enc := by
  rw [lastR_o, h.a]
  cases e : da (α := α) ds with
  | none => rfl
  | some a =>
    obtain rfl := Arg.ea_da ds a e
    rw [Option.bind_some, fnO_run h]
    simp only [Option.isSome_some, if_true]
    cases e2 : (runO M (mkS M (lastR M)) f (ea a)).bind (outO M f) with
    | none => rfl
    | some r =>
      have : M.chk f r = true := by
        obtain ⟨x, _, h2⟩ := bind_inv e2
        unfold outO at h2
        obtain ⟨_, h2⟩ := ite_inv h2
        obtain ⟨h3, h2⟩ := ite_inv h2
        cases h2
        exact h3
      rw [h.r] at this
      obtain ⟨b, hb⟩ := Option.isSome_iff_exists.1 this
      rw [Option.bind_some, hb, Option.map_some, ← Dat.enc_dec _ _ hb]
theorem call_oK {ρ : Type} (h : Has M f α β) (ds : List D) (F : D → Option ρ) : ((lastR M).o f ds).bind F = (da (α := α) ds).bind fun a => (fnO M f β a).bind fun r => F (enc r) := by
  rw [call_o h]
  cases da (α := α) ds with
  | none => rfl
  | some a =>
    simp only [Option.bind_some]
    cases fnO M f β a <;> rfl
end
end Go.Fs
