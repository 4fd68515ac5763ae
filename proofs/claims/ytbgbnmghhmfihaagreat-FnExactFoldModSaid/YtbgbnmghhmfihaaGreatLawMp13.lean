/- A part of the proof: an evaluator of the program's code over plain data, proved sound, and walks of the program's functions by it. No conditions beyond those in the theorems. -/
import Derived.Test.YtbgbnmghhmfihaaGreatLawMp12
set_option linter.unusedVariables false
set_option linter.unusedSimpArgs false
set_option linter.constructorNameAsVariable false
set_option linter.unusedSectionVars false
set_option linter.defProp false
set_option linter.unusedVariables false
namespace Go.Fs
open Go.RowKit

/-- Where a region's plan is told among the hints. -/
def rkey (id : Nat) : Nat := 5000 + id
/-- Pairs, told as numbers; the first number only says that there is a plan. -/
def prsOf : List Nat → List (Nat × Nat)
  | [] => []
  | _ :: hs => hs.map fun m => (m / 1000, m % 1000)
open Classical in
noncomputable def planE (A : Env) (ops : Array Oper) (prs : List (Nat × Nat)) (s : St) : Option St := if planB ops prs = true then (trY A ops ops.toList s).bind fun L => if (∀ x ∈ prs, chkY A ops L x) then L[ops.size]? else none else none
noncomputable def regY (A : Env) (hint : List Nat) (ops : Array Oper) (dr : Bool) (s : St) : Option St := match hint with
  | [] => regE A ops dr s
  | _ => if dr = true then planE A ops (prsOf hint) s else regE A ops dr s
theorem planE_ok {A : Env} {ops : Array Oper} {prs : List (Nat × Nat)} {s s' : St} (h : planE A ops prs s = some s') (id : Nat) (Q : Exit → St → Prop) (hk : Q .normal s') : awp A (.region id ops true) Q s := by
  unfold planE at h
  obtain ⟨h1, h⟩ := ite_inv h
  obtain ⟨L, h2, h⟩ := bind_inv h
  obtain ⟨h3, h⟩ : (∀ x ∈ prs, chkY A ops L x) ∧ L[ops.size]? = some s' := by
    split at h
    · exact ⟨by assumption, h⟩
    · cases h
  show awpAny A ops (Q .normal) ops.size (Array.replicate ops.size false) s
  exact any_plan (planB_ok h1) h2 h3 h hk
def cid : Code → Nat
  | .region id _ _ => id
  | .seq x _ => cid x
  | .block id _ => id
  | .loop b => cid b
  | .cond _ x _ => cid x
  | .exit id => id
  | _ => 0
/-- What goes on where the first part came to its end. -/
def thenR (f : St → Option (Exit × St)) : Exit × St → Option (Exit × St)
  | (.normal, s) => f s
  | r => some r
theorem thenR_inv {f : St → Option (Exit × St)} {r r' : Exit × St} (h : thenR f r = some r') : (∃ s, r = (.normal, s) ∧ f s = some r') ∨ (r.1 ≠ .normal ∧ r' = r) := by
  obtain ⟨e, s⟩ := r
  cases e with
  | normal => exact .inl ⟨s, rfl, h⟩
  | _ => exact .inr ⟨(fun h => by cases h), (by cases h; rfl)⟩
theorem thenR_go {f : St → Option (Exit × St)} (s : St) : thenR f (.normal, s) = f s := rfl
theorem thenR_out {f : St → Option (Exit × St)} {r : Exit × St} (h : r.1 ≠ .normal) : thenR f r = some r := by
  obtain ⟨e, s⟩ := r
  cases e with
  | normal => exact absurd rfl h
  | _ => rfl
def itE (aa : AV) (live : List Nat) (f : St → Option (Exit × St)) : Nat → St → Option (Exit × St)
  | 0, _ => none
  | n + 1, s => (rnd aa live s).bind fun s => (f s).bind (thenR (itE aa live f n))
def inBlk (id : Nat) : Exit → Exit
  | .exit id' => if id' = id then .normal else .exit id'
  | e => e
noncomputable def ev (A : Env) (lv : Nat → List Nat) : Code → St → Option (Exit × St)
  | .skip, s => some (.normal, s)
  | .region id ops dr, s => (regY A (lv (rkey id)) ops dr s).map fun s => (.normal, s)
  | .seq x y, s => (ev A lv x s).bind (thenR (ev A lv y))
  | .cond c x y, s => match s.ev c with
    | .d (.b v) => if v = true then ev A lv x (litS s c true) else ev A lv y (litS s c false)
    | _ => none
  | .block id b, s => (ev A lv b s).map fun r => (inBlk id r.1, r.2)
  | .loop b, s => lim fun n => itE A.aa (lv (cid b)) (ev A lv b) n s
  | .exit id, s => some (.exit id, s)
  | .label _, s => some (.normal, s)
  | .goto l, s => some (.goto l, s)
  | .ret, s => some (.ret, s)
  | _, _ => none

theorem itE_mono {aa : AV} {live : List Nat} {f : St → Option (Exit × St)} : ∀ (n : Nat) (s : St) (r : Exit × St), itE aa live f n s = some r → itE aa live f (n + 1) s = some r
  | 0, s, r, h => by cases h
  | n + 1, s, r, h => by
    unfold itE at h ⊢
    obtain ⟨s1, h1, h⟩ := bind_inv h
    obtain ⟨x, h2, h⟩ := bind_inv h
    rw [h1, Option.bind_some, h2, Option.bind_some]
    rcases thenR_inv h with ⟨s2, rfl, h⟩ | ⟨h3, rfl⟩
    · exact itE_mono n _ _ h
    · exact thenR_out h3
/-- A loop is one round, and then itself. -/
theorem ev_loop (A : Env) (lv : Nat → List Nat) (b : Code) (s : St) : ev A lv (.loop b) s = (rnd A.aa (lv (cid b)) s).bind fun s => (ev A lv b s).bind (thenR (ev A lv (.loop b))) := by
  have hl : ∀ s, ev A lv (.loop b) s = lim fun n => itE A.aa (lv (cid b)) (ev A lv b) n s := fun s => by simp only [ev]
  have hm : ∀ s n r, itE A.aa (lv (cid b)) (ev A lv b) n s = some r → itE A.aa (lv (cid b)) (ev A lv b) (n + 1) s = some r := fun s n r h => itE_mono n s r h
  apply Option.ext
  intro r
  rw [hl s]
  constructor
  · intro h
    obtain ⟨n, h⟩ := lim_inv h
    cases n with
    | zero => cases h
    | succ n =>
      unfold itE at h
      obtain ⟨s1, h1, h⟩ := bind_inv h
      obtain ⟨x, h2, h⟩ := bind_inv h
      rw [h1, Option.bind_some, h2, Option.bind_some]
      rcases thenR_inv h with ⟨s2, rfl, h⟩ | ⟨h3, rfl⟩
      · rw [thenR_go, hl]; exact lim_some (hm _) h
      · exact thenR_out h3
  · intro h
    obtain ⟨s1, h1, h⟩ := bind_inv h
    obtain ⟨x, h2, h⟩ := bind_inv h
    rcases thenR_inv h with ⟨s2, rfl, h⟩ | ⟨h3, rfl⟩
    · rw [thenR_go, hl] at h
      obtain ⟨n, h⟩ := lim_inv h
      refine lim_some (hm _) (n := n + 1) ?_
      unfold itE
      rw [h1, Option.bind_some, h2, Option.bind_some]
      exact h
    · refine lim_some (hm _) (n := 1) ?_
      unfold itE
      rw [h1, Option.bind_some, h2, Option.bind_some]
      exact thenR_out h3

end Go.Fs

set_option linter.unusedVariables false
set_option linter.constructorNameAsVariable false
namespace Go.Fs
open Go.RowKit
section
variable {P : Program} {B : Ctx} {A : Env} {lv : Nat → List Nat}
/-- From a state that is known to be this one. -/
def At (B : Ctx) (s : St) (Q : Act → World → Prop) : Prop := ∀ (G : Nat → GI) (a : Act) (w : World), RelG B G s a w → Q a w
theorem At.sem {aa : AV} (hA : B.aa = aa) {s s' : St} (h : Sem aa s s') {Q : Act → World → Prop} (hq : At B s' Q) : At B s Q := fun G a w hr => by
  obtain ⟨G', hr'⟩ := h B G a w hA hr
  exact hq G' a w hr'
/-- A part of a region, and then what is left of it. -/
theorem seg_ok (hT : A.T.ok P = true) (hS : SumOK P A.S) {ops : Array Oper} {Q : Exit → Act → World → Prop} {rest : List Nat} {s0 : St} (hrest : At B s0 (wpOps P ops Q rest)) :
    ∀ (os pre post : List Oper) (s : St), ops.toList = pre ++ (os ++ post) → awpOps A ops.toList (fun s => s = s0) os s → At B s (wpOps P ops Q (List.range' pre.length os.length ++ rest))
  | [], pre, post, s, e, h => by
    have h : s = s0 := h
    subst h
    exact hrest
  | o :: os, pre, post, s, e, h => by
    intro G a w hr
    have ho : ops[pre.length]? = some o := by rw [← Array.getElem?_toList, e]; simp
    have hl : (pre ++ [o]).length = pre.length + 1 := by simp
    have ih := seg_ok hT hS hrest os (pre ++ [o]) post
    rw [hl] at ih
    show wpOps P ops Q (List.range' pre.length (os.length + 1) ++ rest) a w
    rw [List.range'_succ, List.cons_append, wpOps_cons]
    refine awpG_ok hT hS (B := B) hr ho (K := awpOps A ops.toList (fun s => s = s0) os) ?_ h
    intro G1 s1 a1 w1 hr1 h1
    exact ih s1 (by rw [e]; simp) h1 G1 a1 w1 hr1
theorem gsE_ok (hT : A.T.ok P = true) (hS : SumOK P A.S) (hA : B.aa = A.aa) {ops : Array Oper} {Q : Exit → Act → World → Prop} : ∀ (L : List (List Oper)) (pre : List Oper) (s s' : St), ops.toList = pre ++ L.flatten → gsE A ops.toList L s = some s' → At B s' (wpOps P ops Q []) →
    At B s (wpOps P ops Q (List.range' pre.length L.flatten.length))
  | [], pre, s, s', e, h, hq => by
    cases h
    exact hq
  | os :: L, pre, s, s', e, h, hq => by
    have hsplit : List.range' pre.length (os :: L).flatten.length = List.range' pre.length os.length ++ List.range' (pre ++ os).length L.flatten.length := by
      rw [List.flatten_cons, List.length_append, List.length_append, List.range'_append_1]
    rw [hsplit]
    have ih := gsE_ok hT hS hA (ops := ops) (Q := Q) L (pre ++ os)
    have plain : (opsE A ops.toList os s).bind (gsE A ops.toList L) = some s' → At B s (wpOps P ops Q (List.range' pre.length os.length ++ List.range' (pre ++ os).length L.flatten.length)) := by
      intro h
      obtain ⟨s1, h1, h2⟩ := bind_inv h
      exact seg_ok hT hS (ih s1 s' (by rw [e]; simp) h2 hq) os pre L.flatten s (by rw [e]; simp) (opsE_ok h1 rfl)
    unfold gsE at h
    split at h
    · split at h
      · rename_i t _
        obtain ⟨v, h1, h2⟩ := bind_inv h
        obtain ⟨s0, h3, h4⟩ := bind_inv h1
        have := ih _ s' (by rw [e]; simp) h2 hq
        exact seg_ok hT hS (At.sem hA (sem_gd h3 h4) this) os pre L.flatten s (by rw [e]; simp) (qsE_ops h3 rfl)
      · exact plain h
    · exact plain h
/-- The run of the mind is a run of the code. -/
theorem ev_ok (hT : A.T.ok P = true) (hS : SumOK P A.S) (hm : P.follows .mixedOrders = true) (hA : B.aa = A.aa) :
    ∀ (c : Code) {s : St} {r : Exit × St}, ev A lv c s = some r → ∀ {Q : Exit → Act → World → Prop}, At B r.2 (Q r.1) → At B s (c.wp P Q) := by
  intro c
  induction c with
  | skip => intro s r h Q hQ G a w hr; simp only [ev, Option.some.injEq] at h; subst h; exact wp_skip (hQ _ _ _ hr)
  | label l => intro s r h Q hQ G a w hr; simp only [ev, Option.some.injEq] at h; subst h; exact wp_label (hQ _ _ _ hr)
  | exit id => intro s r h Q hQ G a w hr; simp only [ev, Option.some.injEq] at h; subst h; exact wp_exit (hQ _ _ _ hr)
  | goto l => intro s r h Q hQ G a w hr; simp only [ev, Option.some.injEq] at h; subst h; exact wp_goto (hQ _ _ _ hr)
  | ret => intro s r h Q hQ G a w hr; simp only [ev, Option.some.injEq] at h; subst h; exact wp_ret (hQ _ _ _ hr)
  | rangeFunc f ps x y => intro s r h; simp only [ev] at h; cases h
  | scope b => intro s r h; simp only [ev] at h; cases h
  | refuse why => intro s r h; simp only [ev] at h; cases h
  | region id ops dr =>
    intro s r h Q hQ G a w hr
    simp only [ev, Option.map_eq_some_iff] at h
    obtain ⟨s', h, rfl⟩ := h
    by_cases hpl : (lv (rkey id)) ≠ [] ∧ dr = true
    · obtain ⟨hpl, rfl⟩ := hpl
      have h : planE A ops (prsOf (lv (rkey id))) s = some s' := by
        unfold regY at h
        split at h
        · rename_i e; exact absurd e hpl
        · simpa using h
      refine awp_ok hT hS hm hA (.region id ops true) (Q := fun e s => e = .normal ∧ s = s') (fun e => ?_) G s a w hr (planE_ok h id _ ⟨rfl, rfl⟩)
      rintro G s1 a w hr ⟨rfl, rfl⟩
      exact hQ G a w hr
    have h : regE A ops dr s = some s' := by
      unfold regY at h
      split at h
      · exact h
      · rename_i e
        split at h
        · rename_i hd; exact absurd ⟨e, hd⟩ hpl
        · exact h
    by_cases hg : gdB ops.toList = true ∧ dr = false
    · obtain ⟨hg, rfl⟩ := hg
      unfold regE at h
      rw [if_pos hg, if_neg (by decide)] at h
      have := gsE_ok hT hS hA (Q := Q) (segs A.T [] ops.toList) [] s s' (by rw [segs_join]; rfl) h hQ G a w hr
      rw [segs_join] at this
      refine wp_region ?_
      rw [List.range_eq_range']
      simpa using this
    obtain ⟨s0, h1, h2⟩ := regE_ok (fun e => by cases dr with | true => rfl | false => exact absurd ⟨e, rfl⟩ hg) h
    refine awp_ok hT hS hm hA (.region id ops dr) (Q := fun e s => e = .normal ∧ s = s0) (fun e => ?_) G s a w hr (h2 id (fun e s => e = .normal ∧ s = s0) ⟨rfl, rfl⟩)
    rintro G s1 a w hr ⟨rfl, rfl⟩
    exact At.sem hA h1 hQ G a w hr
  | seq x y ihx ihy =>
    intro s r h Q hQ G a w hr
    simp only [ev] at h
    obtain ⟨r1, h1, h2⟩ := bind_inv h
    refine wp_seq (ihx h1 ?_ G a w hr)
    rcases thenR_inv h2 with ⟨s2, rfl, h2⟩ | ⟨h3, rfl⟩
    · exact ihy h2 hQ
    · obtain ⟨e, s2⟩ := r
      cases e with
      | normal => exact absurd rfl h3
      | _ => exact hQ
  | cond c x y ihx ihy =>
    intro s r h Q hQ G a w hr
    simp only [ev] at h
    split at h
    case h_2 => cases h
    rename_i v hev
    have hb : a.eval c = .bool v := by have := hr.ev c; rw [hev] at this; exact this.inv_bool
    split at h
    · rename_i e
      subst e
      rw [litS_ok hev] at h
      exact wp_cond_true hb (ihx h hQ G a w hr)
    · rename_i e
      simp only [Bool.not_eq_true] at e
      subst e
      rw [litS_ok hev] at h
      exact wp_cond_false hb (ihy h hQ G a w hr)
  | block id b ih =>
    intro s r h Q hQ G a w hr
    simp only [ev, Option.map_eq_some_iff] at h
    obtain ⟨r1, h, rfl⟩ := h
    refine wp_block (ih h ?_ G a w hr)
    obtain ⟨e, s1⟩ := r1
    cases e with
    | exit id' =>
      simp only [inBlk] at hQ
      intro G a w hr
      simp only [Exit.inBlock]
      split
      · rename_i e; rw [if_pos e] at hQ; exact hQ G a w hr
      · rename_i e; rw [if_neg e] at hQ; exact hQ G a w hr
    | _ => exact hQ
  | loop b ih =>
    intro s r h Q hQ G a w hr
    simp only [ev] at h
    obtain ⟨n, h⟩ := lim_inv h
    refine wp_loop_ghost (fun n a w => ∃ G s, RelG B G s a w ∧ itE A.aa (lv (cid b)) (ev A lv b) n s = some r) n ⟨G, s, hr, h⟩ ?_
    rintro n a w ⟨G, s, hr, h⟩
    cases n with
    | zero => cases h
    | succ n =>
      unfold itE at h
      obtain ⟨s1, h1, h⟩ := bind_inv h
      obtain ⟨x, h2, h⟩ := bind_inv h
      refine At.sem hA (sem_rnd h1) (ih h2 ?_) G a w hr
      rcases thenR_inv h with ⟨s2, rfl, h⟩ | ⟨h3, rfl⟩
      · exact fun G a w hr => ⟨n, Nat.lt_succ_self n, G, s2, hr, h⟩
      · obtain ⟨e, s2⟩ := r
        cases e with
        | normal => exact absurd rfl h3
        | _ => exact hQ
end

/-! ### functions -/
structure Prm where
  P : Program
  T : Tab
  given : FuncId → Option Summ
  mode : FuncId → Nat
  achk : FuncId → List D → Bool
  chk : FuncId → D → Bool
  lv : FuncId → Nat → List Nat

def endE (T : Tab) (aa : AV) (rs : List ResultVar) : Exit × St → Option Ret
  | (.normal, s) => outR T s aa rs
  | (.ret, s) => outR T s aa rs
  | _ => none
noncomputable def runB (M : Prm) (S : Nat → Option Summ) (f : FuncId) (fn : Func) (ins : List In) (c : Code) : Option Ret :=
  (ev ⟨M.T, S, ancA ins⟩ (M.lv f) c (inSt fn.ntmps ins)).bind (endE M.T (ancA ins) fn.results.toList)
def fnB (fn : Func) (ins : List In) : Bool := !(fn.name == "runtime.NumGoroutine") && insOK ins && decide (ins.length ≤ fn.ntmps)
noncomputable def runF (M : Prm) (S : Nat → Option Summ) (f : FuncId) (ins : List In) : Option Ret := match M.P.funcs[f]? with
  | none => none
  | some fn => match fn.body with
    | none => none
    | some c => if fnB fn ins = true then runB M S f fn ins c else none
def endEM (T : Tab) (rs : List ResultVar) : Exit × St → Option Ret
  | (.normal, s) => outM T s rs
  | (.ret, s) => outM T s rs
  | _ => none
noncomputable def runBM (M : Prm) (S : Nat → Option Summ) (f : FuncId) (fn : Func) (ins : List In) (c : Code) : Option Ret :=
  (ev ⟨M.T, S, .x⟩ (M.lv f) c (inSt fn.ntmps ins)).bind (endEM M.T fn.results.toList)
noncomputable def runFM (M : Prm) (S : Nat → Option Summ) (f : FuncId) (ins : List In) : Option Ret := match M.P.funcs[f]? with
  | none => none
  | some fn => match fn.body with
    | none => none
    | some c => if fnB fn ins = true then runBM M S f fn ins c else none
/-- How a function's arguments come: 3: the first is used up. -/
def inO (m : Nat) (ds : List D) : List In := match m, ds with
  | 3, x :: xs => .io x :: xs.map .d
  | _, ds => ds.map .d
/-- 3, 4: what one owns may be taken apart at the end. -/
noncomputable def runO (M : Prm) (S : Nat → Option Summ) (f : FuncId) (ds : List D) : Option Ret :=
  if M.mode f = 3 ∨ M.mode f = 4 then runFM M S f (inO (M.mode f) ds) else runF M S f (ds.map .d)
def outO (M : Prm) (f : FuncId) (r : Ret) : Option D := if (M.mode f = 1 ∨ r.deep = true) ∧ r.io.isNone = true then if M.chk f r.ret = true then some r.ret else none else none
def outI (M : Prm) (f : FuncId) (r : Ret) : Option (D × D) := match r.io with
  | some y => if r.deep = true then if M.chk f (.t [r.ret, y]) = true then some (r.ret, y) else none else none
  | none => none
structure Tb where
  o : FuncId → List D → Option D
  i : FuncId → D → List D → Option (D × D)
def mkS (M : Prm) (R : Tb) : Nat → Option Summ := fun f => match M.given f with
  | some s => some s
  | none => match M.mode f with
    | 0 => some (.own (R.o f))
    | 1 => some (.shared (R.o f))
    | 3 => some (.eat fun x ds => R.o f (x :: ds))
    | 4 => some (.own (R.o f))
    | _ => some (.io (R.i f))
noncomputable def stepR (M : Prm) (R : Tb) : Tb where
  o f ds := if M.achk f ds = true then (runO M (mkS M R) f ds).bind (outO M f) else none
  i f x ds := if M.achk f (x :: ds) = true then (runF M (mkS M R) f (.io x :: ds.map .d)).bind (outI M f) else none
noncomputable def runN (M : Prm) : Nat → Tb
  | 0 => ⟨fun _ _ => none, fun _ _ _ => none⟩
  | n + 1 => stepR M (runN M n)
/-- What a function answers, once it has called whatever it calls. -/
noncomputable def lastR (M : Prm) : Tb := ⟨fun f ds => lim fun n => (runN M n).o f ds, fun f x ds => lim fun n => (runN M n).i f x ds⟩

/-! #### it is true -/
structure PrmOK (M : Prm) : Prop where
  tab : M.T.ok M.P = true
  mixed : M.P.follows .mixedOrders = true
  given : SumOK M.P M.given
theorem runF_ok {M : Prm} (hM : PrmOK M) {S : Nat → Option Summ} (hS : SumOK M.P S) {f : FuncId} {ins : List In} {r : Ret} (h : runF M S f ins = some r) : FnOK M.P f ins r := by
  unfold runF at h
  split at h
  · cases h
  rename_i fn hf
  split at h
  · cases h
  rename_i c hb
  obtain ⟨h0, h⟩ := ite_inv h
  simp only [fnB, Bool.and_eq_true, Bool.not_eq_true', decide_eq_true_eq] at h0
  obtain ⟨⟨h1, h2⟩, h3⟩ := h0
  obtain ⟨x, h4, h5⟩ := bind_inv h
  refine fnOK_of hM.tab hf hb h1 rfl h2 h3 fun B G a w hr hB => ?_
  refine ev_ok hM.tab hS hM.mixed hB c h4 (Q := EndQ M.T B fn.results.toList r) ?_ G a w hr
  intro G a w hr
  obtain ⟨e, s⟩ := x
  cases e with
  | normal => exact ⟨.inl rfl, G, s, hr, by rw [hB]; exact h5⟩
  | ret => exact ⟨.inr rfl, G, s, hr, by rw [hB]; exact h5⟩
  | _ => cases h5
theorem runFM_ok {M : Prm} (hM : PrmOK M) {S : Nat → Option Summ} (hS : SumOK M.P S) {f : FuncId} {ins : List In} {r : Ret} (h : runFM M S f ins = some r) : FnOK M.P f ins r := by
  unfold runFM at h
  split at h
  · cases h
  rename_i fn hf
  split at h
  · cases h
  rename_i c hb
  obtain ⟨h0, h⟩ := ite_inv h
  simp only [fnB, Bool.and_eq_true, Bool.not_eq_true', decide_eq_true_eq] at h0
  obtain ⟨⟨h1, h2⟩, h3⟩ := h0
  obtain ⟨x, h4, h5⟩ := bind_inv h
  refine fnOK_ofM hM.tab hf hb h1 rfl h2 h3 fun B G a w hr hB => ?_
  refine ev_ok hM.tab hS hM.mixed hB c h4 (Q := EndM M.T B fn.results.toList r) ?_ G a w hr
  intro G a w hr
  obtain ⟨e, s⟩ := x
  cases e with
  | normal => exact ⟨.inl rfl, G, s, hr, h5⟩
  | ret => exact ⟨.inr rfl, G, s, hr, h5⟩
  | _ => cases h5
theorem runO_ok {M : Prm} (hM : PrmOK M) {S : Nat → Option Summ} (hS : SumOK M.P S) {f : FuncId} {ds : List D} {r : Ret} (h : runO M S f ds = some r) : FnOK M.P f (inO (M.mode f) ds) r := by
  unfold runO at h
  split at h
  · exact runFM_ok hM hS h
  · rename_i hm
    have e : inO (M.mode f) ds = ds.map .d := by
      unfold inO
      split
      · rename_i e; exact absurd (.inl e) hm
      · rfl
    rw [e]
    exact runF_ok hM hS h
theorem inO_d {m : Nat} (h : m ≠ 3) (ds : List D) : inO m ds = ds.map .d := by
  unfold inO
  split
  · exact absurd rfl h
  · rfl
theorem Post.share {w w' : World} {args : List Value} {Sd M : List Nat} {x : D} {v : Value} {io : Option D} (h : Post w args Sd M { ret := x, deep := true, io := io } v w') : Post w args Sd M { ret := x, deep := false, io := io } v w' := by
  obtain ⟨h1, h2, S, Si, h3, h4, h5, h6, h7, h8, h9, h10⟩ := h
  exact ⟨h1, h2, S, Si, h3.shared, h4, h5, h6, h7, h8, fun e => (by cases e), h10⟩
theorem FnOK.share {P : Program} {f : FuncId} {ins : List In} {x : D} {dp : Bool} {io : Option D} (h : FnOK P f ins { ret := x, deep := dp, io := io }) : FnOK P f ins { ret := x, deep := false, io := io } := by
  cases dp with
  | false => exact h
  | true =>
    intro w args Sd Mm ha hn hd
    exact (h w args Sd Mm ha hn hd).mono fun v w' hp => hp.share
theorem stepR_ok {M : Prm} (hM : PrmOK M) {R : Tb} (hS : SumOK M.P (mkS M R)) : SumOK M.P (mkS M (stepR M R)) := by
  have ho : ∀ f ds r, (stepR M R).o f ds = some r → FnOK M.P f (inO (M.mode f) ds) { ret := r, deep := false } ∧ (M.mode f ≠ 1 → FnOK M.P f (inO (M.mode f) ds) { ret := r }) := by
    intro f ds r h
    obtain ⟨_, h⟩ := ite_inv h
    obtain ⟨x, h1, h2⟩ := bind_inv h
    have hf := runO_ok hM hS h1
    unfold outO at h2
    obtain ⟨⟨h3, h4⟩, h2⟩ := ite_inv h2
    obtain ⟨h5, h2⟩ := ite_inv h2
    cases h2
    obtain ⟨ret, deep, io⟩ := x
    simp only [Option.isNone_iff_eq_none] at h4
    subst h4
    refine ⟨hf.share, fun hm => ?_⟩
    rcases h3 with h3 | h3
    · exact absurd h3 hm
    · simp only at h3; subst h3; exact hf
  have hi : ∀ f x ds r, (stepR M R).i f x ds = some r → FnOK M.P f (.io x :: ds.map .d) { ret := r.1, io := some r.2 } := by
    intro f x ds r h
    obtain ⟨_, h⟩ := ite_inv h
    obtain ⟨y, h1, h2⟩ := bind_inv h
    have hf := runF_ok hM hS h1
    unfold outI at h2
    split at h2
    case h_2 => cases h2
    rename_i z e
    obtain ⟨h3, h2⟩ := ite_inv h2
    obtain ⟨h5, h2⟩ := ite_inv h2
    cases h2
    obtain ⟨ret, deep, io⟩ := y
    simp only at e h3
    subst e h3
    exact hf
  intro f s h
  unfold mkS at h
  split at h
  · rename_i s' e
    cases h
    exact hM.given f s e
  · split at h
    all_goals rename_i e0 e; cases h
    · exact fun ds r h => by have := (ho f ds r h).2 (by rw [e]; decide); rwa [e, inO_d (by decide)] at this
    · exact fun ds r h => by have := (ho f ds r h).1; rwa [e, inO_d (by decide)] at this
    · exact fun x ds r h => by have := (ho f (x :: ds) r h).2 (by rw [e]; decide); rwa [e] at this
    · exact fun ds r h => by have := (ho f ds r h).2 (by rw [e]; decide); rwa [e, inO_d (by decide)] at this
    · exact fun x ds r h => hi f x ds r h
theorem runN_ok {M : Prm} (hM : PrmOK M) : ∀ n, SumOK M.P (mkS M (runN M n))
  | 0 => by
    intro f s h
    unfold mkS at h
    split at h
    · rename_i s' e
      cases h
      exact hM.given f s e
    · split at h <;> cases h
      · intro ds r h; cases h
      · intro ds r h; cases h
      · intro x ds r h; cases h
      · intro ds r h; cases h
      · intro x ds r h; cases h
  | n + 1 => stepR_ok hM (runN_ok hM n)
theorem lastR_ok {M : Prm} (hM : PrmOK M) : SumOK M.P (mkS M (lastR M)) := by
  intro f s h
  unfold mkS at h
  split at h
  · rename_i s' e
    cases h
    exact hM.given f s e
  · rename_i e
    split at h <;> rename_i e0 e1 <;> cases h
    · intro ds r h
      obtain ⟨n, h⟩ := lim_inv h
      exact runN_ok hM n f (.own ((runN M n).o f)) (by unfold mkS; simp only [e, e1]) ds r h
    · intro ds r h
      obtain ⟨n, h⟩ := lim_inv h
      exact runN_ok hM n f (.shared ((runN M n).o f)) (by unfold mkS; simp only [e, e1]) ds r h
    · intro x ds r h
      obtain ⟨n, h⟩ := lim_inv h
      exact runN_ok hM n f (.eat fun x ds => (runN M n).o f (x :: ds)) (by unfold mkS; simp only [e, e1]) x ds r h
    · intro ds r h
      obtain ⟨n, h⟩ := lim_inv h
      exact runN_ok hM n f (.own ((runN M n).o f)) (by unfold mkS; simp only [e, e1]) ds r h
    · intro x ds r h
      obtain ⟨n, h⟩ := lim_inv h
      refine runN_ok hM n f (.io ((runN M n).i f)) ?_ x ds r h
      unfold mkS
      simp only [e]
end Go.Fs

set_option linter.unusedVariables false
set_option linter.constructorNameAsVariable false
namespace Go.Fs
open Go.RowKit

/-! ### the last table answers by itself -/
def Evt (p : Nat → Prop) : Prop := ∃ N, ∀ m, N ≤ m → p m
theorem Evt.all {p : Nat → Prop} (h : ∀ m, p m) : Evt p := ⟨0, fun m _ => h m⟩
theorem Evt.mono {p q : Nat → Prop} (h : Evt p) (k : ∀ m, p m → q m) : Evt q := by
  obtain ⟨N, h⟩ := h
  exact ⟨N, fun m hm => k m (h m hm)⟩
theorem Evt.and {p q : Nat → Prop} (h : Evt p) (k : Evt q) : Evt fun m => p m ∧ q m := by
  obtain ⟨N, h⟩ := h
  obtain ⟨N', k⟩ := k
  exact ⟨N + N', fun m hm => ⟨h m (by omega), k m (by omega)⟩⟩
def TendsS (S : Nat → Option Summ) (f : FuncId) : Summ → Prop
  | .own F' => ∀ ds r, F' ds = some r → ∃ F, S f = some (.own F) ∧ F ds = some r
  | .shared F' => ∀ ds r, F' ds = some r → ∃ F, S f = some (.shared F) ∧ F ds = some r
  | .io F' => ∀ x ds r, F' x ds = some r → ∃ F, S f = some (.io F) ∧ F x ds = some r
  | .eat F' => ∀ x ds r, F' x ds = some r → ∃ F, S f = some (.eat F) ∧ F x ds = some r
structure Tends (S : Nat → Nat → Option Summ) (S' : Nat → Option Summ) : Prop where
  own : ∀ f F', S' f = some (.own F') → ∀ ds r, F' ds = some r → Evt fun m => ∃ F, S m f = some (.own F) ∧ F ds = some r
  shared : ∀ f F', S' f = some (.shared F') → ∀ ds r, F' ds = some r → Evt fun m => ∃ F, S m f = some (.shared F) ∧ F ds = some r
  io : ∀ f F', S' f = some (.io F') → ∀ x ds r, F' x ds = some r → Evt fun m => ∃ F, S m f = some (.io F) ∧ F x ds = some r
  eat : ∀ f F', S' f = some (.eat F') → ∀ x ds r, F' x ds = some r → Evt fun m => ∃ F, S m f = some (.eat F) ∧ F x ds = some r
section
variable {S : Nat → Nat → Option Summ} {S' : Nat → Option Summ} {T : Tab} {aa : AV}
theorem callE_tends (ht : Tends S S') {s : St} {dst : Option Nat} {f : FuncId} {args : List AV} {s' : St} (h : callE ⟨T, S', aa⟩ s dst f args = some s') : Evt fun m => callE ⟨T, S m, aa⟩ s dst f args = some s' := by
  unfold callE at h
  split at h
  · cases h
  · rename_i F e
    obtain ⟨ds, h1, h⟩ := bind_inv h
    obtain ⟨r, h2, h⟩ := bind_inv h
    refine (ht.own f F e ds r h2).mono fun m ⟨F', e1, e2⟩ => ?_
    simp only [callE, e1, h1, Option.bind_some, e2]
    exact h
  · rename_i F e
    obtain ⟨H1, h1, h⟩ := bind_inv h
    obtain ⟨h2, h⟩ := ite_inv h
    obtain ⟨ds, h3, h⟩ := bind_inv h
    obtain ⟨r, h4, h⟩ := bind_inv h
    refine (ht.shared f F e ds r h4).mono fun m ⟨F', e1, e2⟩ => ?_
    simp only [callE, e1, h1, Option.bind_some, sharedE, h2, if_true, h3, e2]
    exact h
  · rename_i F e
    split at h
    · cases h
    · rename_i k ve i o rest
      split at h
      case h_2 => cases h
      rename_i sz xs ve' e2
      obtain ⟨⟨e5, h1b⟩, h1c⟩ := ite_inv h
      subst e5
      obtain ⟨cs, h8, h⟩ := bind_inv h1c
      obtain ⟨x, h9, h⟩ := bind_inv h
      obtain ⟨ds, h2, h⟩ := bind_inv h
      obtain ⟨r, h3, h⟩ := bind_inv h
      refine (ht.io f F e _ ds r h3).mono fun m ⟨F', e3, e4⟩ => ?_
      simp only [callE, e3, e2, h1b, and_self, if_true, h8, Option.bind_some, nestC, h9, h2, e4]
      exact h
    · rename_i io rest hne
      obtain ⟨x, h1, h⟩ := bind_inv h
      obtain ⟨ds, h2, h⟩ := bind_inv h
      obtain ⟨r, h3, h⟩ := bind_inv h
      refine (ht.io f F e _ ds r h3).mono fun m ⟨F', e3, e4⟩ => ?_
      unfold callE
      simp only [e3, h1, h2, Option.bind_some, e4]
      exact h
  · rename_i F e
    obtain ⟨y, h1, h⟩ := bind_inv h
    obtain ⟨x, ds, r, h2, h3⟩ := eatC_inv h1
    refine (ht.eat f F e _ ds r h2).mono fun m ⟨F', e1, e2⟩ => ?_
    simp only [callE, e1, h3 F' e2, Option.bind_some]
    exact h
theorem opE_tends (ht : Tends S S') {o : Oper} {s s' : St} (h : opE ⟨T, S', aa⟩ o s = some s') : Evt fun m => opE ⟨T, S m, aa⟩ o s = some s' := by
  by_cases hc : ∃ c f, o.op = .call c ∧ c.callee = .value f
  · obtain ⟨c, f, e1, e2⟩ := hc
    simp only [opE, e1, e2] at h ⊢
    split at h
    · exact callE_tends ht h
    · obtain ⟨h1, h⟩ := ite_inv h
      simp only [h1, if_true]
      exact callE_tends ht h
    · cases h
  · refine Evt.all fun m => ?_
    rw [← h]
    unfold opE
    split
    all_goals try rfl
    rename_i c e1
    split
    · rename_i f e2; exact absurd ⟨c, f, e1, e2⟩ hc
    · rfl
theorem opG_tends (ht : Tends S S') {ops : List Oper} {o : Oper} {s s' : St} (h : opG ⟨T, S', aa⟩ ops o s = some s') : Evt fun m => opG ⟨T, S m, aa⟩ ops o s = some s' := by
  unfold opG at h ⊢
  split at h
  · exact opE_tends ht h
  · split at h
    · exact Evt.all fun m => h
    · split at h
      · split at h
        · rename_i e
          simp only [e, if_true]
          split at h
          · exact opE_tends ht h
          · exact Evt.all fun m => h
        · rename_i e
          simp only [e]
          split at h
          · exact Evt.all fun m => h
          · exact opE_tends ht h
      · exact Evt.all fun m => h
      · cases h
theorem opsE_tends (ht : Tends S S') {ops : List Oper} : ∀ {os : List Oper} {s s' : St}, opsE ⟨T, S', aa⟩ ops os s = some s' → Evt fun m => opsE ⟨T, S m, aa⟩ ops os s = some s'
  | [], s, s', h => Evt.all fun m => h
  | o :: os, s, s', h => by
    obtain ⟨s1, h1, h⟩ := bind_inv h
    refine ((opG_tends ht h1).and (opsE_tends ht h)).mono fun m ⟨e1, e2⟩ => ?_
    simp only [opsE, e1, Option.bind_some, e2]
theorem qE_tends (ht : Tends S S') {o : Oper} {s : St} {av : AV} (h : qE ⟨T, S', aa⟩ o s = some av) : Evt fun m => qE ⟨T, S m, aa⟩ o s = some av := by
  by_cases hc : ∃ c f, o.op = .call c ∧ c.callee = .value f
  · obtain ⟨c, f, e1, e2⟩ := hc
    simp only [qE, e1, e2] at h ⊢
    split at h
    · rename_i fn caps e3
      split at h
      · rename_i F e4
        obtain ⟨ds, h1, h⟩ := bind_inv h
        obtain ⟨r, h2, h⟩ := bind_inv h
        refine (ht.own fn F e4 ds r h2).mono fun m ⟨F', e5, e6⟩ => ?_
        simp only [e5, h1, Option.bind_some, e6]
        exact h
      · rename_i F e4
        obtain ⟨h0, h⟩ := ite_inv h
        obtain ⟨ds, h1, h⟩ := bind_inv h
        obtain ⟨r, h2, h⟩ := bind_inv h
        refine (ht.shared fn F e4 ds r h2).mono fun m ⟨F', e5, e6⟩ => ?_
        simp only [e5, h0, if_true, h1, Option.bind_some, e6]
        exact h
      · cases h
    · cases h
  · refine Evt.all fun m => ?_
    rw [← h]
    unfold qE
    split
    all_goals try rfl
    rename_i c e1
    split
    · rename_i f e2; exact absurd ⟨c, f, e1, e2⟩ hc
    · rfl
theorem qGE_tends (ht : Tends S S') {ops : List Oper} {o : Oper} {s : St} {av : AV} (h : qGE ⟨T, S', aa⟩ ops o s = some av) : Evt fun m => qGE ⟨T, S m, aa⟩ ops o s = some av := by
  unfold qGE at h ⊢
  split at h
  · exact qE_tends ht h
  · split at h
    · exact Evt.all fun m => h
    · split at h
      · split at h
        · rename_i e
          simp only [e, if_true]
          split at h
          · exact qE_tends ht h
          · exact Evt.all fun m => h
        · rename_i e
          simp only [e]
          split at h
          · exact Evt.all fun m => h
          · exact qE_tends ht h
      · exact Evt.all fun m => h
      · cases h
theorem qsE_tends (ht : Tends S S') {ops : List Oper} : ∀ {os : List Oper} {s s' : St}, qsE ⟨T, S', aa⟩ ops os s = some s' → Evt fun m => qsE ⟨T, S m, aa⟩ ops os s = some s'
  | [], s, s', h => Evt.all fun m => h
  | o :: os, s, s', h => by
    unfold qsE at h
    split at h
    · rename_i d e
      obtain ⟨h1, h⟩ := ite_inv h
      obtain ⟨av, h2, h⟩ := bind_inv h
      refine ((qGE_tends ht h2).and (qsE_tends ht h)).mono fun m ⟨e1, e2⟩ => ?_
      simp only [qsE, e, h1, if_true, e1, Option.bind_some, e2]
    · cases h
theorem xsE_tends (ht : Tends S S') {ops : Array Oper} : ∀ {is : List Nat} {s s' : St}, xsE ⟨T, S', aa⟩ ops is s = some s' → Evt fun m => xsE ⟨T, S m, aa⟩ ops is s = some s'
  | [], s, s', h => Evt.all fun m => h
  | i :: is, s, s', h => by
    unfold xsE at h
    split at h
    · rename_i o e
      obtain ⟨s1, h1, h⟩ := bind_inv h
      have hx : Evt fun m => xE ⟨T, S m, aa⟩ ops i o s = some s1 := by
        unfold xE at h1 ⊢
        split at h1
        · exact opG_tends ht h1
        · exact Evt.all fun m => h1
        · by_cases hc : ∃ c f, o.op = .call c ∧ c.callee = .value f
          · obtain ⟨c, f, e1, e2⟩ := hc
            simp only [frE, e1, e2] at h1 ⊢
            split at h1
            · rename_i fn caps e3
              split at h1
              · rename_i F e4
                obtain ⟨ds, h2, h1⟩ := bind_inv h1
                obtain ⟨r, h3, h1⟩ := bind_inv h1
                refine (ht.own fn F e4 ds r h3).mono fun m ⟨F', e5, e6⟩ => ?_
                simp only [e5, h2, Option.bind_some, e6]
                exact h1
              · cases h1
            · cases h1
          · refine Evt.all fun m => ?_
            rw [← h1]
            unfold frE
            split
            all_goals try rfl
            rename_i c e1
            split
            · rename_i f e2; exact absurd ⟨c, f, e1, e2⟩ hc
            · rfl
      refine (hx.and (xsE_tends ht h)).mono fun m ⟨e1, e2⟩ => ?_
      simp only [xsE, e, e1, Option.bind_some, e2]
    · cases h
theorem gsE_tends (ht : Tends S S') {ops : List Oper} : ∀ {L : List (List Oper)} {s s' : St}, gsE ⟨T, S', aa⟩ ops L s = some s' → Evt fun m => gsE ⟨T, S m, aa⟩ ops L s = some s'
  | [], s, s', h => Evt.all fun m => h
  | os :: L, s, s', h => by
    have plain : ∀ {s' : St}, (opsE ⟨T, S', aa⟩ ops os s).bind (gsE ⟨T, S', aa⟩ ops L) = some s' → Evt fun m => (opsE ⟨T, S m, aa⟩ ops os s).bind (gsE ⟨T, S m, aa⟩ ops L) = some s' := by
      intro s' h
      obtain ⟨s1, h1, h2⟩ := bind_inv h
      refine ((opsE_tends ht h1).and (gsE_tends ht h2)).mono fun m ⟨e1, e2⟩ => ?_
      rw [e1, Option.bind_some, e2]
    unfold gsE at h ⊢
    split at h
    · rename_i e0
      simp only [e0, if_true]
      split at h
      · rename_i e9
        simp only [e9]
        obtain ⟨v, h1, h2⟩ := bind_inv h
        obtain ⟨s0, h3, h4⟩ := bind_inv h1
        refine ((qsE_tends ht h3).and (gsE_tends ht h2)).mono fun m ⟨e1, e2⟩ => ?_
        simp only [gdE, e1, Option.bind_some, h4, e2]
      · rename_i e9
        simp only [e9]
        exact plain h
    · rename_i e0
      simp only [e0]
      exact plain h
theorem regE_tends (ht : Tends S S') {ops : Array Oper} {dr : Bool} {s s' : St} (h : regE ⟨T, S', aa⟩ ops dr s = some s') : Evt fun m => regE ⟨T, S m, aa⟩ ops dr s = some s' := by
  unfold regE at h ⊢
  split at h
  · rename_i e0
    simp only [e0, if_true]
    split at h
    · rename_i hd
      simp only [hd, if_true]
      obtain ⟨h1, h⟩ := ite_inv h
      simp only [h1, if_true]
      split at h
      · rename_i e9
        simp only [e9]
        obtain ⟨v, h2, h⟩ := Option.map_eq_some_iff.1 h
        obtain ⟨s0, h3, h4⟩ := bind_inv h2
        refine (qsE_tends ht h3).mono fun m e1 => ?_
        simp only [gdE, e1, Option.bind_some, h4, Option.map_some, h]
      · rename_i e9
        simp only [e9]
        exact qsE_tends ht h
    · rename_i hd
      simp only [hd]
      exact gsE_tends ht h
  · rename_i e0
    simp only [e0]
    split at h
    · rename_i hd
      simp only [hd, if_true]
      split at h
      · rename_i h1
        simp only [h1, if_true]
        exact qsE_tends ht h
      · rename_i h1
        obtain ⟨h2, h⟩ := ite_inv h
        simp only [h1, h2, if_true]
        exact xsE_tends ht h
    · rename_i hd
      simp only [hd]
      exact opsE_tends ht h
theorem stepY_tends (ht : Tends S S') {ops : Array Oper} {o : Oper} {s s' : St} (h : stepY ⟨T, S', aa⟩ ops o s = some s') : Evt fun m => stepY ⟨T, S m, aa⟩ ops o s = some s' := by
  unfold stepY at h ⊢
  split at h
  · rename_i hw
    simp only [hw, if_true]
    exact opG_tends ht h
  · rename_i hw
    simp only [hw]
    split at h
    · rename_i d e
      obtain ⟨h1, h⟩ := ite_inv h
      obtain ⟨av, h2, h⟩ := bind_inv h
      refine (qGE_tends ht h2).mono fun m e1 => ?_
      simp only [e1, Option.bind_some, h1, if_true]
      exact h
    · cases h
theorem trY_tends (ht : Tends S S') {ops : Array Oper} : ∀ {os : List Oper} {s : St} {L : List St}, trY ⟨T, S', aa⟩ ops os s = some L → Evt fun m => trY ⟨T, S m, aa⟩ ops os s = some L
  | [], s, L, h => Evt.all fun m => h
  | o :: os, s, L, h => by
    obtain ⟨s1, h1, h⟩ := bind_inv h
    obtain ⟨L', h2, rfl⟩ := Option.map_eq_some_iff.1 h
    refine ((stepY_tends ht h1).and (trY_tends ht h2)).mono fun m ⟨e1, e2⟩ => ?_
    simp only [trY, e1, Option.bind_some, e2, Option.map_some]
theorem chkY_tends (ht : Tends S S') {ops : Array Oper} {L : List St} {x : Nat × Nat} (h : chkY ⟨T, S', aa⟩ ops L x) : Evt fun m => chkY ⟨T, S m, aa⟩ ops L x := by
  unfold chkY at h ⊢
  split at h
  · split at h
    · exact qGE_tends ht h
    · exact h.elim
  · exact h.elim
theorem chks_tends (ht : Tends S S') {ops : Array Oper} {L : List St} : ∀ {prs : List (Nat × Nat)}, (∀ x ∈ prs, chkY ⟨T, S', aa⟩ ops L x) → Evt fun m => ∀ x ∈ prs, chkY ⟨T, S m, aa⟩ ops L x
  | [], _ => Evt.all fun m => by simp
  | x :: xs, h => by
    refine ((chkY_tends ht (h x (.head _))).and (chks_tends ht fun y hy => h y (.tail _ hy))).mono fun m ⟨e1, e2⟩ y hy => ?_
    cases hy with
    | head => exact e1
    | tail _ hy => exact e2 y hy
theorem regY_tends (ht : Tends S S') {hint : List Nat} {ops : Array Oper} {dr : Bool} {s s' : St} (h : regY ⟨T, S', aa⟩ hint ops dr s = some s') : Evt fun m => regY ⟨T, S m, aa⟩ hint ops dr s = some s' := by
  unfold regY at h ⊢
  split at h
  · exact regE_tends ht h
  · split at h
    · rename_i hd
      simp only [hd, if_true]
      unfold planE at h ⊢
      obtain ⟨h1, h⟩ := ite_inv h
      obtain ⟨L, h2, h⟩ := bind_inv h
      obtain ⟨h3, h⟩ : (∀ x ∈ prsOf _, chkY ⟨T, S', aa⟩ ops L x) ∧ L[ops.size]? = some s' := by
        split at h
        · exact ⟨by assumption, h⟩
        · cases h
      refine ((trY_tends ht h2).and (chks_tends ht h3)).mono fun m ⟨e1, e2⟩ => ?_
      rw [if_pos h1, e1, Option.bind_some, if_pos e2]
      exact h
    · rename_i hd
      simp only [Bool.not_eq_true] at hd
      subst hd
      simp only [Bool.false_eq_true, if_false]
      exact regE_tends ht h
theorem ev_tends (ht : Tends S S') {lv : Nat → List Nat} : ∀ (c : Code) {s : St} {r : Exit × St}, ev ⟨T, S', aa⟩ lv c s = some r → Evt fun m => ev ⟨T, S m, aa⟩ lv c s = some r := by
  intro c
  induction c with
  | region id ops dr =>
    intro s r h
    simp only [ev, Option.map_eq_some_iff] at h ⊢
    obtain ⟨s', h, rfl⟩ := h
    exact (regY_tends ht h).mono fun m e => ⟨s', e, rfl⟩
  | seq x y ihx ihy =>
    intro s r h
    simp only [ev] at h ⊢
    obtain ⟨r1, h1, h2⟩ := bind_inv h
    rcases thenR_inv h2 with ⟨s2, rfl, h2⟩ | ⟨h3, rfl⟩
    · refine ((ihx h1).and (ihy h2)).mono fun m ⟨e1, e2⟩ => ?_
      rw [e1, Option.bind_some, thenR_go, e2]
    · refine (ihx h1).mono fun m e1 => ?_
      rw [e1, Option.bind_some, thenR_out h3]
  | cond c x y ihx ihy =>
    intro s r h
    simp only [ev] at h ⊢
    split at h
    case h_2 => cases h
    split at h
    · rename_i e
      simp only [e, if_true]
      exact ihx h
    · rename_i e
      simp only [e]
      exact ihy h
  | block id b ih =>
    intro s r h
    simp only [ev, Option.map_eq_some_iff] at h ⊢
    obtain ⟨r1, h, e⟩ := h
    exact (ih h).mono fun m e1 => ⟨r1, e1, e⟩
  | loop b ih =>
    intro s r h
    have hm : ∀ m n, itE aa (lv (cid b)) (ev ⟨T, S m, aa⟩ lv b) n s = some r → ev ⟨T, S m, aa⟩ lv (.loop b) s = some r := fun m n e => by
      simp only [ev]
      exact lim_some (fun n r h => itE_mono n s r h) e
    simp only [ev] at h
    obtain ⟨n, h⟩ := lim_inv h
    have key : ∀ n s, itE aa (lv (cid b)) (ev ⟨T, S', aa⟩ lv b) n s = some r → Evt fun m => itE aa (lv (cid b)) (ev ⟨T, S m, aa⟩ lv b) n s = some r := by
      intro n
      induction n with
      | zero => intro s h; cases h
      | succ n ihn =>
        intro s h
        unfold itE at h
        obtain ⟨s1, h1, h⟩ := bind_inv h
        obtain ⟨x, h2, h⟩ := bind_inv h
        rcases thenR_inv h with ⟨s2, rfl, h⟩ | ⟨h3, rfl⟩
        · refine ((ih h2).and (ihn s2 h)).mono fun m ⟨e1, e2⟩ => ?_
          unfold itE
          rw [h1, Option.bind_some, e1, Option.bind_some, thenR_go, e2]
        · refine (ih h2).mono fun m e1 => ?_
          unfold itE
          rw [h1, Option.bind_some, e1, Option.bind_some, thenR_out h3]
    exact (key n s h).mono fun m e => hm m n e
  | _ =>
    intro s r h
    exact Evt.all fun m => by simpa only [ev] using h
end
theorem runF_tends {M : Prm} {S : Nat → Nat → Option Summ} {S' : Nat → Option Summ} (ht : Tends S S') {f : FuncId} {ins : List In} {r : Ret} (h : runF M S' f ins = some r) : Evt fun m => runF M (S m) f ins = some r := by
  unfold runF at h ⊢
  split at h
  · cases h
  rename_i fn hf
  split at h
  · cases h
  rename_i c hb
  obtain ⟨h0, h⟩ := ite_inv h
  obtain ⟨x, h1, h2⟩ := bind_inv h
  refine (ev_tends ht c h1).mono fun m e => ?_
  rw [if_pos h0]
  unfold runB
  rw [e, Option.bind_some, h2]

theorem runFM_tends {M : Prm} {S : Nat → Nat → Option Summ} {S' : Nat → Option Summ} (ht : Tends S S') {f : FuncId} {ins : List In} {r : Ret} (h : runFM M S' f ins = some r) : Evt fun m => runFM M (S m) f ins = some r := by
  unfold runFM at h ⊢
  split at h
  · cases h
  rename_i fn hf
  split at h
  · cases h
  rename_i c hb
  obtain ⟨h0, h⟩ := ite_inv h
  obtain ⟨x, h1, h2⟩ := bind_inv h
  refine (ev_tends ht c h1).mono fun m e => ?_
  rw [if_pos h0]
  unfold runBM
  rw [e, Option.bind_some, h2]
theorem runO_tends {M : Prm} {S : Nat → Nat → Option Summ} {S' : Nat → Option Summ} (ht : Tends S S') {f : FuncId} {ds : List D} {r : Ret} (h : runO M S' f ds = some r) : Evt fun m => runO M (S m) f ds = some r := by
  unfold runO at h ⊢
  split at h
  · rename_i e; simp only [e, if_true]; exact runFM_tends ht h
  · rename_i e; simp only [e, if_false]; exact runF_tends ht h

theorem mkS_tends {M : Prm} {R : Nat → Tb} {R' : Tb} (ho : ∀ f ds r, R'.o f ds = some r → Evt fun m => (R m).o f ds = some r) (hi : ∀ f x ds r, R'.i f x ds = some r → Evt fun m => (R m).i f x ds = some r) : Tends (fun m => mkS M (R m)) (mkS M R') := by
  refine ⟨fun f F' h ds r hr => ?_, fun f F' h ds r hr => ?_, fun f F' h x ds r hr => ?_, fun f F' h x ds r hr => ?_⟩
  all_goals
    unfold mkS at h ⊢
    split at h
    · cases h
      rename_i e
      exact Evt.all fun m => ⟨F', by simp only [e], hr⟩
    · rename_i e
      split at h <;> cases h
      all_goals first
        | exact (ho f ds r hr).mono fun m e1 => ⟨_, rfl, e1⟩
        | exact (hi f x ds r hr).mono fun m e1 => ⟨_, rfl, e1⟩
        | exact (ho f (x :: ds) r hr).mono fun m e1 => ⟨fun x ds => (R m).o f (x :: ds), rfl, e1⟩
theorem runN_mono (M : Prm) : ∀ n, (∀ f ds r, (runN M n).o f ds = some r → (runN M (n + 1)).o f ds = some r) ∧ (∀ f x ds r, (runN M n).i f x ds = some r → (runN M (n + 1)).i f x ds = some r)
  | 0 => ⟨fun f ds r h => (by cases h), fun f x ds r h => (by cases h)⟩
  | n + 1 => by
    obtain ⟨i1, i2⟩ := runN_mono M n
    have ht := mkS_tends (M := M) (R := fun _ => runN M (n + 1)) (R' := runN M n) (fun f ds r h => Evt.all fun _ => i1 f ds r h) (fun f x ds r h => Evt.all fun _ => i2 f x ds r h)
    have hN : ∀ {p : Prop}, Evt (fun _ => p) → p := fun h => by obtain ⟨N, h⟩ := h; exact h N (Nat.le_refl N)
    refine ⟨fun f ds r h => ?_, fun f x ds r h => ?_⟩
    · obtain ⟨h0, h⟩ := ite_inv h
      obtain ⟨y, h1, h2⟩ := bind_inv h
      show (if M.achk f ds = true then (runO M (mkS M (runN M (n + 1))) f ds).bind (outO M f) else none) = some r
      rw [if_pos h0, hN (runO_tends ht h1), Option.bind_some, h2]
    · obtain ⟨h0, h⟩ := ite_inv h
      obtain ⟨y, h1, h2⟩ := bind_inv h
      show (if M.achk f (x :: ds) = true then (runF M (mkS M (runN M (n + 1))) f (.io x :: ds.map .d)).bind (outI M f) else none) = some r
      rw [if_pos h0, hN (runF_tends ht h1), Option.bind_some, h2]
theorem lastR_up (M : Prm) : (∀ f ds r, (lastR M).o f ds = some r → Evt fun m => (runN M m).o f ds = some r) ∧ (∀ f x ds r, (lastR M).i f x ds = some r → Evt fun m => (runN M m).i f x ds = some r) := by
  refine ⟨fun f ds r h => ?_, fun f x ds r h => ?_⟩
  · obtain ⟨n, h⟩ := lim_inv h
    exact ⟨n, fun m hm => mono_le (g := fun n => (runN M n).o f ds) (fun n r h => (runN_mono M n).1 f ds r h) hm h⟩
  · obtain ⟨n, h⟩ := lim_inv h
    exact ⟨n, fun m hm => mono_le (g := fun n => (runN M n).i f x ds) (fun n r h => (runN_mono M n).2 f x ds r h) hm h⟩
/-- What a function answers is what its code answers. -/
theorem lastR_o (M : Prm) (f : FuncId) (ds : List D) : (lastR M).o f ds = if M.achk f ds = true then (runO M (mkS M (lastR M)) f ds).bind (outO M f) else none := by
  apply Option.ext
  intro r
  constructor
  · intro h
    obtain ⟨n, h⟩ := lim_inv h
    cases n with
    | zero => cases h
    | succ n =>
      obtain ⟨h0, h⟩ := ite_inv h
      obtain ⟨y, h1, h2⟩ := bind_inv h
      have ht := mkS_tends (M := M) (R := fun _ => lastR M) (R' := runN M n) (fun f ds r h => Evt.all fun _ => lim_some (fun n r h => (runN_mono M n).1 f ds r h) h) (fun f x ds r h => Evt.all fun _ => lim_some (fun n r h => (runN_mono M n).2 f x ds r h) h)
      obtain ⟨N, h3⟩ := runO_tends ht h1
      rw [if_pos h0, h3 N (Nat.le_refl N), Option.bind_some, h2]
  · intro h
    obtain ⟨h0, h⟩ := ite_inv h
    obtain ⟨y, h1, h2⟩ := bind_inv h
    obtain ⟨N, h3⟩ := runO_tends (mkS_tends (M := M) (R := runN M) (R' := lastR M) (lastR_up M).1 (lastR_up M).2) h1
    refine lim_some (fun n r h => (runN_mono M n).1 f ds r h) (n := N + 1) ?_
    show (if M.achk f ds = true then (runO M (mkS M (runN M N)) f ds).bind (outO M f) else none) = some r
    rw [if_pos h0, h3 N (Nat.le_refl N), Option.bind_some, h2]
theorem lastR_i (M : Prm) (f : FuncId) (x : D) (ds : List D) : (lastR M).i f x ds = if M.achk f (x :: ds) = true then (runF M (mkS M (lastR M)) f (.io x :: ds.map .d)).bind (outI M f) else none := by
  apply Option.ext
  intro r
  constructor
  · intro h
    obtain ⟨n, h⟩ := lim_inv h
    cases n with
    | zero => cases h
    | succ n =>
      obtain ⟨h0, h⟩ := ite_inv h
      obtain ⟨y, h1, h2⟩ := bind_inv h
      have ht := mkS_tends (M := M) (R := fun _ => lastR M) (R' := runN M n) (fun f ds r h => Evt.all fun _ => lim_some (fun n r h => (runN_mono M n).1 f ds r h) h) (fun f x ds r h => Evt.all fun _ => lim_some (fun n r h => (runN_mono M n).2 f x ds r h) h)
      obtain ⟨N, h3⟩ := runF_tends ht h1
      rw [if_pos h0, h3 N (Nat.le_refl N), Option.bind_some, h2]
  · intro h
    obtain ⟨h0, h⟩ := ite_inv h
    obtain ⟨y, h1, h2⟩ := bind_inv h
    obtain ⟨N, h3⟩ := runF_tends (mkS_tends (M := M) (R := runN M) (R' := lastR M) (lastR_up M).1 (lastR_up M).2) h1
    refine lim_some (fun n r h => (runN_mono M n).2 f x ds r h) (n := N + 1) ?_
    show (if M.achk f (x :: ds) = true then (runF M (mkS M (runN M N)) f (.io x :: ds.map .d)).bind (outI M f) else none) = some r
    rw [if_pos h0, h3 N (Nat.le_refl N), Option.bind_some, h2]
end Go.Fs
