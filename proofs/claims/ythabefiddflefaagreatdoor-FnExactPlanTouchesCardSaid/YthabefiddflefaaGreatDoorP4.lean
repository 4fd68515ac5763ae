/- A part of the proof: an evaluator of the program's code over plain data, proved sound; the equations of its functions; what they compute. No conditions beyond those in the theorems. -/
import Derived.Lib.AtoiAll
import Derived.Lib.IndexMore
import Derived.Lib.ItoaNum
import Derived.Lib.Join
import Derived.Lib.Split
import Derived.Lib.SplitLaws
import Derived.SizedLaws
import Derived.ChangeArms
import Derived.DataReads
import Derived.Test.YthabefiddflefaaGreatDoorP3
import Derived.Test.YthabefiddflefaaGreatDoorP2
set_option linter.unusedVariables false
set_option linter.unusedSimpArgs false
set_option linter.constructorNameAsVariable false
set_option linter.unusedSectionVars false
set_option linter.defProp false
namespace Go.Fs
open Cel (cel unc)
open Dat (enc dec)
open Arg (ea da)
open Go.RowKit
section
variable {ρ : Type} (A : Env) (lv : Nat → List Nat)
noncomputable def evK (c : Code) (K : Exit × St → Option ρ) (s : St) : Option ρ := (ev A lv c s).bind K
noncomputable def thenK (y : Code) (K : Exit × St → Option ρ) : Exit × St → Option ρ
 | (.normal, s) => evK A lv y K s
 | r => K r
def blkK (id : Nat) (K : Exit × St → Option ρ) (r : Exit × St) : Option ρ := K (inBlk id r.1, r.2)
noncomputable def lpK (b : Code) (K : Exit × St → Option ρ) : Exit × St → Option ρ
 | (.normal, s) => evK A lv (.loop b) K s
 | r => K r
noncomputable def evR (b : Code) (K : Exit × St → Option ρ) (s : St) : Option ρ := evK A lv b (lpK A lv b K) s
def regK (K : Exit × St → Option ρ) (s : St) : Option ρ := K (.normal, s)
theorem thenK_eq (y : Code) (K : Exit × St → Option ρ) (r : Exit × St) : (thenR (ev A lv y) r).bind K = thenK A lv y K r := by
 obtain ⟨e, s⟩ := r
 cases e <;> rfl
theorem evK_seq (x y : Code) (K : Exit × St → Option ρ) (s : St) : evK A lv (.seq x y) K s = evK A lv x (thenK A lv y K) s := by
 unfold evK
 simp only [ev, Option.bind_assoc]
 congr 1
 funext r
 exact thenK_eq A lv y K r
theorem evK_loop (b : Code) (K : Exit × St → Option ρ) (s : St) : evK A lv (.loop b) K s = (rnd A.aa (lv (cid b)) s).bind (evR A lv b K) := by
 unfold evK
 rw [ev_loop]
 simp only [Option.bind_assoc]
 congr 1
 funext s1
 unfold evR evK
 congr 1
 funext r
 obtain ⟨e, s2⟩ := r
 cases e <;> rfl
theorem evK_block (id : Nat) (b : Code) (K : Exit × St → Option ρ) (s : St) : evK A lv (.block id b) K s = evK A lv b (blkK id K) s := by
 unfold evK
 simp only [ev, Option.bind_map]
 rfl
theorem evK_region (id : Nat) (ops : Array Oper) (dr : Bool) (K : Exit × St → Option ρ) (s : St) : evK A lv (.region id ops dr) K s = (regX A (lv (rkey id)) ops dr s).bind K := by
 unfold evK
 simp only [ev]
theorem regX_nil (ops : Array Oper) (dr : Bool) (K : Exit × St → Option ρ) (s : St) : (regX A [] ops dr s).bind K = (regY A [] ops dr s).bind (regK K) := by
 unfold regX
 simp only [Option.bind_map]
 rfl
theorem regX_0 (hs : List Nat) (ops : Array Oper) (dr : Bool) (K : Exit × St → Option ρ) (s : St) : (regX A (0 :: hs) ops dr s).bind K = (regY A (0 :: hs) ops dr s).bind (regK K) := by
 unfold regX
 simp only [Option.bind_map]
 rfl
theorem regX_7 (hs : List Nat) (ops : Array Oper) (dr : Bool) (K : Exit × St → Option ρ) (s : St) : (regX A (7 :: hs) ops dr s).bind K = (regY A (7 :: hs) ops dr s).bind (regK K) := by
 unfold regX
 simp only [Option.bind_map]
 rfl
theorem regK_eq (K : Exit × St → Option ρ) (s : St) : regK K s = K (.normal, s) := rfl
theorem evK_cond (t : Nat) (x y : Code) (K : Exit × St → Option ρ) (s : St) : evK A lv (.cond (.tmp t) x y) K s = match s.env t with
 | .d (.b v) => if v = true then evK A lv x K (litS s (.tmp t) true) else evK A lv y K (litS s (.tmp t) false)
 | _ => none := by
 unfold evK
 simp only [ev]
 show Option.bind (match s.env t with
  | .d (.b v) => if v = true then ev A lv x (litS s (.tmp t) true) else ev A lv y (litS s (.tmp t) false)
  | _ => none) K = _
 split
 ·split <;> rfl
 ·rfl
theorem evK_skip (K : Exit × St → Option ρ) (s : St) : evK A lv .skip K s = K (.normal, s) := by unfold evK; simp only [ev, Option.bind_some]
theorem evK_exit (id : Nat) (K : Exit × St → Option ρ) (s : St) : evK A lv (.exit id) K s = K (.exit id, s) := by unfold evK; simp only [ev, Option.bind_some]
theorem evK_ret (K : Exit × St → Option ρ) (s : St) : evK A lv .ret K s = K (.ret, s) := by unfold evK; simp only [ev, Option.bind_some]
theorem thenK_normal (y : Code) (K : Exit × St → Option ρ) (s : St) : thenK A lv y K (.normal, s) = evK A lv y K s := rfl
theorem thenK_exit (y : Code) (K : Exit × St → Option ρ) (i : Nat) (s : St) : thenK A lv y K (.exit i, s) = K (.exit i, s) := rfl
theorem thenK_ret (y : Code) (K : Exit × St → Option ρ) (s : St) : thenK A lv y K (.ret, s) = K (.ret, s) := rfl
theorem lpK_normal (b : Code) (K : Exit × St → Option ρ) (s : St) : lpK A lv b K (.normal, s) = evK A lv (.loop b) K s := rfl
theorem lpK_exit (b : Code) (K : Exit × St → Option ρ) (i : Nat) (s : St) : lpK A lv b K (.exit i, s) = K (.exit i, s) := rfl
theorem lpK_ret (b : Code) (K : Exit × St → Option ρ) (s : St) : lpK A lv b K (.ret, s) = K (.ret, s) := rfl
theorem blkK_normal (id : Nat) (K : Exit × St → Option ρ) (s : St) : blkK id K (.normal, s) = K (.normal, s) := rfl
theorem blkK_exit (id : Nat) (K : Exit × St → Option ρ) (i : Nat) (s : St) : blkK id K (.exit i, s) = if i = id then K (.normal, s) else K (.exit i, s) := by
 unfold blkK inBlk
 simp only
 split <;> rfl
theorem blkK_ret (id : Nat) (K : Exit × St → Option ρ) (s : St) : blkK id K (.ret, s) = K (.ret, s) := rfl
noncomputable def loc : Code → List Bool → (Exit × St → Option ρ) → Code × (Exit × St → Option ρ)
 | .seq x y, false :: p, K => loc x p (thenK A lv y K)
 | .seq _ y, true :: p, K => loc y p K
 | .cond _ x _, false :: p, K => loc x p K
 | .cond _ _ y, true :: p, K => loc y p K
 | .block id b, _ :: p, K => loc b p (blkK id K)
 | .loop b, _ :: p, K => loc b p (lpK A lv b K)
 | c, _, K => (c, K)
noncomputable def evAt (c : Code) (p : List Bool) (K : Exit × St → Option ρ) (s : St) : Option ρ := evK A lv (loc A lv c p K).1 (loc A lv c p K).2 s
theorem loc_nil (c : Code) (K : Exit × St → Option ρ) : loc A lv c [] K = (c, K) := by cases c <;> rfl
theorem loc_seq0 (x y : Code) (p : List Bool) (K : Exit × St → Option ρ) : loc A lv (.seq x y) (false :: p) K = loc A lv x p (thenK A lv y K) := rfl
theorem loc_seq1 (x y : Code) (p : List Bool) (K : Exit × St → Option ρ) : loc A lv (.seq x y) (true :: p) K = loc A lv y p K := rfl
theorem loc_cond0 (t : Operand) (x y : Code) (p : List Bool) (K : Exit × St → Option ρ) : loc A lv (.cond t x y) (false :: p) K = loc A lv x p K := rfl
theorem loc_cond1 (t : Operand) (x y : Code) (p : List Bool) (K : Exit × St → Option ρ) : loc A lv (.cond t x y) (true :: p) K = loc A lv y p K := rfl
theorem loc_block (id : Nat) (b : Code) (q : Bool) (p : List Bool) (K : Exit × St → Option ρ) : loc A lv (.block id b) (q :: p) K = loc A lv b p (blkK id K) := rfl
theorem loc_loop (b : Code) (q : Bool) (p : List Bool) (K : Exit × St → Option ρ) : loc A lv (.loop b) (q :: p) K = loc A lv b p (lpK A lv b K) := rfl
noncomputable def evW (x : Code × (Exit × St → Option ρ)) (s : St) : Option ρ := match x.1 with
 | .loop b => evR A lv b x.2 s
 | _ => none
noncomputable def evRAt (c : Code) (p : List Bool) (K : Exit × St → Option ρ) (s : St) : Option ρ := evW A lv (loc A lv c p K) s
theorem evW_loop (b : Code) (K : Exit × St → Option ρ) (s : St) : evW A lv (.loop b, K) s = evR A lv b K s := rfl
theorem evR_eq (b : Code) (K : Exit × St → Option ρ) (s : St) : evR A lv b K s = evK A lv b (lpK A lv b K) s := rfl
def opsK (ops os : List Oper) (K : St → Option ρ) (s : St) : Option ρ := (opsE A ops os s).bind K
theorem opsK_nil (ops : List Oper) (K : St → Option ρ) (s : St) : opsK A ops [] K s = K s := rfl
theorem opsK_cons (ops : List Oper) (o : Oper) (os : List Oper) (K : St → Option ρ) (s : St) : opsK A ops (o :: os) K s = (opG A ops o s).bind (opsK A ops os K) := by
 unfold opsK
 simp only [opsE, Option.bind_assoc]
def qsK (ops os : List Oper) (K : St → Option ρ) (s : St) : Option ρ := (qsE A ops os s).bind K
theorem qsK_nil (ops : List Oper) (K : St → Option ρ) (s : St) : qsK A ops [] K s = K s := rfl
def putQ (s : St) (d : Nat) (av : AV) : St := { n := s.n, env := upd s.env d av, heap := s.heap }
def qsC (ops os : List Oper) (K : St → Option ρ) (s : St) (d : Nat) (av : AV) : Option ρ := qsK A ops os K (putQ s d av)
theorem qsK_cons (ops : List Oper) (o : Oper) (os : List Oper) (K : St → Option ρ) (s : St) : qsK A ops (o :: os) K s = match o.dst with
 | some d => if d < s.n then (match o.guard with
  | none => (qE A o s).bind (qsC A ops os K s d)
  | some (j, want) => match dstAt ops j with
   | none => qsK A ops os K (putQ s d (.t []))
   | some t => match s.env t with
    | .d (.b v) => if v = true then (match want with
     | true => (qE A o (litS s (.tmp t) true)).bind (qsC A ops os K (litS s (.tmp t) true) d)
     | false => qsK A ops os K (putQ (litS s (.tmp t) true) d (.t [])))
     else (match want with
      | true => qsK A ops os K (putQ (litS s (.tmp t) false) d (.t []))
      | false => (qE A o (litS s (.tmp t) false)).bind (qsC A ops os K (litS s (.tmp t) false) d))
    | .t [] => qsK A ops os K (putQ s d (.t []))
    | _ => none) else none
 | none => none := by
 unfold qsK
 simp only [qsE]
 cases o.dst with
 | none => rfl
 | some d =>
  simp only
  by_cases hd : d < s.n
  ·rw [if_pos hd, if_pos hd, Option.bind_assoc]
   unfold qGE
   cases hg : o.guard with
   | none => rfl
   | some jw =>
    obtain ⟨j, want⟩ := jw
    simp only
    cases ht : dstAt ops j with
    | none => rfl
    | some t =>
     simp only
     cases he : s.env t with
     | d x =>
      cases x with
      | b v =>
       have hl := litS_ok (s := s) (x := .tmp t) he
       simp only
       cases v with
       | true => simp only [if_true]; rw [hl]; cases want <;> rfl
       | false => simp only [Bool.false_eq_true, if_false]; rw [hl]; cases want <;> rfl
      | _ => rfl
     | t xs => cases xs <;> rfl
     | _ => rfl
  ·rw [if_neg hd, if_neg hd]; rfl
def xsK (ops : Array Oper) (is : List Nat) (K : St → Option ρ) (s : St) : Option ρ := (xsE A ops is s).bind K
theorem xsK_nil (ops : Array Oper) (K : St → Option ρ) (s : St) : xsK A ops [] K s = K s := rfl
theorem xsK_cons (ops : Array Oper) (i : Nat) (is : List Nat) (K : St → Option ρ) (s : St) : xsK A ops (i :: is) K s = match ops.toList[i]? with
 | some o => (xE A ops i o s).bind (xsK A ops is K)
 | none => none := by
 unfold xsK
 simp only [xsE]
 cases ops.toList[i]? with
 | none => rfl
 | some o => simp only [Option.bind_assoc] <;> rfl
def bindN {α : Type} (x : Option α) (f : α → Option ρ) : Option ρ := x.bind f
theorem bindN_eq {α : Type} (x : Option α) (f : α → Option ρ) : bindN x f = x.bind f := rfl
theorem bindN_some {α : Type} (a : α) (f : α → Option ρ) : bindN (some a) f = f a := rfl
theorem bindN_none {α : Type} (f : α → Option ρ) : bindN none f = none := rfl
theorem bindN_bind {α β : Type} (x : Option α) (f : α → Option β) (g : β → Option ρ) : (bindN x f).bind g = bindN x fun y => (f y).bind g := by cases x <;> rfl
theorem bindN_map {α β : Type} (x : Option α) (f : α → Option β) (g : β → ρ) : (bindN x f).map g = bindN x fun y => (f y).map g := by cases x <;> rfl
theorem bindN_omap {α β : Type} (x : Option α) (g : α → β) (f : β → Option ρ) : bindN (x.map g) f = bindN x fun y => f (g y) := by cases x <;> rfl
def compO {α β : Type} (f : α → Option β) (g : β → Option ρ) (a : α) : Option ρ := (f a).bind g
theorem compO_eq {α β : Type} (f : α → Option β) (g : β → Option ρ) (a : α) : compO f g a = (f a).bind g := rfl
theorem bindA {α β : Type} (x : Option α) (f : α → Option β) (g : β → Option ρ) : (x.bind f).bind g = x.bind (compO f g) := by cases x <;> rfl
def compM {α β : Type} (f : α → β) (g : β → Option ρ) (a : α) : Option ρ := g (f a)
theorem compM_eq {α β : Type} (f : α → β) (g : β → Option ρ) (a : α) : compM f g a = g (f a) := rfl
theorem mapA_bind {α β : Type} (x : Option α) (f : α → β) (g : β → Option ρ) : (x.map f).bind g = x.bind (compM f g) := by cases x <;> rfl
def compB {α β : Type} (f : α → Option β) (g : β → ρ) (a : α) : Option ρ := (f a).map g
theorem compB_eq {α β : Type} (f : α → Option β) (g : β → ρ) (a : α) : compB f g a = (f a).map g := rfl
theorem bind_mapA {α β : Type} (x : Option α) (f : α → Option β) (g : β → ρ) : (x.bind f).map g = x.bind (compB f g) := by cases x <;> rfl
theorem getI_bind {α : Type} (xs : List α) (n : Int) (F : α → Option ρ) : (getI xs n).bind F = bindN (getI xs n) fun y => F y := rfl
theorem cat_bind (a b : ByteArray) (F : ByteArray → Option ρ) : (cat a b).bind F = bindN (cat a b) fun y => F y := rfl
theorem get_bind {α : Type} (xs : List α) (n : Nat) (F : α → Option ρ) : (xs[n]?).bind F = bindN (xs[n]?) fun y => F y := rfl
def callN {α β : Type} [Dat β] (g : α → Option β) (F : D → Option ρ) (a : α) : Option ρ := bindN (g a) fun r => F (enc r)
theorem callN_eq {α β : Type} [Dat β] (g : α → Option β) (F : D → Option ρ) (a : α) : callN g F a = bindN (g a) fun r => F (enc r) := rfl
def bindB (x : Option Bool) (K : Bool → Option ρ) : Option ρ := x.bind K
theorem bindB_some (b : Bool) (K : Bool → Option ρ) : bindB (some b) K = K b := rfl
theorem bindB_bind {α : Type} (x : Option α) (g : α → Bool) (K : Bool → Option ρ) : bindB (bindN x fun y => some (g y)) K = bindN x fun y => K (g y) := by cases x <;> rfl
theorem bindB_id (x : Option Bool) : bindB x (fun v => some v) = x := by cases x <;> rfl
theorem bind_id (x : Option ρ) : (bindN x fun y => some y) = x := by cases x <;> rfl
theorem bindB_none (K : Bool → Option ρ) : bindB none K = none := rfl
def gsK (ops : List Oper) (L : List (List Oper)) (K : St → Option ρ) (s : St) : Option ρ := (gsE A ops L s).bind K
theorem gsK_nil (ops : List Oper) (K : St → Option ρ) (s : St) : gsK A ops [] K s = K s := rfl
def gd1 (ops os : List Oper) (rest : List (List Oper)) (t : Option Nat) (K : St → Option ρ) (s : St) : Option ρ := match t with
 | some t => bindB (gdE A ops os t s) fun v => gsK A ops rest K (gdS os t s v)
 | none => opsK A ops os (gsK A ops rest K) s
theorem gsK_1 {os : List Oper} (h : gdB os = true) (ops : List Oper) (rest : List (List Oper)) (K : St → Option ρ) (s : St) : gsK A ops (os :: rest) K s = gd1 A ops os rest (lastD A.T os) K s := by
 unfold gsK gd1 gsE
 simp only [h, if_true]
 cases lastD A.T os with
 | none => simp only [Option.bind_assoc] <;> rfl
 | some t => simp only [Option.bind_assoc]; rfl
theorem gsK_0 {os : List Oper} (h : gdB os = false) (ops : List Oper) (rest : List (List Oper)) (K : St → Option ρ) (s : St) : gsK A ops (os :: rest) K s = opsK A ops os (gsK A ops rest K) s := by
 have e : gsE A ops (os :: rest) s = (opsE A ops os s).bind (gsE A ops rest) := by simp only [gsE, h, Bool.false_eq_true, if_false]
 unfold gsK opsK
 rw [e, Option.bind_assoc]
theorem regE_0 {ops : Array Oper} (h : gdB ops.toList = false) (K : Exit × St → Option ρ) (s : St) : (regE A ops false s).bind (regK K) = opsK A ops.toList ops.toList (regK K) s := by
 unfold regE
 simp only [h, Bool.false_eq_true, if_false]
 rfl
theorem regE_g {ops : Array Oper} (h : gdB ops.toList = true) (K : Exit × St → Option ρ) (s : St) : (regE A ops false s).bind (regK K) = gsK A ops.toList (segs A.T [] ops.toList) (regK K) s := by
 unfold regE
 simp only [h, if_true, Bool.false_eq_true, if_false]
 rfl
theorem regE_q {ops : Array Oper} (h : gdB ops.toList = false) (hq : quietB ops = true) (K : Exit × St → Option ρ) (s : St) : (regE A ops true s).bind (regK K) = qsK A ops.toList ops.toList (regK K) s := by
 unfold regE
 simp only [h, hq, Bool.false_eq_true, if_false, if_true]
 rfl
theorem regE_gq {ops : Array Oper} (h : gdB ops.toList = true) (hq : quietB ops = true) (K : Exit × St → Option ρ) (s : St) : (regE A ops true s).bind (regK K) = match lastD A.T ops.toList with
 | some t => bindB (gdE A ops.toList ops.toList t s) fun v => K (.normal, gdS ops.toList t s v)
 | none => qsK A ops.toList ops.toList (regK K) s := by
 unfold regE
 simp only [h, hq, if_true]
 cases lastD A.T ops.toList with
 | none => rfl
 | some t =>
  simp only [Option.bind_map]
  rfl
theorem regE_x {ops : Array Oper} (h : gdB ops.toList = false) (hq : quietB ops = false) (ho : ordB ops (flB ops) (List.range ops.size) = true) (K : Exit × St → Option ρ) (s : St) : (regE A ops true s).bind (regK K) = xsK A ops (List.range ops.size) (regK K) s := by
 unfold regE
 simp only [h, hq, ho, Bool.false_eq_true, if_false, if_true]
 rfl
theorem regY_0 (ops : Array Oper) (dr : Bool) (s : St) : regY A [] ops dr s = regE A ops dr s := rfl
def yK (ops : Array Oper) (os : List Oper) (acc : List St) (G : List St → Option ρ) (s : St) : Option ρ := (trY A ops os s).bind fun L => G (acc ++ L)
theorem yK_nil (ops : Array Oper) (acc : List St) (G : List St → Option ρ) (s : St) : yK A ops [] acc G s = G (acc ++ [s]) := rfl
theorem yK_cons (ops : Array Oper) (o : Oper) (os : List Oper) (acc : List St) (G : List St → Option ρ) (s : St) : yK A ops (o :: os) acc G s = (stepY A ops o s).bind (yK A ops os (acc ++ [s]) G) := by
 unfold yK
 simp only [trY, Option.bind_assoc, Option.bind_map]
 congr 1
 funext s1
 congr 1
 funext L
 simp
def allP (P : Nat × Nat → Prop) : List (Nat × Nat) → Prop
 | [] => True
 | x :: xs => P x ∧ allP P xs
theorem allP_iff (P : Nat × Nat → Prop) : ∀ l, (∀ x ∈ l, P x) ↔ allP P l
 | [] => by simp [allP]
 | x :: xs => by simp [allP, ← allP_iff P xs]
open Classical in
noncomputable def endY (ops : Array Oper) (prs : List (Nat × Nat)) (K : St → Option ρ) (L : List St) : Option ρ := if allP (chkY A ops L) prs then (L[ops.size]?).bind K else none
theorem regY_p {ops : Array Oper} {h1 : Nat} {hs : List Nat} (h : planB ops (prsOf (0 :: h1 :: hs)) = true) (K : Exit × St → Option ρ) (s : St) : (regY A (0 :: h1 :: hs) ops true s).bind (regK K) = yK A ops ops.toList [] (endY A ops (prsOf (0 :: h1 :: hs)) (regK K)) s := by
 unfold regY planE yK endY
 simp only [if_true, h, Option.bind_assoc, List.nil_append]
 congr 1
 funext L
 by_cases hp : ∀ x ∈ prsOf (0 :: h1 :: hs), chkY A ops L x
 ·rw [if_pos hp, if_pos ((allP_iff _ _).1 hp)]
 ·rw [if_neg hp, if_neg (fun h => hp ((allP_iff _ _).2 h))]; rfl
def runY (ops : Array Oper) : List Oper → St → Option St
 | [], s => some s
 | o :: os, s => (stepY A ops o s).bind (runY ops os)
theorem trY_run (ops : Array Oper) : ∀ (os : List Oper) (s : St), ((trY A ops os s).bind fun L => L[os.length]?) = runY A ops os s
 | [], s => rfl
 | o :: os, s => by
  simp only [trY, runY, Option.bind_assoc, Option.bind_map]
  congr 1
  funext s1
  rw [← trY_run ops os s1]
  rfl
def y0K (ops : Array Oper) (os : List Oper) (K : St → Option ρ) (s : St) : Option ρ := (runY A ops os s).bind K
theorem y0K_nil (ops : Array Oper) (K : St → Option ρ) (s : St) : y0K A ops [] K s = K s := rfl
theorem y0K_cons (ops : Array Oper) (o : Oper) (os : List Oper) (K : St → Option ρ) (s : St) : y0K A ops (o :: os) K s = (stepY A ops o s).bind (y0K A ops os K) := by
 unfold y0K
 simp only [runY, Option.bind_assoc] <;> rfl
theorem regY_p0 {ops : Array Oper} (h : planB ops [] = true) (K : Exit × St → Option ρ) (s : St) : (regY A [0] ops true s).bind (regK K) = y0K A ops ops.toList (regK K) s := by
 have e : regY A [0] ops true s = planE A ops [] s := rfl
 rw [e]
 unfold planE y0K
 rw [if_pos h, ← trY_run]
 simp only [Option.bind_assoc]
 congr 1
theorem regY_x {ops : Array Oper} (h : ops.size ≤ 999) (K : Exit × St → Option ρ) (s : St) : (regY A [7, 999999] ops true s).bind (regK K) = none := by
 have e : ops[999]? = none := Array.getElem?_eq_none (by omega)
 unfold regY planE
 simp only [if_true]
 split
 ·cases trY A ops ops.toList s with
  | none => rfl
  | some L =>
   simp only [Option.bind_some]
   split
   ·rename_i hc
    have := hc (999, 999) (by simp [prsOf])
    unfold chkY at this
    simp only [Array.getElem?_toList, e] at this
   ·rfl
 ·rfl
theorem regY_f (h0 : Nat) (hs : List Nat) (ops : Array Oper) (s : St) : regY A (h0 :: hs) ops false s = regE A ops false s := rfl
theorem eq_AV (a : AV) : (a = a) = True := eq_self a
theorem eq_nat (a : Nat) : (a = a) = True := eq_self a
theorem eq_oOb (a : Option Ob) : (a = a) = True := eq_self a
theorem eq_oAV (a : Option AV) : (a = a) = True := eq_self a
theorem gdE_eq (ops os : List Oper) (t : Nat) (s : St) : gdE A ops os t s = qsK A ops os (fun s' => asB (s'.env t)) s := rfl
theorem asB_b (v : Bool) : asB (.d (.b v)) = some v := rfl
theorem and_some (p : Prop) [Decidable p] (b : Bool) : (if p then some b else some false) = some (decide p && b) := by by_cases h : p <;> simp [h]
theorem or_some (p : Prop) [Decidable p] (b : Bool) : (if p then some true else some b) = some (decide p || b) := by by_cases h : p <;> simp [h]
theorem ite_bind {c : Prop} [Decidable c] {α : Type} (x y : Option α) (K : α → Option ρ) : (if c then x else y).bind K = if c then x.bind K else y.bind K := by split <;> rfl
theorem forget_at (ts : List Nat) (f : Nat → AV) (t : Nat) : forget ts f t = if ts.contains t then .x else f t := by
 induction ts with
 | nil => rfl
 | cons x xs ih =>
  simp only [forget, List.foldr_cons, upd, List.contains_cons] at ih ⊢
  by_cases e : t = x
  ·subst e; simp
  ·simp [e]; simpa using ih
end
theorem rng_0 : List.range 0 = [] := rfl
theorem rng_1 : List.range 1 = [0] := rfl
theorem rng_2 : List.range 2 = [0, 1] := rfl
theorem rng_3 : List.range 3 = [0, 1, 2] := rfl
theorem rng_4 : List.range 4 = [0, 1, 2, 3] := rfl
theorem rng_5 : List.range 5 = [0, 1, 2, 3, 4] := rfl
theorem rng_6 : List.range 6 = [0, 1, 2, 3, 4, 5] := rfl
theorem rng_7 : List.range 7 = [0, 1, 2, 3, 4, 5, 6] := rfl
theorem rng_8 : List.range 8 = [0, 1, 2, 3, 4, 5, 6, 7] := rfl
theorem rng_9 : List.range 9 = [0, 1, 2, 3, 4, 5, 6, 7, 8] := rfl
theorem rng_10 : List.range 10 = [0, 1, 2, 3, 4, 5, 6, 7, 8, 9] := rfl
theorem rng_11 : List.range 11 = [0, 1, 2, 3, 4, 5, 6, 7, 8, 9, 10] := rfl
theorem rng_12 : List.range 12 = [0, 1, 2, 3, 4, 5, 6, 7, 8, 9, 10, 11] := rfl
theorem rng_13 : List.range 13 = [0, 1, 2, 3, 4, 5, 6, 7, 8, 9, 10, 11, 12] := rfl
theorem rng_14 : List.range 14 = [0, 1, 2, 3, 4, 5, 6, 7, 8, 9, 10, 11, 12, 13] := rfl
theorem rng_15 : List.range 15 = [0, 1, 2, 3, 4, 5, 6, 7, 8, 9, 10, 11, 12, 13, 14] := rfl
theorem rng_16 : List.range 16 = [0, 1, 2, 3, 4, 5, 6, 7, 8, 9, 10, 11, 12, 13, 14, 15] := rfl
theorem rng_17 : List.range 17 = [0, 1, 2, 3, 4, 5, 6, 7, 8, 9, 10, 11, 12, 13, 14, 15, 16] := rfl
theorem rng_18 : List.range 18 = [0, 1, 2, 3, 4, 5, 6, 7, 8, 9, 10, 11, 12, 13, 14, 15, 16, 17] := rfl
theorem rng_19 : List.range 19 = [0, 1, 2, 3, 4, 5, 6, 7, 8, 9, 10, 11, 12, 13, 14, 15, 16, 17, 18] := rfl
theorem rng_20 : List.range 20 = [0, 1, 2, 3, 4, 5, 6, 7, 8, 9, 10, 11, 12, 13, 14, 15, 16, 17, 18, 19] := rfl
theorem rng_21 : List.range 21 = [0, 1, 2, 3, 4, 5, 6, 7, 8, 9, 10, 11, 12, 13, 14, 15, 16, 17, 18, 19, 20] := rfl
theorem rng_22 : List.range 22 = [0, 1, 2, 3, 4, 5, 6, 7, 8, 9, 10, 11, 12, 13, 14, 15, 16, 17, 18, 19, 20, 21] := rfl
theorem rng_23 : List.range 23 = [0, 1, 2, 3, 4, 5, 6, 7, 8, 9, 10, 11, 12, 13, 14, 15, 16, 17, 18, 19, 20, 21, 22] := rfl
theorem chunk_z (sz : Nat) (ds : List D) : chunk sz 0 ds = [] := rfl
theorem chunk_s (sz n : Nat) (ds : List D) : chunk sz (n + 1) ds = ds.take sz :: chunk sz n (ds.drop sz) := rfl
theorem eq_i64 : (IntKind.i64 = IntKind.i64) = True := eq_self _
theorem eq_u8 : (IntKind.u8 = IntKind.u8) = True := eq_self _
def ve0o : Option Ob → Option Ob
 | some (.row sz xs dp fz _) => some (.row sz xs dp fz 0)
 | o => o
theorem ve0S_stL (n : Nat) (L : List (Nat × AV)) (H : List (Nat × Option Ob)) : ve0S (stL n L H) = stL n L (H.map fun x => (x.1, ve0o x.2)) := by
 unfold ve0S stL
 congr 1
 funext k
 induction H with
 | nil => rfl
 | cons x xs ih =>
  simp only [obL, List.map_cons, List.foldr_cons, ve0, upd] at ih ⊢
  by_cases e : k = x.1
  ·subst e
   simp only [if_true]
   cases x.2 with
   | none => rfl
   | some o => cases o <;> rfl
  ·simp only [e, if_false]
   exact ih
def evP (s : St) (p : Nat × Operand) : AV := s.ev p.2
def pairH (H : Nat → Option Ob) (av : AV) : AV × (Nat → Option Ob) := (av, H)
def ixC (T : Tab) (t : TypeId) (i : AV) (y : AV × (Nat → Option Ob)) : Option (AV × (Nat → Option Ob)) := (opIndex T y.2 t y.1 i).map (pairH y.2)
def boxC (d : Nat) (y : AV × (Nat → Option Ob)) : Option (AV × (Nat → Option Ob)) := opBox y.2 d y.1
def bldC (T : Tab) (t : TypeId) (ns : List Nat) (y : List AV × (Nat → Option Ob)) : Option (AV × (Nat → Option Ob)) := (opBuild T y.2 t (ns.zip y.1)).map (pairH y.2)
def bslC (T : Tab) (d : Nat) (t : TypeId) (n : Nat) (ns : List Nat) (y : List AV × (Nat → Option Ob)) : Option (AV × (Nat → Option Ob)) := opBuildSlice T y.2 d t n (ns.zip y.1)
section
variable (T : Tab) (s : St) (dst : Option Nat) (ty0 : TypeId) (pos : String) (after : Array Edge) (guard : Option (Nat × Bool))
theorem vo_move (x : Operand) : valOp T s ⟨dst, .move x, ty0, pos, after, guard⟩ = some (fixZ T ty0 (s.ev x), s.heap) := rfl
theorem vo_assign (x : Operand) : valOp T s ⟨dst, .assign x, ty0, pos, after, guard⟩ = some (fixZ T ty0 (s.ev x), s.heap) := rfl
theorem vo_fieldAddr (t : TypeId) (x : Operand) (f : Nat) : valOp T s ⟨dst, .fieldAddr t x f, ty0, pos, after, guard⟩ = (opField T s.heap t (s.ev x) f).map (pairH s.heap) := rfl
theorem vo_indexAddr (t : TypeId) (x i : Operand) : valOp T s ⟨dst, .indexAddr t x i, ty0, pos, after, guard⟩ = (demote s.heap (s.ev x)).bind (ixC T t (s.ev i)) := rfl
theorem vo_index (t : TypeId) (x i : Operand) : valOp T s ⟨dst, .index t x i, ty0, pos, after, guard⟩ = (opByte T t (s.ev x) (s.ev i)).map (pairH s.heap) := rfl
theorem vo_binOp (op : BinOp) (t : TypeId) (x y : Operand) (t2 : TypeId) : valOp T s ⟨dst, .binOp op t x y t2, ty0, pos, after, guard⟩ = (opBin T op t (s.ev x) (s.ev2 y)).map (pairH s.heap) := rfl
theorem vo_nilCheck (x : Operand) : valOp T s ⟨dst, .nilCheck x, ty0, pos, after, guard⟩ = (opNilC s.heap (s.ev x)).map (pairH s.heap) := rfl
theorem vo_unOp (op : UnOp) (t : TypeId) (x : Operand) : valOp T s ⟨dst, .unOp op t x, ty0, pos, after, guard⟩ = (opUn op (s.ev x)).map (pairH s.heap) := rfl
theorem vo_convert (a b : TypeId) (x : Operand) : valOp T s ⟨dst, .convert a b x, ty0, pos, after, guard⟩ = (opConv T a b (s.ev x)).map (pairH s.heap) := rfl
theorem vo_alloc (t : TypeId) : valOp T s ⟨dst, .alloc t, ty0, pos, after, guard⟩ = opAlloc T s.heap (dst.getD 0) t := rfl
theorem vo_box (t : TypeId) (x : Operand) : valOp T s ⟨dst, .box t x, ty0, pos, after, guard⟩ = (demote s.heap (s.ev x)).bind (boxC (dst.getD 0)) := rfl
theorem vo_build (t : TypeId) (ps : Array (Nat × Operand)) : valOp T s ⟨dst, .build t ps, ty0, pos, after, guard⟩ = (demAll s.heap (ps.toList.map (evP s))).bind (bldC T t (ps.toList.map (·.1))) := rfl
theorem vo_buildSlice (t : TypeId) (n : Nat) (ps : Array (Nat × Operand)) : valOp T s ⟨dst, .buildSlice t n ps, ty0, pos, after, guard⟩ = (demAll s.heap (ps.toList.map (evP s))).bind (bslC T (dst.getD 0) t n (ps.toList.map (·.1))) := rfl
theorem vo_makeSlice (t : TypeId) (l c : Operand) : valOp T s ⟨dst, .makeSlice t l c, ty0, pos, after, guard⟩ = opMake T s.heap (dst.getD 0) t (s.ev l) (s.ev c) := rfl
theorem vo_call (c : Call) : valOp T s ⟨dst, .call c, ty0, pos, after, guard⟩ = callB T s (dst.getD 0) c := rfl
theorem vo_load (t : TypeId) (x : Operand) : valOp T s ⟨dst, .load t x, ty0, pos, after, guard⟩ = (opLoad T s.heap t (s.ev x)).map (pairH s.heap) := rfl
theorem vo_extract (x : Operand) (i : Nat) : valOp T s ⟨dst, .extract x i, ty0, pos, after, guard⟩ = (opExtract (s.ev x) i).map (pairH s.heap) := rfl
theorem vo_slice (t : TypeId) (x : Operand) (lo hi : Option Operand) : valOp T s ⟨dst, .slice t x lo hi none, ty0, pos, after, guard⟩ = (demote s.heap (s.ev x)).bind fun y => opSlice T y.2 (dst.getD 0) t y.1 (lo.map s.ev) (hi.map s.ev) := rfl
theorem vo_makeFunc (f : FuncId) (first captured : Array Operand) : valOp T s ⟨dst, .makeFunc (.func f) first captured, ty0, pos, after, guard⟩ = if first.size = 0 then (demAll s.heap (captured.toList.map s.ev)).map fun y => (.f f y.1, y.2) else none := rfl
end
def keysE (s : St) (t : Nat) : List Nat := keysA (s.env t)
def keysH (H : Nat → Option Ob) (k : Nat) : List Nat := keysO (H k)
theorem canon_e (aa : AV) (live : List Nat) (s : St) : canon aa live s = canon2 s.heap (keysA aa ++ live.flatMap (keysE s)) (keysA aa) := rfl
def fixP (k : Nat) : Nat × Nat := (k, k)
theorem canon2_e (H : Nat → Option Ob) (ks fx : List Nat) : canon2 H ks fx = canonGo (ks ++ ks.flatMap (keysH H)) 0 (fx.map fixP) := rfl
theorem fixP_e (k : Nat) : fixP k = (k, k) := rfl
def noME (ren : List (Nat × Nat)) (s : St) (t : Nat) : Bool := noM (mapA ren (s.env t))
def noMH (ren : List (Nat × Nat)) (s : St) (x : Nat × Nat) : Bool := noMo (obM ren (s.heap x.1))
def wkE (ren : List (Nat × Nat)) (s : St) (t : Nat) : Nat × AV := (t, mapA ren (s.env t))
def wkO (ren : List (Nat × Nat)) (s : St) (x : Nat × Nat) : Nat × Option Ob := (x.2, obM ren (s.heap x.1))
def wkC (live : List Nat) (ren : List (Nat × Nat)) (s : St) : St := stL s.n (live.map (wkE ren s)) (ren.map (wkO ren s))
theorem wkC_eq (live : List Nat) (ren : List (Nat × Nat)) (s : St) : wkC live ren s = stL s.n (live.map (wkE ren s)) (ren.map (wkO ren s)) := rfl
def rnd3 (aa : AV) (live : List Nat) (s : St) (ren : List (Nat × Nat)) : Option St :=
 if renOK ren = true ∧ fixAA ren aa = true then
  if noM aa = true ∧ live.all (noME ren s) = true ∧ ren.all (noMH ren s) = true then some (ve0S (wkC live ren s)) else some (wkC live ren s) else none
theorem rnd2_e (aa : AV) (live : List Nat) (s : St) : rnd2 aa live s = rnd3 aa live s (canon aa live s) := rfl
noncomputable def endK {β : Type} [Dat β] (M : Prm) (f : FuncId) (aa : AV) (rs : List ResultVar) (r : Exit × St) : Option β := ((endE M.T aa rs r).bind (outO M f)).bind dec
noncomputable def envOf (M : Prm) (aa : AV) : Env := ⟨M.T, mkS M (lastR M), aa, noPn⟩
def modeB (m : Nat) : Bool := m == 3 || m == 4 || m == 7
theorem modeB_no {m : Nat} (h : modeB m = false) : ¬ (m = 3 ∨ m = 4) := by
 rintro (rfl | rfl) <;> cases h
theorem modeB_n7 {m : Nat} (h : modeB m = false) : ¬ m = 7 := by
 rintro rfl; cases h
theorem fnO_code {M : Prm} {f : FuncId} {α β : Type} [Arg α] [Dat β] (h : Has M f α β) (hm : modeB (M.mode f) = false) {fn : Func} {c : Code} (hf : M.P.funcs[f]? = some fn) (hb : fn.body = some c) (a : α) (hn : fnB fn ((ea a).map .d) = true) :
 fnO M f β a = evAt (envOf M .x) (M.lv f) c [] (endK M f .x fn.results.toList) (inSt fn.ntmps ((ea a).map .d)) := by
 rw [fnO_run h]
 unfold oF
 rw [if_neg (modeB_n7 hm)]
 unfold runO
 rw [if_neg (modeB_no hm)]
 unfold runF
 rw [hf]
 simp only [hb]
 rw [if_pos hn]
 unfold runB evAt
 rw [loc_nil]
 have : ancA ((ea a).map .d) = .x := by cases ea a <;> rfl
 rw [this]
 unfold evK endK envOf
 simp only [Option.bind_assoc]
noncomputable def endKM {β : Type} [Dat β] (M : Prm) (f : FuncId) (rs : List ResultVar) (r : Exit × St) : Option β := ((endEM M.T rs r).bind (outO M f)).bind dec
end Go.Fs
namespace Go.Fs
open Cel (cel unc)
open Dat (enc dec)
open Arg (ea da)
open Go.RowKit
section
variable {M : Prm} {f : FuncId} {α γ β : Type} [Dat α] [Arg γ] [Dat β]
def decI2 (r : D × D) : Option (β × α) := (dec r.1).bind fun b => (dec r.2).map fun y => (b, y)
noncomputable def fnI (M : Prm) (f : FuncId) (β : Type) {α γ : Type} [Dat α] [Arg γ] [Dat β] (a : α × γ) : Option (β × α) := ((lastR M).i f (enc a.1) (ea a.2)).bind decI2
theorem fnI_run (h : Has M f (α × γ) (β × α)) (a : α × γ) : fnI M f β a = (iF M (mkS M (lastR M)) f (enc a.1) (ea a.2)).bind decI2 := by
 unfold fnI
 rw [lastR_i, h.a]
 have : da (α := α × γ) (enc a.1 :: ea a.2) = some a := Arg.da_ea a
 rw [this]
 rfl
theorem call_i (h : Has M f (α × γ) (β × α)) (x : D) (ds : List D) : (lastR M).i f x ds = (da (α := α × γ) (x :: ds)).bind fun a => (fnI M f β a).map fun r => (enc r.1, enc r.2) := by
 rw [lastR_i, h.a]
 cases e : da (α := α × γ) (x :: ds) with
 | none => rfl
 | some a =>
  have e1 := Arg.ea_da _ a e
  have e2 : x = enc a.1 ∧ ds = ea a.2 := by
   have : x :: ds = enc a.1 :: ea a.2 := e1
   simpa using this
  obtain ⟨rfl, rfl⟩ := e2
  rw [Option.bind_some, fnI_run h]
  simp only [Option.isSome_some, if_true]
  cases e3 : iF M (mkS M (lastR M)) f (enc a.1) (ea a.2) with
  | none => rfl
  | some r =>
   have hc : M.chk f (.t [r.1, r.2]) = true := iF_chk e3
   rw [h.r] at hc
   obtain ⟨b, hb⟩ := Option.isSome_iff_exists.1 hc
   have hb' : (dec (α := β) r.1).bind (fun a' => (dec (α := α) r.2).map fun b' => (a', b')) = some b := hb
   obtain ⟨b1, h1, hb'⟩ := bind_inv hb'
   obtain ⟨y, h2, rfl⟩ := Option.map_eq_some_iff.1 hb'
   simp only [Option.bind_some, decI2, h1, h2, Option.map_some, ← Dat.enc_dec _ _ h1, ← Dat.enc_dec _ _ h2]
def callI {ρ : Type} (g : α × γ → Option (β × α)) (F : D × D → Option ρ) (a : α × γ) : Option ρ := bindN (g a) fun r => F (enc r.1, enc r.2)
theorem callI_eq {ρ : Type} (g : α × γ → Option (β × α)) (F : D × D → Option ρ) (a : α × γ) : callI g F a = bindN (g a) fun r => F (enc r.1, enc r.2) := rfl
theorem call_iK {ρ : Type} (h : Has M f (α × γ) (β × α)) (x : D) (ds : List D) (F : D × D → Option ρ) : ((lastR M).i f x ds).bind F = (da (α := α × γ) (x :: ds)).bind (callI (fnI M f β) F) := by
 rw [call_i h]
 cases da (α := α × γ) (x :: ds) with
 | none => rfl
 | some a =>
  simp only [Option.bind_some, callI, bindN]
  cases fnI M f β a <;> rfl
noncomputable def endI (M : Prm) (f : FuncId) (aa : AV) (rs : List ResultVar) (r : Exit × St) : Option (β × α) := ((endE M.T aa rs r).bind (outI M f)).bind decI2
theorem fnI_code (h : Has M f (α × γ) (β × α)) (h6 : M.mode f ≠ 6) {fn : Func} {c : Code} (hf : M.P.funcs[f]? = some fn) (hb : fn.body = some c) (a : α × γ) (hn : fnB fn (.io (enc a.1) :: (ea a.2).map .d) = true) :
 fnI M f β a = evAt (envOf M (inAV (.io (enc a.1)))) (M.lv f) c [] (endI M f (inAV (.io (enc a.1))) fn.results.toList) (inSt fn.ntmps (.io (enc a.1) :: (ea a.2).map .d)) := by
 rw [fnI_run h]
 unfold iF
 rw [if_neg h6]
 unfold runF
 rw [hf]
 simp only [hb]
 rw [if_pos hn]
 unfold runB evAt
 rw [loc_nil]
 unfold evK endI envOf ancA
 simp only [Option.bind_assoc]
noncomputable def endPI (M : Prm) (f : FuncId) (x : D) (aa : AV) (rs : List ResultVar) (r : Exit × St) : Option (β × α) := ((endP M.T aa rs r).bind (outP M f x)).bind decI2
theorem fnP_code (h : Has M f (α × γ) (β × α)) (h6 : M.mode f = 6) {fn : Func} {c : Code} (hf : M.P.funcs[f]? = some fn) (hb : fn.body = some c) (a : α × γ) (hn : fnB fn (.io (enc a.1) :: (ea a.2).map .d) = true) :
 fnI M f β a = evAt (envOf M (inAV (.io (enc a.1)))) (M.lv f) c [] (endPI M f (enc a.1) (inAV (.io (enc a.1))) fn.results.toList) (inSt fn.ntmps (.io (enc a.1) :: (ea a.2).map .d)) := by
 rw [fnI_run h]
 unfold iF
 rw [if_pos h6]
 unfold runP
 rw [hf]
 simp only [hb]
 rw [if_pos hn]
 unfold evAt
 rw [loc_nil]
 unfold evK endPI envOf ancA
 simp only [Option.bind_assoc]
end
theorem ev2_t (s : St) (t : Nat) : s.ev2 (.tmp t) = s.env t := rfl
theorem ev2_i (s : St) (k : IntKind) (n : Int) : s.ev2 (.const (.int k n)) = .d (.i k n) := rfl
theorem ev2_b (s : St) (b : Bool) : s.ev2 (.const (.bool b)) = .d (.b b) := rfl
theorem ev2_s (s : St) (b : ByteArray) : s.ev2 (.const (.string b)) = .d (.s b) := rfl
theorem ev2_z (s : St) : s.ev2 (.const (.slice none 0 0)) = .z 0 := rfl
theorem ev2_n (s : St) : s.ev2 (.const (.pointer none)) = .d .n := rfl
theorem ev2_nl (s : St) : s.ev2 (.const .nilIface) = .nl := rfl
theorem gT_0 : gT 0 = some tyW := rfl
theorem gT_1 : gT 1 = none := rfl
theorem getI_strD (ws : List ByteArray) (n : Int) : getI (strD ws) n = (getI ws n).map D.s := getI_map _ _ _
theorem strD_len (ws : List ByteArray) : (strD ws).length = ws.length := List.length_map ..
theorem opW_len : opW.length = 10 := rfl
theorem tyW_len : tyW.length = 3 := rfl
theorem le_ml3 : ((3 : Nat) ≤ maxLen) = True := by simp [maxLen]
theorem le_ml10 : ((10 : Nat) ≤ maxLen) = True := by simp [maxLen]
theorem rows_strD (ws : List ByteArray) : ((strD ws).map fun c => [c]) = ws.map cel := by
 unfold strD
 rw [List.map_map]
 rfl
theorem inAV_p (ds : List D) : inAV (.io (.p ds)) = .a keyIn 0 := rfl
theorem inAV_l (sz : Nat) (xs : List (List D)) : inAV (.io (.l sz xs)) = .r keyIn := rfl
theorem inAV_g (ds : List D) : inAV (.io (.g ds)) = oneAV (.g ds) (adCells keyIn ds) := rfl
theorem inHeap_p (ds : List D) (ins : List In) : inHeap (.io (.p ds) :: ins) = ovr ((keyIn, .box (adCells (keyIn + 1) ds)) :: adObs (keyIn + 1) ds) fun _ => none := rfl
theorem inHeap_l (sz : Nat) (xs : List (List D)) (ins : List In) : inHeap (.io (.l sz xs) :: ins) = ovr (adObs keyIn [.l sz xs]) fun _ => none := rfl
theorem inHeap_g (ds : List D) (ins : List In) : inHeap (.io (.g ds) :: ins) = ovr (adObs keyIn ds) fun _ => none := rfl
theorem inHeap_d (x : D) (ins : List In) : inHeap (.d x :: ins) = fun _ => none := rfl
theorem moveV_d (H : Nat → Option Ob) (x : D) : moveV H (.d x) = moveC H (.d x) := rfl
theorem moveV_r (H : Nat → Option Ob) (k : Nat) : moveV H (.r k) = moveC H (.r k) := rfl
theorem moveV_z (H : Nat → Option Ob) (k : Nat) : moveV H (.z k) = moveC H (.z k) := rfl
theorem moveV_a (H : Nat → Option Ob) (k : Nat) : moveV H (.a k 0) = match H k with
 | some (.box cs) => (moveCs (upd H k (some .dead)) cs).map fun m => (.p m.1, m.2.1, m.2.2)
 | _ => none := rfl
theorem takeM_d (H : Nat → Option Ob) (k : Nat) (x : D) : takeM H k (.d x) = demote H (.d x) := rfl
theorem takeM_r (H : Nat → Option Ob) (k j : Nat) : takeM H k (.r j) = demote H (.r j) := rfl
theorem takeM_z (H : Nat → Option Ob) (k j : Nat) : takeM H k (.z j) = demote H (.z j) := rfl
theorem takeM_m (H : Nat → Option Ob) (k' k ve i o : Nat) : takeM H k' (.m k ve i o) = match H k with
 | some (.row sz xs true false ve') => if ve = ve' ∧ o < sz then match H k' with
  | none => (xs[i]?).bind (takeC H k k' sz ve i o xs)
  | some _ => none else none
 | _ => demote H (.m k ve i o) := rfl
def mI (m : List (ByteArray × Int)) : List (ByteArray × D) := m.map fun x => (x.1, .i .i64 x.2)
def mSet : List (ByteArray × Int) → ByteArray → Int → List (ByteArray × Int)
 | [], k, n => [(k, n)]
 | x :: m, k, n => if k = x.1 then (k, n) :: m else x :: mSet m k n
def mGet : List (ByteArray × Int) → ByteArray → Option Int
 | [], _ => none
 | x :: m, k => if k = x.1 then some x.2 else mGet m k
theorem mI_nil : mI [] = [] := rfl
theorem kvSet_nil (k : ByteArray) (n : Int) : kvSet [] k (.i .i64 n) = mI (mSet [] k n) := rfl
theorem mI_set (k : ByteArray) (n : Int) : ∀ m : List (ByteArray × Int), kvSet (mI m) k (.i .i64 n) = mI (mSet m k n)
 | [] => rfl
 | x :: m => by
  have ih := mI_set k n m
  unfold mI at ih ⊢
  simp only [List.map_cons, kvSet, mSet]
  by_cases h : k = x.1
  ·rw [if_pos h, if_pos h]; rfl
  ·rw [if_neg h, if_neg h, ih]; rfl
theorem mI_get (k : ByteArray) : ∀ m : List (ByteArray × Int), kvGet (mI m) k = (mGet m k).map (D.i .i64)
 | [] => rfl
 | x :: m => by
  have ih := mI_get k m
  unfold mI at ih ⊢
  simp only [List.map_cons, kvGet, mGet]
  by_cases h : k = x.1
  ·simp [h]
  ·simp [h, ih]
theorem mI_getD (k : ByteArray) (z : Int) (m : List (ByteArray × Int)) : ((mGet m k).map (D.i .i64)).getD (.i .i64 z) = .i .i64 ((mGet m k).getD z) := by cases mGet m k <;> rfl
theorem lit10S (a b c d e f g h i j : ByteArray) (n : Nat) : ([[D.s a], [D.s b], [D.s c], [D.s d], [D.s e], [D.s f], [D.s g], [D.s h], [D.s i], [D.s j]] : List (List D))[n]? = ([a, b, c, d, e, f, g, h, i, j][n]?).map cel := by
 rw [show ([[D.s a], [D.s b], [D.s c], [D.s d], [D.s e], [D.s f], [D.s g], [D.s h], [D.s i], [D.s j]] : List (List D)) = [a, b, c, d, e, f, g, h, i, j].map cel from rfl, List.getElem?_map]
theorem gI10S (a b c d e f g h i j : ByteArray) (n : Int) : getI ([[D.s a], [D.s b], [D.s c], [D.s d], [D.s e], [D.s f], [D.s g], [D.s h], [D.s i], [D.s j]] : List (List D)) n = (getI [a, b, c, d, e, f, g, h, i, j] n).map cel := by
 rw [show ([[D.s a], [D.s b], [D.s c], [D.s d], [D.s e], [D.s f], [D.s g], [D.s h], [D.s i], [D.s j]] : List (List D)) = [a, b, c, d, e, f, g, h, i, j].map cel from rfl, getI_map]
theorem lit3S (a b c : ByteArray) (n : Nat) : ([[D.s a], [D.s b], [D.s c]] : List (List D))[n]? = ([a, b, c][n]?).map cel := by
 match n with
 | 0 => rfl
 | 1 => rfl
 | 2 => rfl
 | n + 3 => rfl
theorem gI3S (a b c : ByteArray) (n : Int) : getI ([[D.s a], [D.s b], [D.s c]] : List (List D)) n = (getI [a, b, c] n).map cel := by
 unfold getI
 split
 ·exact lit3S a b c _
 ·rfl
theorem uncL_setI (xs : List Int) (n : Nat) (v : Int) : uncL unc ((xs.map cel).set n [D.i .i64 v]) = some (xs.set n v) := by rw [show [D.i .i64 v] = cel v from rfl, ← List.map_set, uncL_map]
theorem uncL_setB (xs : List Bool) (n : Nat) (v : Bool) : uncL unc ((xs.map cel).set n [D.b v]) = some (xs.set n v) := by rw [show [D.b v] = cel v from rfl, ← List.map_set, uncL_map]
theorem uncL_setS (xs : List ByteArray) (n : Nat) (v : ByteArray) : uncL unc ((xs.map cel).set n [D.s v]) = some (xs.set n v) := by rw [show [D.s v] = cel v from rfl, ← List.map_set, uncL_map]
theorem set_get {α : Type} (xs : List α) (i : Nat) (v : α) : (xs.set i v)[i]? = (xs[i]?).map fun _ => v := by
 rw [List.getElem?_set]
 simp only [if_true]
 by_cases h : i < xs.length
 ·rw [if_pos h, List.getElem?_eq_getElem h]; rfl
 ·rw [if_neg h, List.getElem?_eq_none (by omega)]; rfl
theorem getI_set {α : Type} (xs : List α) (n : Int) (v : α) : getI (xs.set n.toNat v) n = (getI xs n).map fun _ => v := by
 unfold getI
 split
 ·exact set_get xs _ v
 ·rfl
end Go.Fs
namespace Go.Fs
open Cel (cel unc)
open Dat (enc dec)
open Arg (ea da)
open Go.RowKit
section
variable {ρ : Type} (A : Env) (lv : Nat → List Nat)
def pnK (K : Exit × St → Option ρ) (p : Nat × List Int) : Option ρ := K (.panic (panE p.1 p.2), deadS 0)
theorem pnK_eq (K : Exit × St → Option ρ) (te : Nat) (ns : List Int) : pnK K (te, ns) = K (.panic (panE te ns), deadS 0) := rfl
theorem regX_8 (hs : List Nat) (ops : Array Oper) (K : Exit × St → Option ρ) (s : St) : (regX A (8 :: hs) ops false s).bind K = (pnE A ops.toList s).bind (pnK K) := by
 unfold regX
 simp only [Bool.false_eq_true, if_false, Option.bind_map]
 rfl
def pnG (tb : Nat) (ty : TypeId) (K : Nat × List Int → Option ρ) (s : St) : Option ρ := (pnV (s.env tb)).bind fun ns => K (ty, ns)
theorem pnG_eq (tb : Nat) (ty : TypeId) (K : Nat × List Int → Option ρ) (n : Nat) (E : Nat → AV) (H : Nat → Option Ob) : pnG tb ty K ⟨n, E, H⟩ = (pnV (E tb)).bind fun ns => K (ty, ns) := rfl
theorem pnF_eq (ops : List Oper) (ti tj tb n : Nat) (ty : TypeId) (pre : List Oper) (s : St) (K : Nat × List Int → Option ρ) : (pnF A ops ti tj tb n ty pre s).bind K = if ti = tj then if tj < n then if isSt A.T ty = true then opsK A ops pre (pnG tb ty K) s else none else none else none := by
 unfold pnF
 split
 ·split
  ·split
   ·simp only [Option.bind_assoc, Option.bind_map]
    rfl
   ·rfl
  ·rfl
 ·rfl
theorem pnE_3 (o1 : Oper) (ti tj tb : Nat) (ty : TypeId) (q1 p1 : TypeId) (q2 p2 : String) (q3 p3 : Array Edge) (s : St) : pnE A [o1, ⟨some tj, .makeInterface ty (.tmp tb), p1, p2, p3, none⟩, ⟨none, .panic (.tmp ti), q1, q2, q3, none⟩] s = pnF A [o1, ⟨some tj, .makeInterface ty (.tmp tb), p1, p2, p3, none⟩, ⟨none, .panic (.tmp ti), q1, q2, q3, none⟩] ti tj tb s.n ty [o1] s := rfl
theorem intsA_n : intsA [] = some [] := rfl
theorem intsA_i (n : Int) (as : List AV) : intsA (.d (.i .i64 n) :: as) = (intsA as).map (n :: ·) := rfl
theorem pnV_g (cs : List AV) : pnV (.g cs) = intsA cs := rfl
def finK (K : Exit × St → Option ρ) : St ⊕ (Nat × List Int) → Option ρ
 | .inl s => K (.normal, s)
 | .inr p => K (.panic (panE p.1 p.2), deadS 0)
theorem finK_l (K : Exit × St → Option ρ) (s : St) : finK K (.inl s) = K (.normal, s) := rfl
theorem finK_r (K : Exit × St → Option ρ) (te : Nat) (ns : List Int) : finK K (.inr (te, ns)) = K (.panic (panE te ns), deadS 0) := rfl
def opsXK (ops os : List Oper) (K : St ⊕ (Nat × List Int) → Option ρ) (s : St) : Option ρ := (opsX A ops os s).bind K
def thenXK (ops os : List Oper) (K : St ⊕ (Nat × List Int) → Option ρ) : St ⊕ (Nat × List Int) → Option ρ
 | .inl s => opsXK A ops os K s
 | .inr p => K (.inr p)
theorem thenXK_l (ops os : List Oper) (K : St ⊕ (Nat × List Int) → Option ρ) (s : St) : thenXK A ops os K (.inl s) = opsXK A ops os K s := rfl
theorem thenXK_r (ops os : List Oper) (K : St ⊕ (Nat × List Int) → Option ρ) (p : Nat × List Int) : thenXK A ops os K (.inr p) = K (.inr p) := rfl
theorem regX_9 (hs : List Nat) (ops : Array Oper) (K : Exit × St → Option ρ) (s : St) : (regX A (9 :: hs) ops false s).bind K = opsXK A ops.toList ops.toList (finK K) s := by
 unfold regX opsXK
 simp only [Bool.false_eq_true, if_false, Option.bind_map]
 congr 1
 funext r
 cases r <;> rfl
theorem opsXK_nil (ops : List Oper) (K : St ⊕ (Nat × List Int) → Option ρ) (s : St) : opsXK A ops [] K s = K (.inl s) := rfl
theorem opsXK_cons (ops : List Oper) (o : Oper) (os : List Oper) (K : St ⊕ (Nat × List Int) → Option ρ) (s : St) : opsXK A ops (o :: os) K s = (opX A ops o s).bind (thenXK A ops os K) := by
 unfold opsXK
 simp only [opsX, Option.bind_assoc]
 congr 1
 funext r
 cases r <;> rfl
def pxO (H : Nat → Option Ob) (dst : Option Nat) (k : Nat) (ks : List Nat) (rest : List AV) (y : D) (K : (AV × List (Nat × Ob)) ⊕ (Nat × List Int) → Option ρ) (q : D) : Option ρ := (bxR H dst k ks rest (q, y)).bind (compM .inl K)
def pxP (H : Nat → Option Ob) (k : Nat) (ks : List Nat) (rest : List AV) (K : (AV × List (Nat × Ob)) ⊕ (Nat × List Int) → Option ρ) (te : Nat) (ns : List Int) : Option ρ :=
 if nodupB (k :: ks) = true then if apart (k :: ks) (rest.flatMap (keyA H)) = true then K (.inr (te, ns)) else none else none
theorem pxR_po {β : Type} [Dat β] (H : Nat → Option Ob) (dst : Option Nat) (k : Nat) (ks : List Nat) (rest : List AV) (x : Po β) (y : D) (K : (AV × List (Nat × Ob)) ⊕ (Nat × List Int) → Option ρ) :
 (pxR H dst k ks rest (enc x, y)).bind K = poE x (fun b => pxO H dst k ks rest y K (enc b)) (fun te ns => pxP H k ks rest K te ns) := by
 cases x with
 | ok b =>
  show ((bxR H dst k ks rest (enc b, y)).map Sum.inl).bind K = pxO H dst k ks rest y K (enc b)
  unfold pxO compM
  rw [Option.bind_map]
  rfl
 | pan te ns =>
  show (if nodupB (k :: ks) = true then if apart (k :: ks) (rest.flatMap (keyA H)) = true then (intsD (ns.map (D.i .i64))).map fun ns => Sum.inr (te, ns) else none else none).bind K = _
  rw [intsD_map]
  show _ = pxP H k ks rest K te ns
  unfold pxP
  split
  ·split <;> rfl
  ·rfl
theorem pxK_l (s : St) (dst : Option Nat) (y : AV × List (Nat × Ob)) (K : St ⊕ (Nat × List Int) → Option ρ) : (pxK s dst (.inl y)).bind K = (eatE s dst y).bind (compM .inl K) := by
 show ((eatE s dst y).map Sum.inl).bind K = _
 rw [Option.bind_map]
 rfl
theorem pxK_r (s : St) (dst : Option Nat) (p : Nat × List Int) (K : St ⊕ (Nat × List Int) → Option ρ) : (pxK s dst (.inr p)).bind K = K (.inr p) := rfl
def appX (L : List St) (K : List St × PJ → Option ρ) (x : List St × PJ) : Option ρ := K (L ++ x.1, x.2)
def trXK (ops : Array Oper) (os : List Oper) (i : Nat) (pj : PJ) (L : List St) (K : List St × PJ → Option ρ) (s : St) : Option ρ := (trX A ops os i pj s).bind (appX L K)
theorem trXK_nil (ops : Array Oper) (i : Nat) (pj : PJ) (L : List St) (K : List St × PJ → Option ρ) (s : St) : trXK A ops [] i pj L K s = K (L ++ [s], pj) := rfl
def stXK (ops : Array Oper) (os : List Oper) (i : Nat) (dst : Option Nat) (s : St) (L : List St) (K : List St × PJ → Option ρ) : St ⊕ (Nat × List Int) → Option ρ
 | .inl s1 => trXK A ops os (i + 1) none (L ++ [s]) K s1
 | .inr p => trXK A ops os (i + 1) (some (i, p)) (L ++ [s]) K (putS s dst .x s.heap)
theorem stXK_l (ops : Array Oper) (os : List Oper) (i : Nat) (dst : Option Nat) (s : St) (L : List St) (K : List St × PJ → Option ρ) (s1 : St) : stXK A ops os i dst s L K (.inl s1) = trXK A ops os (i + 1) none (L ++ [s]) K s1 := rfl
theorem stXK_r (ops : Array Oper) (os : List Oper) (i : Nat) (dst : Option Nat) (s : St) (L : List St) (K : List St × PJ → Option ρ) (p : Nat × List Int) : stXK A ops os i dst s L K (.inr p) = trXK A ops os (i + 1) (some (i, p)) (L ++ [s]) K (putS s dst .x s.heap) := rfl
theorem app_map {L : List St} {s : St} {x : Option (List St × PJ)} {K : List St × PJ → Option ρ} : (x.map fun x => (s :: x.1, x.2)).bind (appX L K) = x.bind (appX (L ++ [s]) K) := by
 cases x with
 | none => rfl
 | some x => simp [appX]
theorem trXK_cons (ops : Array Oper) (o : Oper) (os : List Oper) (i : Nat) (L : List St) (K : List St × PJ → Option ρ) (s : St) : trXK A ops (o :: os) i none L K s = (stepX A ops o s).bind (stXK A ops os i o.dst s L K) := by
 unfold trXK
 simp only [trX, Option.bind_assoc]
 congr 1
 funext r
 cases r with
 | inl s1 => simp only [app_map]; rfl
 | inr p => simp only [app_map]; rfl
theorem trXK_dep {ops : Array Oper} {j i : Nat} (h : depN ops ops.size j i = true) (o : Oper) (os : List Oper) (p : Nat × List Int) (L : List St) (K : List St × PJ → Option ρ) (s : St) : trXK A ops (o :: os) i (some (j, p)) L K s = trXK A ops os (i + 1) (some (j, p)) (L ++ [s]) K (putS s o.dst .x s.heap) := by
 unfold trXK
 simp only [trX, h, if_true, app_map]
def sfXK (ops : Array Oper) (os : List Oper) (i : Nat) (jp : Nat × Nat × List Int) (s : St) (L : List St) (K : List St × PJ → Option ρ) (s1 : St) : Option ρ := trXK A ops os (i + 1) (some jp) (L ++ [s]) K s1
theorem trXK_free {ops : Array Oper} {j i : Nat} (h : depN ops ops.size j i = false) (o : Oper) (hw : wrB o = false) (os : List Oper) (p : Nat × List Int) (L : List St) (K : List St × PJ → Option ρ) (s : St) : trXK A ops (o :: os) i (some (j, p)) L K s = (stepY A ops o s).bind (sfXK A ops os i (j, p) s L K) := by
 unfold trXK
 simp only [trX, h, hw, Bool.false_eq_true, if_false, Option.bind_assoc, app_map]
 rfl
open Classical in
noncomputable def endX (ops : Array Oper) (prs : List (Nat × Nat)) (K : Exit × St → Option ρ) (x : List St × PJ) : Option ρ := if allP (chkY A ops x.1) prs then (finJ ops.size x).bind K else none
theorem regX_9d {ops : Array Oper} {hs : List Nat} (h : planB ops (prsOf (9 :: hs)) = true) (K : Exit × St → Option ρ) (s : St) : (regX A (9 :: hs) ops true s).bind K = trXK A ops ops.toList 0 none [] (endX A ops (prsOf (9 :: hs)) K) s := by
 unfold regX drX trXK
 simp only [if_true, h, Option.bind_assoc]
 congr 1
 funext x
 show _ = endX A ops (prsOf (9 :: hs)) K ([] ++ x.1, x.2)
 rw [List.nil_append]
 unfold endX
 by_cases hp : ∀ y ∈ prsOf (9 :: hs), chkY A ops x.1 y
 ·rw [if_pos hp, if_pos ((allP_iff _ _).1 hp)]
 ·rw [if_neg hp, if_neg (fun h => hp ((allP_iff _ _).2 h))]; rfl
open Classical in
theorem endX_n (ops : Array Oper) (prs : List (Nat × Nat)) (K : Exit × St → Option ρ) (L : List St) : endX A ops prs K (L, none) = if allP (chkY A ops L) prs then (L[ops.size]?).bind (regK K) else none := by
 unfold endX finJ
 simp only [Option.bind_map]
 rfl
open Classical in
theorem endX_s (ops : Array Oper) (prs : List (Nat × Nat)) (K : Exit × St → Option ρ) (L : List St) (j te : Nat) (ns : List Int) : endX A ops prs K (L, some (j, te, ns)) = if allP (chkY A ops L) prs then K (.panic (panE te ns), deadS 0) else none := rfl
theorem putS_s (n d : Nat) (E : Nat → AV) (H H' : Nat → Option Ob) (av : AV) : putS ⟨n, E, H⟩ (some d) av H' = ⟨n, upd E d av, H'⟩ := rfl
theorem putS_n (n : Nat) (E : Nat → AV) (H H' : Nat → Option Ob) (av : AV) : putS ⟨n, E, H⟩ none av H' = ⟨n, E, H'⟩ := rfl
theorem thenK_panic (y : Code) (K : Exit × St → Option ρ) (ch : List PanicEntry) (s : St) : thenK A lv y K (.panic ch, s) = K (.panic ch, s) := rfl
theorem lpK_panic (b : Code) (K : Exit × St → Option ρ) (ch : List PanicEntry) (s : St) : lpK A lv b K (.panic ch, s) = K (.panic ch, s) := rfl
theorem blkK_panic (id : Nat) (K : Exit × St → Option ρ) (ch : List PanicEntry) (s : St) : blkK id K (.panic ch, s) = K (.panic ch, s) := rfl
end
theorem poE_bind {β ρ σ : Type} (x : Po β) (f : β → Option ρ) (g : Nat → List Int → Option ρ) (K : ρ → Option σ) : (poE x f g).bind K = poE x (fun b => (f b).bind K) (fun te ns => (g te ns).bind K) := by cases x <;> rfl
section
variable {M : Prm} {f : FuncId} {α β : Type} [Dat α] [Dat β]
theorem endPI_n (x : D) (aa : AV) (rs : List ResultVar) (s : St) : endPI (α := α) (β := β) M f x aa rs (.normal, s) = (outR M.T s aa rs).bind fun r => (outP M f x (.inl r)).bind decI2 := by
 show (((outR M.T s aa rs).map Sum.inl).bind (outP M f x)).bind decI2 = _
 cases outR M.T s aa rs <;> rfl
theorem endPI_r (x : D) (aa : AV) (rs : List ResultVar) (s : St) : endPI (α := α) (β := β) M f x aa rs (.ret, s) = (outR M.T s aa rs).bind fun r => (outP M f x (.inl r)).bind decI2 := by
 show (((outR M.T s aa rs).map Sum.inl).bind (outP M f x)).bind decI2 = _
 cases outR M.T s aa rs <;> rfl
theorem outP_l (x ret y : D) : outP M f x (.inl { ret := ret, deep := true, io := some y }) = if M.chk f (.t [.p [ret], y]) = true then some (.p [ret], y) else none := rfl
theorem endPI_p {γ : Type} [Arg γ] (h : Has M f (α × γ) (Po β × α)) (x : D) (aa : AV) (rs : List ResultVar) (te : Nat) (ns : List Int) (s : St) :
 endPI (α := α) (β := Po β) M f x aa rs (.panic (panE te ns), s) = (dec (α := α) x).bind fun a => some (Po.pan te ns, a) := by
 show (((unPan (panE te ns)).map Sum.inr).bind (outP M f x)).bind decI2 = _
 rw [unPan_E]
 simp only [Option.map_some, Option.bind_some]
 unfold outP
 have hc : dec (α := Po β × α) (.t [panD te ns, x]) = (dec (α := α) x).map fun a => (Po.pan te ns, a) := by
  rw [dec_2, dec_Ppan, Option.bind_some]
 simp only [h.r, hc]
 cases e : dec (α := α) x with
 | none => rfl
 | some a =>
  simp only [Option.map_some, Option.isSome_some, if_true, Option.bind_some]
  unfold decI2
  simp only [dec_Ppan, Option.bind_some, e, Option.map_some]
end
end Go.Fs
namespace Go.Fs
open Cel (cel unc)
open Dat (enc dec)
open Arg (ea da)
open Go.RowKit
def ownG {α β : Type} [Arg α] [Dat β] (g : α → Option β) (ds : List D) : Option D := (da (α := α) ds).bind fun a => (g a).map enc
theorem ownG_K {α β ρ : Type} [Arg α] [Dat β] (g : α → Option β) (ds : List D) (F : D → Option ρ) : (ownG g ds).bind F = (da (α := α) ds).bind (callN g F) := by
 unfold ownG
 cases da (α := α) ds with
 | none => rfl
 | some a =>
  simp only [Option.bind_some, callN, bindN]
  cases g a <;> rfl
def lCut (s sep : ByteArray) : Option (T3 ByteArray ByteArray Bool) :=
 if s.size < 4294967281 then some ⟨⟨(Lib.cut s.data.toList sep.data.toList).1.toArray⟩, ⟨(Lib.cut s.data.toList sep.data.toList).2.1.toArray⟩, (Lib.cut s.data.toList sep.data.toList).2.2⟩ else none
def lItoa (n : Int) : Option ByteArray := if -9223372036854775808 ≤ n ∧ n ≤ 9223372036854775807 then some ⟨(Lib.itoa n).toArray⟩ else none
def lAtoi (s : ByteArray) : Option (Int × Er) := if s.size ≤ 281474976710656 then some (match Lib.atoiAll s.data.toList with
 | .ok v => (v, ⟨false⟩)
 | Lib.NumEnd.syntax => (0, ⟨true⟩)
 | .range => (Lib.atoiSat s.data.toList, ⟨true⟩)) else none
def lClone (xs : List ByteArray) : Option (List ByteArray) := if xs.length * 16 ≤ 140737488355328 then some xs else none
def glClone : List D → Option D := ownG (α := List ByteArray × Unit) fun x => lClone x.1
def glCut : List D → Option D := ownG (α := ByteArray × ByteArray × Unit) fun x => lCut x.1 x.2.1
def glItoa : List D → Option D := ownG (α := Int × Unit) fun x => lItoa x.1
def glAtoi : List D → Option D := ownG (α := ByteArray × Unit) fun x => lAtoi x.1
def bW (s : ByteArray) : List D → Option (D × Option ByteArray)
 | [.s t] => if s.size + t.size ≤ 140737488355328 then some (.t [.i .i64 t.size, .e false], some (s ++ t)) else none
 | _ => none
def bS (s : ByteArray) : List D → Option (D × Option ByteArray)
 | [] => some (.s s, none)
 | _ => none
theorem bW_s (s t : ByteArray) : bW s [.s t] = if s.size + t.size ≤ 140737488355328 then some (.t [.i .i64 t.size, .e false], some (s ++ t)) else none := rfl
theorem bS_n (s : ByteArray) : bS s [] = some (.s s, none) := rfl
theorem bT_eq : bT = 109 := rfl
end Go.Fs
namespace Go.Fs
open Go.RowKit
theorem post_sc {w w' : World} {args : List Value} {Sd : List Nat} {d : D} {v : Value} (hr : Rest w w') (hk : ∀ b, b < w.heap.size → w'.heap[b]? = w.heap[b]?) (ht : Tr w' true v d []) (hf : RetFlat v) :
 Post w args Sd [] { ret := d } v w' :=
 ⟨hr, fun b hb _ => hk b hb, [], [], ht, hf, rfl, List.nodup_nil, by simp, by simp, fun _ => ⟨List.nodup_nil, by simp⟩, by simp⟩
theorem rest_below {w w' : World} (h : Below w.heap.size w w') : Rest w w' ∧ ∀ b, b < w.heap.size → w'.heap[b]? = w.heap[b]? := ⟨⟨h.os, h.tape, h.output, h.size⟩, fun b hb => h.block b hb⟩
theorem does_of {P : Program} {f : FuncId} {args : List Value} {w : World} {Sd : List Nat} {d : D} (hc : ∀ (a : Array Value) (w : World), (callFunc f a).run P w = .ok (.enter f a) w)
 {Q : Ending → World → Prop} (h : Calls P f args.toArray w Q) (hq : ∀ e w', Q e w' → ∃ v, e = .returned v ∧ Post w args Sd [] { ret := d } v w') : Does P f args.toArray w (Post w args Sd [] { ret := d }) := by
 refine .inl ⟨hc _ _, h.mono fun e w' he => ?_⟩
 obtain ⟨v, rfl, hp⟩ := hq e w' he
 exact hp
theorem args_s {w : World} {vs : List Value} {s : ByteArray} {ds : List D} {Sd M : List Nat} (h : ArgsR w vs ((D.s s :: ds).map .d) Sd M) : ∃ us Sd', vs = .string s :: us ∧ ArgsR w us (ds.map .d) Sd' M := by
 cases h with
 | d v x S vs ins Sd' M ht hf hs =>
  cases ht
  exact ⟨vs, Sd', rfl, hs⟩
theorem args_i {w : World} {vs : List Value} {k : IntKind} {n : Int} {ds : List D} {Sd M : List Nat} (h : ArgsR w vs ((D.i k n :: ds).map .d) Sd M) : ∃ us Sd', vs = .int k n :: us ∧ ArgsR w us (ds.map .d) Sd' M := by
 cases h with
 | d v x S vs ins Sd' M ht hf hs =>
  cases ht
  exact ⟨vs, Sd', rfl, hs⟩
theorem args_n {w : World} {vs : List Value} {Sd M : List Nat} (h : ArgsR w vs (([] : List D).map .d) Sd M) : vs = [] ∧ M = [] := by
 cases h; exact ⟨rfl, rfl⟩
theorem flat_tuple {vs : List Value} (h : ∀ v ∈ vs, v.oneCell' = true) : RetFlat (.tuple vs.toArray) := .inr ⟨_, rfl, fun u hu => flat_one (h u (by simpa using hu))⟩
theorem ownG_inv {α β : Type} [Arg α] [Dat β] {g : α → Option β} {ds : List D} {r : D} (h : ownG g ds = some r) : ∃ a b, ds = Arg.ea a ∧ g a = some b ∧ r = Dat.enc b := by
 unfold ownG at h
 obtain ⟨a, h1, h2⟩ := Option.bind_eq_some_iff.1 h
 obtain ⟨b, h3, rfl⟩ := Option.map_eq_some_iff.1 h2
 exact ⟨a, b, Arg.ea_da _ _ h1, h3, rfl⟩
def erB : Value → Bool
 | .nilIface => false
 | _ => true
theorem strL_tr (w : World) (own : Bool) : ∀ xs : List ByteArray, TrL w own (xs.map Value.string) (xs.map Cel.cel).flatten []
 | [] => .nil
 | x :: xs => by
  have := TrL.cons (w := w) (own := own) (.string x) (.s x) [] _ _ [] (.s x) (strL_tr w own xs)
  exact this
theorem strL_inv {w : World} {own : Bool} : ∀ {xs : List ByteArray} {vs : List Value} {S : List Nat}, TrL w own vs (xs.map Cel.cel).flatten S → vs = xs.map Value.string
 | [], vs, S, h => by cases h; rfl
 | x :: xs, vs, S, h => by
  have h : TrL w own vs (.s x :: (xs.map Cel.cel).flatten) S := h
  cases h with
  | cons v d S1 vs ds Ss h1 hs1 =>
   obtain ⟨rfl, _⟩ := h1.inv_s
   rw [strL_inv hs1]
   rfl
theorem args_l {w : World} {vs : List Value} {xs : List ByteArray} {ds : List D} {Sd M : List Nat} (h : ArgsR w vs ((Dat.enc xs :: ds).map .d) Sd M) : ∃ v us Sd', vs = v :: us ∧ ArgsR w us (ds.map .d) Sd' M ∧
 ((∃ a c, v = .slice a 0 c ∧ xs = []) ∨ ∃ g o c, v = .slice (some ⟨g, o, none⟩) xs.length c ∧ g < w.heap.size ∧ xs.length ≤ c ∧ ∀ (j : Nat) x, xs[j]? = some x → w.cell? ⟨g, o + j, none⟩ = some (.string x)) := by
 have h : ArgsR w vs ((D.l 1 (xs.map Cel.cel) :: ds).map .d) Sd M := h
 cases h with
 | d v x S vs ins Sd' M ht hf hs =>
  refine ⟨v, vs, Sd', rfl, hs, ?_⟩
  generalize hxs : xs.map Cel.cel = ys at ht
  cases ht with
  | z a c _ _ => exact .inl ⟨a, c, rfl, by simpa using hxs⟩
  | l g o c _ cur e fr us _ S hg hcp hm hl hv h1 hx ho hts =>
   subst hxs
   have he := strL_inv hts
   subst he
   refine .inr ⟨g, o, c, by rw [List.length_map], (Array.getElem?_eq_some_iff.1 hg).1, by simpa using hcp, fun j x hj => ?_⟩
   have := hv j (.string x) (by rw [List.getElem?_map, hj]; rfl)
   simp only [World.cell?, hg]
   simpa using this
section
variable {P : Program} {f : FuncId} (hc : ∀ (a : Array Value) (w : World), (callFunc f a).run P w = .ok (.enter f a) w)
include hc
theorem fin_ok {w : World} {args : List Value} {Sd : List Nat} {d : D} {v : Value} (h : Calls P f args.toArray w fun e w' => e = .returned v ∧ Below w.heap.size w w') (ht : ∀ w', Tr w' true v d []) (hf : RetFlat v) :
 Does P f args.toArray w (Post w args Sd [] { ret := d }) :=
 does_of hc h fun e w' he => by
  obtain ⟨he, hb⟩ := he
  obtain ⟨h1, h2⟩ := rest_below hb
  exact ⟨v, he, post_sc h1 h2 (ht w') hf⟩
theorem ok_cut (hC : ∀ (s sep : ByteArray) (m : Int) (w : World), s.size < 4294967281 → w.cell? ⟨1, 0, none⟩ = some (.int .i64 m) → Calls P f #[.string s, .string sep] w fun e w' =>
 e = .returned (.tuple #[.string ⟨(Lib.cut s.data.toList sep.data.toList).1.toArray⟩, .string ⟨(Lib.cut s.data.toList sep.data.toList).2.1.toArray⟩, .bool (Lib.cut s.data.toList sep.data.toList).2.2]) ∧ Below w.heap.size w w') :
 ∀ ds r, glCut ds = some r → FnOK P f (ds.map .d) { ret := r } := by
 intro ds r h w args Sd M hk ha hM hd
 obtain ⟨⟨s, sep, u⟩, b, rfl, h1, rfl⟩ := ownG_inv h
 have ha : ArgsR w args ([D.s s, D.s sep].map .d) Sd M := ha
 obtain ⟨us, Sd1, rfl, ha1⟩ := args_s (s := s) (ds := [.s sep]) ha
 obtain ⟨us, Sd2, rfl, ha2⟩ := args_s (s := sep) (ds := []) ha1
 obtain ⟨rfl, rfl⟩ := args_n ha2
 unfold lCut at h1
 split at h1
 case isFalse => cases h1
 rename_i hs
 cases h1
 obtain ⟨m, hm⟩ := hk.kn.max
 refine fin_ok hc (hC s sep m w hs hm) (fun w' => .t _ _ _ (.cons _ _ [] _ _ [] (.s _) (.cons _ _ [] _ _ [] (.s _) (.cons _ _ [] _ _ [] (.b _) .nil)))) (flat_tuple (vs := [_, _, _]) ?_)
 intro v hv
 simp only [List.mem_cons, List.not_mem_nil, or_false] at hv
 rcases hv with rfl | rfl | rfl <;> rfl
theorem ok_itoa (hC : ∀ (n : Int) (w : World), -9223372036854775808 ≤ n → n ≤ 9223372036854775807 → Kn w → Calls P f #[.int .i64 n] w fun e w' => e = .returned (.string ⟨(Lib.itoa n).toArray⟩) ∧ Below w.heap.size w w') :
 ∀ ds r, glItoa ds = some r → FnOK P f (ds.map .d) { ret := r } := by
 intro ds r h w args Sd M hk ha hM hd
 obtain ⟨⟨n, u⟩, b, rfl, h1, rfl⟩ := ownG_inv h
 have ha : ArgsR w args ([D.i .i64 n].map .d) Sd M := ha
 obtain ⟨us, Sd1, rfl, ha1⟩ := args_i (k := .i64) (n := n) (ds := []) ha
 obtain ⟨rfl, rfl⟩ := args_n ha1
 unfold lItoa at h1
 split at h1
 case isFalse => cases h1
 rename_i hs
 cases h1
 exact fin_ok hc (hC n w hs.1 hs.2 hk.kn) (fun w' => .s _) (.inl (flat_one rfl))
theorem ok_atoi (hC : ∀ (s : ByteArray) (w : World), s.size ≤ 281474976710656 → Kn w → Calls P f #[.string s] w fun e w' => (∃ n v, e = .returned (.tuple #[.int .i64 n, v]) ∧ lAtoi s = some (n, ⟨erB v⟩) ∧ ifV v) ∧ Below w.heap.size w w') :
 ∀ ds r, glAtoi ds = some r → FnOK P f (ds.map .d) { ret := r } := by
 intro ds r h w args Sd M hk ha hM hd
 obtain ⟨⟨s, u⟩, b, rfl, h1, rfl⟩ := ownG_inv h
 have ha : ArgsR w args ([D.s s].map .d) Sd M := ha
 obtain ⟨us, Sd1, rfl, ha1⟩ := args_s (s := s) (ds := []) ha
 obtain ⟨rfl, rfl⟩ := args_n ha1
 have hs : s.size ≤ 281474976710656 := by
  have h2 : lAtoi s = some b := h1
  unfold lAtoi at h2
  split at h2
  ·assumption
  ·cases h2
 refine does_of hc (hC s w hs hk.kn) fun e w' he => ?_
 obtain ⟨⟨n, v, rfl, h2, hv⟩, hb⟩ := he
 obtain ⟨q1, q2⟩ := rest_below hb
 have h3 : lAtoi s = some b := h1
 rw [h2] at h3
 cases h3
 refine ⟨_, rfl, post_sc q1 q2 ?_ (flat_tuple (vs := [_, _]) ?_)⟩
 ·have hv2 : Tr w' true v (.e (erB v)) [] := by
   rcases hv with rfl | ⟨te, pe, rfl⟩
   ·exact Tr.ni
   ·exact Tr.ei te pe
  exact .t _ _ _ (.cons _ _ [] _ _ [] (.i _ _) (.cons _ _ [] _ _ [] hv2 .nil))
 ·intro u hu
  simp only [List.mem_cons, List.not_mem_nil, or_false] at hu
  rcases hu with rfl | rfl
  ·rfl
  ·rcases hv with rfl | ⟨te, pe, rfl⟩ <;> rfl
omit hc in
theorem own_tr {w : World} {base : Nat} {e : TypeId} {v : Value} {xs : List ByteArray} (h : w.ownsRow base e 1 v xs.length (xs.map Value.string)) (hb : base ≤ w.heap.size) :
 ∃ S, Tr w true v (Dat.enc xs) S ∧ S.Nodup ∧ (∀ b ∈ S, base ≤ b) ∧ v.oneCell' = true := by
 obtain ⟨_, h⟩ := h
 rcases h with ⟨rfl, h0⟩ | ⟨g, cap, cur, rfl, hg, hh, h1, h2, h3, h4⟩
 ·have : xs = [] := List.eq_nil_of_length_eq_zero h0
  subst this
  exact ⟨[], .z _ _ _ (fun _ => rfl), List.nodup_nil, by simp, rfl⟩
 ·refine ⟨[g], ?_, by simp, fun b hb => by simp at hb; subst hb; exact hg, rfl⟩
  have := Tr.l (w := w) (own := true) g 0 cap 1 cur e (0, 0) (xs.map Value.string) (xs.map Cel.cel) [] hh (by simpa using h1) h2 (by simp) (fun j v hj => by
   rw [Nat.zero_add, ← Array.getElem?_toList]
   rw [← h4, List.getElem?_take] at hj
   split at hj
   ·exact hj
   ·cases hj) (fun v hv => by
   obtain ⟨x, _, rfl⟩ := List.mem_map.1 hv
   rfl) (fun x hx => by
   obtain ⟨a, _, rfl⟩ := List.mem_map.1 hx
   rfl) (fun _ => ⟨rfl, by omega⟩) (by simpa using strL_tr w true xs)
  rw [List.length_map] at this
  exact this
theorem ok_clone (hn : ∀ (n c : Nat) (w : World), Calls P f #[.slice none n c] w fun e w' => e = .returned (.slice none 0 0) ∧ w' = w)
 (hz : ∀ (a : Addr) (c : Nat) (w : World), Calls P f #[.slice (some a) 0 c] w fun e w' => ∃ v', e = .returned v' ∧ w'.ownsRow w.heap.size 9 1 v' 0 [] ∧ Below w.heap.size w w')
 (hC : ∀ (b off n c : Nat) (zs : List ByteArray) (w : World), n ≤ zs.length → n * 16 ≤ 140737488355328 → (∀ j, j < zs.length → w.cell? ⟨b, off + j, none⟩ = some (.string (zs.getD j ByteArray.empty))) →
   Calls P f #[.slice (some ⟨b, off, none⟩) n c] w fun e w' => ∃ v', e = .returned v' ∧ w'.ownsRow w.heap.size 9 1 v' n ((zs.take n).map (Value.string)) ∧ Below w.heap.size w w') :
 ∀ ds r, glClone ds = some r → FnOK P f (ds.map .d) { ret := r } := by
 intro ds r h w args Sd M hk ha hM hd
 obtain ⟨⟨xs, u⟩, b, rfl, h1, rfl⟩ := ownG_inv h
 have ha : ArgsR w args ([Dat.enc xs].map .d) Sd M := ha
 obtain ⟨v, us, Sd1, rfl, ha1, hv⟩ := args_l (xs := xs) (ds := []) ha
 obtain ⟨rfl, rfl⟩ := args_n ha1
 have h1 : lClone xs = some b := h1
 unfold lClone at h1
 split at h1
 case isFalse => cases h1
 rename_i hs
 cases h1
 have fin : ∀ {v' : Value} {w' : World}, w'.ownsRow w.heap.size 9 1 v' xs.length (xs.map Value.string) → Below w.heap.size w w' → Post w [v] Sd [] { ret := Dat.enc xs } v' w' := fun ho hb => by
  obtain ⟨S, t1, t2, t3, t4⟩ := own_tr ho hb.size
  obtain ⟨q1, q2⟩ := rest_below hb
  exact ⟨q1, fun b hb _ => q2 b hb, S, [], t1, .inl (flat_one t4), rfl, List.nodup_nil, by simp, by simp, fun _ => ⟨t2, fun b hb => .inl (t3 b hb)⟩, fun b hb => .inl (t3 b hb)⟩
 rcases hv with ⟨a, c, rfl, rfl⟩ | ⟨g, o, c, rfl, q1, q2, q3⟩
 ·cases a with
  | none =>
   refine does_of hc (hn 0 c w) fun e w' he => ?_
   obtain ⟨rfl, rfl⟩ := he
   exact ⟨_, rfl, post_sc (.refl _) (fun _ _ => rfl) (.z _ _ _ (fun _ => rfl)) (.inl (flat_one rfl))⟩
  | some a =>
   refine does_of hc (hz a c w) fun e w' he => ?_
   obtain ⟨v', rfl, ho, hb⟩ := he
   exact ⟨v', rfl, fin ho hb⟩
 ·refine does_of hc (hC g o xs.length c xs w (Nat.le_refl _) hs fun j hj => ?_) fun e w' he => ?_
  ·exact q3 j _ (by rw [List.getD_eq_getElem?_getD, List.getElem?_eq_getElem hj]; rfl)
  ·obtain ⟨v', rfl, ho, hb⟩ := he
   rw [List.take_length] at ho
   exact ⟨v', rfl, fin ho hb⟩
end
end Go.Fs
namespace Go.Fs
inductive Sh where
 | b | i | s | t
 | l (cs : List Sh)
def treeS : List Sh := [.i, .i, .s, .s, .t]
mutual
def shD : Sh → D → Bool
 | .b, .b _ => true
 | .i, .i .i64 _ => true
 | .s, .s _ => true
 | .t, .l sz xs => sz == 5 && shLL treeS xs
 | .l cs, .l sz xs => sz == cs.length && shLL cs xs
 | _, _ => false
def shL : List Sh → List D → Bool
 | [], [] => true
 | c :: cs, d :: ds => shD c d && shL cs ds
 | _, _ => false
def shLL (cs : List Sh) : List (List D) → Bool
 | [] => true
 | x :: xs => shL cs x && shLL cs xs
end
theorem shL_nil {ds : List D} (h : shL [] ds = true) : ds = [] := by cases ds <;> simp_all [shL]
theorem shL_cons {c : Sh} {cs : List Sh} {ds : List D} (h : shL (c :: cs) ds = true) : ∃ d ds', ds = d :: ds' ∧ shD c d = true ∧ shL cs ds' = true := by
 cases ds with
 | nil => simp [shL] at h
 | cons d ds => simp only [shL, Bool.and_eq_true] at h; exact ⟨d, ds, rfl, h.1, h.2⟩
theorem shD_s {d : D} (h : shD .s d = true) : ∃ v, d = .s v := by cases d <;> simp_all [shD]
theorem shD_l {cs : List Sh} {d : D} (h : shD (.l cs) d = true) : ∃ xs, d = .l cs.length xs ∧ shLL cs xs = true := by
 cases d with
 | l sz xs => simp only [shD, Bool.and_eq_true, beq_iff_eq] at h; exact ⟨xs, by rw [h.1], h.2⟩
 | _ => simp [shD] at h
theorem shLL_len {cs : List Sh} : ∀ {xs : List (List D)}, shLL cs xs = true → ∀ x ∈ xs, shL cs x = true
 | [], _, x, hx => by cases hx
 | y :: xs, h, x, hx => by
  simp only [shLL, Bool.and_eq_true] at h
  rcases List.mem_cons.1 hx with rfl | hx
  ·exact h.1
  ·exact shLL_len h.2 x hx
theorem shL_length : ∀ {cs : List Sh} {ds : List D}, shL cs ds = true → ds.length = cs.length
 | [], [], _ => rfl
 | c :: cs, d :: ds, h => by simp only [shL, Bool.and_eq_true] at h; simp [shL_length h.2]
 | [], _ :: _, h => by simp [shL] at h
 | _ :: _, [], h => by simp [shL] at h
end Go.Fs
namespace Go.Fs
open Go.RowKit
mutual
inductive HS (P : Program) : TypeId → List Sh → Prop
 | b (t : TypeId) (h : P.underlying t = some .bool) : HS P t [.b]
 | i (t : TypeId) (h : P.underlying t = some (.int .i64)) : HS P t [.i]
 | s (t : TypeId) (h : P.underlying t = some .string) : HS P t [.s]
 | l (t e : TypeId) (css : List Sh) (h : P.underlying t = some (.slice e)) (hc : P.cellsOf e = css.length) (hb : 1 ≤ P.bytesOf e) (hp : 0 < css.length) (he : HS P e css) : HS P t [.l css]
 | t (t e : TypeId) (fs : Array Field) (h : P.underlying t = some (.slice e)) (hc : P.cellsOf e = 5) (hb : 1 ≤ P.bytesOf e) (hs : P.underlying e = some (.struct fs)) (hf : HSF P [t] fs.toList 0 treeS) : HS P t [.t]
 | st (t : TypeId) (fs : Array Field) (css : List Sh) (h : P.underlying t = some (.struct fs)) (hc : P.cellsOf t = css.length) (hf : HSF P [] fs.toList 0 css) : HS P t css
inductive HSF (P : Program) : List TypeId → List Field → Nat → List Sh → Prop
 | nil (rec : List TypeId) (o : Nat) : HSF P rec [] o []
 | cons (rec : List TypeId) (f : Field) (fs : List Field) (o : Nat) (c1 c2 : List Sh) (hoff : f.offset = o) (hsz : P.cellsOf f.type = c1.length) (h : HS P f.type c1) (hs : HSF P rec fs (o + c1.length) c2) : HSF P rec (f :: fs) o (c1 ++ c2)
 | self (f : Field) (fs : List Field) (o : Nat) (c2 : List Sh) (hoff : f.offset = o) (hsz : P.cellsOf f.type = 1) (hs : HSF P [f.type] fs (o + 1) c2) : HSF P [f.type] (f :: fs) o (.t :: c2)
end
section
variable {H : Type} {enc : TypeId × Value → H} {P : Program} {w : World} {spare : Nat → Bool} {held : Bool}
def RdOK (w : World) (cs : List Value) (css : List Sh) : Prop := ∃ ds S, TrL w false cs ds S ∧ (∀ v ∈ cs, v.oneCell' = true) ∧ shL css ds = true ∧ okL ds = true
theorem RdOK.append {cs cs' : List Value} {css css' : List Sh} (h : RdOK w cs css) (h' : RdOK w cs' css') : RdOK w (cs ++ cs') (css ++ css') := by
 obtain ⟨ds, S, h1, h2, h3, h4⟩ := h
 obtain ⟨ds', S', h1', h2', h3', h4'⟩ := h'
 refine ⟨ds ++ ds', S ++ S', h1.append h1', fun v hv => ?_, ?_, ?_⟩
 ·rcases List.mem_append.1 hv with hv | hv
  ·exact h2 v hv
  ·exact h2' v hv
 ·clear h1 h2 h4
  induction css generalizing ds with
  | nil => obtain rfl := shL_nil h3; exact h3'
  | cons c css ih =>
   obtain ⟨d, q, rfl, e1, e2⟩ := shL_cons h3
   simp only [List.cons_append, shL, Bool.and_eq_true]
   exact ⟨e1, ih q e2⟩
 ·clear h1 h3
  induction ds with
  | nil => exact h4'
  | cons d ds ih =>
   rw [okL_cons] at h4
   simp only [List.cons_append]
   rw [okL_cons]
   exact ⟨h4.1, ih h4.2⟩
theorem wf_i64 {n : Int} (h : (Lit.int .i64 n).wf = true) : okD (.i .i64 n) = true := by
 rw [okD_i]
 simp only [Lit.wf, Bool.and_eq_true, decide_eq_true_eq] at h
 have e1 : IntKind.i64.min = -9223372036854775808 := by decide
 have e2 : IntKind.i64.max = 9223372036854775807 := by decide
 rw [e1, e2] at h
 omega
theorem weights_all {e : TypeId} : ∀ {l : List (DataW H)}, (DataW.weightsAll P e l).all (· ≤ reachBytes) = true → ∀ d ∈ l, (d.weights P e).all (· ≤ reachBytes) = true
 | [], _, d, hd => by cases hd
 | x :: l, h, d, hd => by
  simp only [DataW.weightsAll, List.all_append, Bool.and_eq_true] at h
  rcases List.mem_cons.1 hd with rfl | hd
  ·exact h.1
  ·exact weights_all h.2 d hd
theorem cell_addr {a : Addr} {v : Value} (h : w.cell? a = some v) : ∃ cur el fr, w.heap[a.block]? = some (.cells cur el fr) ∧ a.spot = none ∧ cur[a.off]? = some v := by
 unfold World.cell? at h
 split at h
 ·rename_i c el fr hg
  split at h
  ·cases h
  ·rename_i hs
   exact ⟨c, el, fr, hg, by simpa using hs, h⟩
 ·cases h
theorem addr_add (a : Addr) (m n : Nat) : (a.add m).add n = a.add (m + n) := by
 obtain ⟨b, o, s⟩ := a
 unfold Addr.add
 by_cases h1 : m = 0 <;> by_cases h2 : n = 0 <;> simp [h1, h2, Nat.add_assoc]
theorem rd_slice {t e : TypeId} {css : List Sh} (ht : P.underlying t = some (.slice e)) (hc : P.cellsOf e = css.length) (hb : 1 ≤ P.bytesOf e) (hp : 0 < css.length) {n : Nat}
 (ih : ∀ (m : Nat), m < n → ∀ cs (x : DataW H × List MemPlace), DataW.trod enc P w 0 spare held m e cs = some x → (x.1.weights P e).all (· ≤ reachBytes) = true → RdOK w cs css)
 {cs : List Value} {x : DataW H × List MemPlace} (h : DataW.trod enc P w 0 spare held n t cs = some x) (hw : (x.1.weights P t).all (· ≤ reachBytes) = true) :
 ∃ xs S v, cs = [v] ∧ Tr w false v (.l css.length xs) S ∧ v.oneCell' = true ∧ shLL css xs = true ∧ okLL xs = true ∧ xs.length ≤ 140737488355328 := by
 rcases DataW.trod_slice ht h with ⟨rfl, rfl⟩ | ⟨a, len, cap, elems, rest, m, rfl, rfl, rfl, hb0, hl, hm, hel, hx, _, _⟩
 ·exact ⟨[], [], _, rfl, .z none 0 _ (by simp), rfl, rfl, rfl, Nat.zero_le _⟩
 ·-- element by element
  simp only [DataW.weights, ht, List.all_cons, List.all_append, Bool.and_eq_true, decide_eq_true_eq] at hw
  obtain ⟨hw1, hw2, _⟩ := hw
  have hlen : len ≤ 140737488351232 := by
   have h1 : len ≤ len * P.bytesOf e := Nat.le_mul_of_pos_right _ (by omega)
   have h2 : (elems.map (·.1)).length = len := by rw [List.length_map, hel]
   rw [h2] at hw1
   have h3 : len * P.bytesOf e ≤ (len + (rest.map (·.1)).length) * P.bytesOf e := Nat.mul_le_mul_right _ (by omega)
   have h4 : reachBytes = 140737488351232 := by decide
   omega
  have step : ∀ k, k ≤ len → ∃ vs xs S, TrL w false vs xs.flatten S ∧ (∀ v ∈ vs, v.oneCell' = true) ∧ vs.length = k * css.length ∧ xs.length = k ∧ shLL css xs = true ∧ okLL xs = true ∧ ∀ j v, vs[j]? = some v → w.cell? (a.add j) = some v := by
   intro k
   induction k with
   | zero => intro _; exact ⟨[], [], [], .nil, by simp, by simp, rfl, rfl, rfl, by simp⟩
   | succ k ihk =>
    intro hk
    obtain ⟨vs, xs, S, a1, a2, a3, a4, a5, a6, a7⟩ := ihk (by omega)
    have hk' : k < elems.length := by omega
    have hxk := hx k (by omega)
    rw [List.getElem?_eq_getElem hk'] at hxk
    obtain ⟨cs', c1, c2⟩ := Option.bind_eq_some_iff.1 hxk
    obtain ⟨ds, S', b1, b2, b3, b4⟩ := ih m (Nat.lt_succ_self m) cs' _ c2 (weights_all hw2 _ (List.mem_map.2 ⟨_, List.getElem_mem hk', rfl⟩))
    obtain ⟨_, d2, d3⟩ := World.cells?_some c1
    refine ⟨vs ++ cs', xs ++ [ds], S ++ S', ?_, ?_, ?_, ?_, ?_, ?_, ?_⟩
    ·rw [List.flatten_append]; simpa using a1.append b1
    ·intro v hv
     rcases List.mem_append.1 hv with hv | hv
     ·exact a2 v hv
     ·exact b2 v hv
    ·rw [List.length_append, a3, d2, hc, Nat.succ_mul]
    ·simp [a4]
    ·clear a1 a4 a6 a7
     induction xs with
     | nil => simp only [List.nil_append, shLL, Bool.and_eq_true]; exact ⟨b3, trivial⟩
     | cons y ys ihy => simp only [List.cons_append, shLL, Bool.and_eq_true] at a5 ⊢; exact ⟨a5.1, ihy a5.2⟩
    ·clear a1 a4 a5 a7
     induction xs with
     | nil => simp only [List.nil_append, okLL, Bool.and_eq_true]; exact ⟨b4, trivial⟩
     | cons y ys ihy => simp only [List.cons_append, okLL, Bool.and_eq_true] at a6 ⊢; exact ⟨a6.1, ihy a6.2⟩
    ·intro j v hj
     by_cases hjl : j < vs.length
     ·rw [List.getElem?_append_left hjl] at hj; exact a7 j v hj
     ·rw [List.getElem?_append_right (by omega)] at hj
      have hlt : j - vs.length < cs'.length := (List.getElem?_eq_some_iff.1 hj).1
      have := d3 (j - vs.length) (by omega)
      rw [hj] at this
      rw [← this, hc, addr_add]
      congr 2
      omega
  obtain ⟨vs, xs, S, a1, a2, a3, a4, a5, a6, a7⟩ := step len (Nat.le_refl _)
  by_cases h0 : len = 0
  ·subst h0
   obtain rfl : xs = [] := List.eq_nil_of_length_eq_zero a4
   exact ⟨[], [], _, rfl, .z (some a) cap _ (by simp), rfl, rfl, rfl, Nat.zero_le _⟩
  ·have hv0 : 0 < vs.length := by rw [a3]; exact Nat.mul_pos (by omega) hp
   have c0 := a7 0 vs[0] (List.getElem?_eq_getElem hv0)
   obtain ⟨cur, el, fr, g1, g2, _⟩ := cell_addr c0
   have hblk : (a.add 0).block = a.block := rfl
   have hspot : (a.add 0).spot = a.spot := rfl
   rw [hblk] at g1
   rw [hspot] at g2
   have ha : a = ⟨a.block, a.off, none⟩ := by cases a; simp at g2; simp [g2]
   have had : ∀ j, a.add j = ⟨a.block, a.off + j, none⟩ := fun j => by
    have := add_at a.block a.off j
    rw [← ha] at this; exact this
   refine ⟨xs, a.block :: S, .slice (some a) len cap, rfl, ?_, rfl, a5, a6, by omega⟩
   have := Tr.l (w := w) (own := false) a.block a.off cap css.length cur el fr vs xs S g1 (by omega) (by
    have : Go.maxLen = 2 ^ 63 - 1 := rfl
    omega) (by rw [a3, a4]) (fun j v hj => by
     have := a7 j v hj
     rw [had, cell_at g1] at this
     exact this) a2 (fun x hx => by rw [shL_length (shLL_len a5 x hx)]) (by simp) a1
   rw [a4, ← ha] at this
   exact this
theorem trod_rd : ∀ (n : Nat) {t : TypeId} {css : List Sh}, HS P t css → ∀ cs (x : DataW H × List MemPlace), DataW.trod enc P w 0 spare held n t cs = some x → (x.1.weights P t).all (· ≤ reachBytes) = true → RdOK w cs css := by
 intro n
 induction n using Nat.strongRecOn with
 | _ n IH =>
  intro t css hs
  -- fields in turn
  have fields : ∀ {rec : List TypeId} {fs : List Field} {o : Nat} {css : List Sh}, HSF P rec fs o css → (∀ t ∈ rec, HS P t [.t]) → ∀ (m : Nat), m < n → ∀ (cs : List Value) (ys : List (DataW H × List MemPlace)), o + css.length ≤ cs.length → (∀ (i : Nat) (f : Field), fs[i]? = some f → DataW.trod enc P w 0 spare held m f.type ((cs.drop f.offset).take (P.cellsOf f.type)) = ys[i]?) → ys.length = fs.length →
   (DataW.weightsEach P (fs.map (·.type)) (ys.map (·.1))).all (· ≤ reachBytes) = true → RdOK w ((cs.drop o).take css.length) css := by
   intro rec fs
   induction fs with
   | nil =>
    intro o css hf _ m _ cs ys _ _ _ _
    cases hf
    exact ⟨[], [], by simpa using .nil, by simp, rfl, rfl⟩
   | cons f fs ihf =>
    intro o css hf hrec m hm cs ys hl hx hy hw
    cases ys with
    | nil => simp at hy
    | cons y ys =>
     simp only [List.map_cons, DataW.weightsEach, List.all_append, Bool.and_eq_true] at hw
     have h0 := hx 0 f rfl
     simp only [List.getElem?_cons_zero] at h0
     cases hf with
     | cons _ _ _ _ c1 c2 hoff hsz h hs' =>
      rw [hoff, hsz] at h0
      have r1 := IH m hm h _ _ h0 hw.1
      have r2 := ihf hs' hrec m hm cs ys (by rw [List.length_append] at hl; omega) (fun i g hg => by simpa using hx (i + 1) g (by simpa using hg)) (by simpa using hy) hw.2
      rw [List.length_append, List.take_add, List.drop_drop]
      exact r1.append r2
     | self _ _ _ c2 hoff hsz hs' =>
      rw [hoff, hsz] at h0
      have r1 := IH m hm (hrec f.type (by simp)) _ _ h0 hw.1
      have r2 := ihf hs' hrec m hm cs ys (by rw [List.length_cons] at hl; omega) (fun i g hg => by simpa using hx (i + 1) g (by simpa using hg)) (by simpa using hy) hw.2
      rw [List.length_cons, Nat.add_comm c2.length 1, List.take_add, List.drop_drop]
      exact r1.append (css := [.t]) r2
  have struct : ∀ {e : TypeId} {fs : Array Field} {css : List Sh} {rec : List TypeId}, P.underlying e = some (.struct fs) → P.cellsOf e = css.length → HSF P rec fs.toList 0 css → (∀ t ∈ rec, HS P t [.t]) → ∀ m, m ≤ n → ∀ cs (x : DataW H × List MemPlace), DataW.trod enc P w 0 spare held m e cs = some x → (x.1.weights P e).all (· ≤ reachBytes) = true → RdOK w cs css := by
   intro e fs css rec he hc hf hrec m hm cs x h hw
   obtain ⟨xs, k, rfl, rfl, hl, hlen, hx⟩ := DataW.trod_struct he h
   simp only [DataW.weights, he] at hw
   have := fields hf hrec k (by omega) cs xs (by omega) (fun i f hi => hx i f (by rw [← Array.getElem?_toList]; exact hi)) (by simpa using hlen) hw
   rw [List.drop_zero, ← hc, ← hl, List.take_length] at this
   exact this
  cases hs with
  | b _ h =>
   intro cs x hx hw
   obtain ⟨b, rfl, rfl⟩ := DataW.trod_bool h hx
   exact ⟨[.b b], [] ++ [], .cons _ _ _ _ _ _ (.b b) .nil, by simp [Value.oneCell'], rfl, by simp [okL, okD]⟩
  | i _ h =>
   intro cs x hx hw
   obtain ⟨k, rfl, rfl, hwf⟩ := DataW.trod_int h hx
   refine ⟨[.i .i64 k], [] ++ [], .cons _ _ _ _ _ _ (.i .i64 k) .nil, by simp [Value.oneCell'], rfl, ?_⟩
   rw [okL_cons]
   exact ⟨wf_i64 hwf, rfl⟩
  | s _ h =>
   intro cs x hx hw
   obtain ⟨s, rfl, rfl, hsz⟩ := DataW.trod_string h hx
   refine ⟨[.s s], [] ++ [], .cons _ _ _ _ _ _ (.s s) .nil, by simp [Value.oneCell'], rfl, ?_⟩
   rw [okL_cons, okD_s]
   refine ⟨?_, rfl⟩
   simp only [DataW.weights, List.all_cons, List.all_nil, Bool.and_true, decide_eq_true_eq] at hw
   have h4 : reachBytes = 140737488351232 := by decide
   have h5 : s.data.toList.length = s.size := by simp
   omega
  | l _ e css' h hc hb hp he =>
   intro cs x hx hw
   obtain ⟨xs, S, v, rfl, r1, r2, r3, r4, r5⟩ := rd_slice h hc hb hp (fun m hm cs x => IH m hm he cs x) hx hw
   refine ⟨[.l css'.length xs], S ++ [], .cons _ _ _ _ _ _ r1 .nil, by simpa using r2, ?_, ?_⟩
   ·simp only [shL, shD, beq_self_eq_true, Bool.true_and, Bool.and_true]; exact r3
   ·rw [okL_cons, okD_l]; exact ⟨⟨r5, r4⟩, rfl⟩
  | t _ e fs h hc hb hst hf =>
   intro cs x hx hw
   obtain ⟨xs, S, v, rfl, r1, r2, r3, r4, r5⟩ := rd_slice (css := treeS) h hc hb (by decide) (fun m hm cs x hx hw => struct (css := treeS) hst hc hf (fun t' ht' => by
    obtain rfl : t' = t := by simpa using ht'
    exact .t _ e fs h hc hb hst hf) m (Nat.le_of_lt hm) cs x hx hw) hx hw
   refine ⟨[.l 5 xs], S ++ [], .cons _ _ _ _ _ _ r1 .nil, by simpa using r2, ?_, ?_⟩
   ·simp only [shL, shD, beq_self_eq_true, Bool.true_and, Bool.and_true]; exact r3
   ·rw [okL_cons, okD_l]; exact ⟨⟨r5, r4⟩, rfl⟩
  | st _ fs _ h hc hf =>
   intro cs x hx hw
   exact struct h hc hf (by simp) n (Nat.le_refl _) cs x hx hw
end
end Go.Fs
