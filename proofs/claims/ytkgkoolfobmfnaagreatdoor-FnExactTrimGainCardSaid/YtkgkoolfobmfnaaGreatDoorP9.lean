/- A part of the proof: an evaluator of the program's code over plain data, proved sound; the equations of its functions; what they compute. No conditions beyond those in the theorems. -/
import Derived.Lib.AtoiAll
import Derived.Lib.IndexMore
import Derived.Lib.ItoaNum
import Derived.Lib.Join
import Derived.Lib.Split
import Derived.Lib.SplitLaws
import Derived.Test.YtkgkoolfobmfnaaGreatDoorP8
set_option linter.unusedVariables false
set_option linter.unusedSimpArgs false
set_option linter.constructorNameAsVariable false
set_option linter.unusedSectionVars false
set_option linter.defProp false
namespace Go.Fs
open Go.RowKit

/-- How a type lies in cells. -/
class Cel (α : Type) where
  cel : α → List D
  unc : List D → Option α
  w : Nat
  unc_cel : ∀ a, unc (cel a) = some a
  cel_unc : ∀ ds a, unc ds = some a → ds = cel a
  len : ∀ a, (cel a).length = w
/-- How a type is read as a datum. -/
class Dat (α : Type) where
  enc : α → D
  dec : D → Option α
  dec_enc : ∀ a, dec (enc a) = some a
  enc_dec : ∀ d a, dec d = some a → d = enc a
open Cel (cel unc)
open Dat (enc dec)

def oneD {α : Type} (f : D → Option α) : List D → Option α
  | [d] => f d
  | _ => none
def decI : D → Option Int
  | .i .i64 n => some n
  | _ => none
def decU : D → Option Int
  | .i .u8 n => some n
  | _ => none
def decB : D → Option Bool
  | .b v => some v
  | _ => none
def decS : D → Option ByteArray
  | .s v => some v
  | _ => none
instance : Dat Int := ⟨.i .i64, decI, fun _ => rfl, fun d a h => by unfold decI at h; split at h <;> cases h; rfl⟩
instance : Dat Bool := ⟨.b, decB, fun _ => rfl, fun d a h => by unfold decB at h; split at h <;> cases h; rfl⟩
instance : Dat ByteArray := ⟨.s, decS, fun _ => rfl, fun d a h => by unfold decS at h; split at h <;> cases h; rfl⟩
theorem oneD_inv {α : Type} {f : D → Option α} {ds : List D} {a : α} (h : oneD f ds = some a) : ∃ d, ds = [d] ∧ f d = some a := by
  unfold oneD at h
  split at h
  · exact ⟨_, rfl, h⟩
  · cases h
def CelT (α : Type) : Type := Cel α
def DatT (α : Type) : Type := Dat α
def celOf {α : Type} [Dat α] : CelT α := Cel.mk (fun a => [enc a]) (oneD dec) 1 (fun a => Dat.dec_enc a)
  (fun ds a h => by obtain ⟨d, rfl, h⟩ := oneD_inv h; rw [Dat.enc_dec d a h]) (fun a => rfl)
instance : Cel Int := celOf
instance : Cel Bool := celOf
instance : Cel ByteArray := celOf
def decG {α : Type} [Cel α] : D → Option α
  | .g ds => unc ds
  | _ => none
/-- A struct is read as its cells. -/
def datOf {α : Type} [Cel α] : DatT α := Dat.mk (fun a => .g (cel a)) decG (fun a => Cel.unc_cel a)
  (fun d a h => by
    unfold decG at h
    split at h
    · rw [Cel.cel_unc _ a h]
    · cases h)
def uncL {α : Type} (f : List D → Option α) : List (List D) → Option (List α)
  | [] => some []
  | x :: xs => (f x).bind fun a => (uncL f xs).map (a :: ·)
def decL {α : Type} [Cel α] : D → Option (List α)
  | .l sz xs => if sz = Cel.w α then uncL unc xs else none
  | _ => none
theorem uncL_map {α : Type} [Cel α] : ∀ (xs : List α), uncL unc (xs.map cel) = some xs
  | [] => rfl
  | x :: xs => by simp only [List.map_cons, uncL, Cel.unc_cel, Option.bind_some, uncL_map xs, Option.map_some]
theorem uncL_inv {α : Type} [Cel α] : ∀ {ds : List (List D)} {xs : List α}, uncL unc ds = some xs → ds = xs.map cel
  | [], xs, h => by cases h; rfl
  | d :: ds, xs, h => by
    simp only [uncL, Option.bind_eq_some_iff, Option.map_eq_some_iff] at h
    obtain ⟨a, h1, ys, h2, rfl⟩ := h
    rw [List.map_cons, ← uncL_inv h2, Cel.cel_unc _ _ h1]
instance instDatL {α : Type} [Cel α] : Dat (List α) where
  enc xs := .l (Cel.w α) (xs.map cel)
  dec := decL
  dec_enc xs := by simp only [decL, if_true, uncL_map]
  enc_dec d xs h := by
    unfold decL at h
    split at h
    · obtain ⟨e, h2⟩ := ite_inv h
      rw [uncL_inv h2, e]
    · cases h
instance instCelL {α : Type} [Cel α] : Cel (List α) := celOf
def decT2 {α β : Type} (f : D → Option α) (g : D → Option β) : D → Option (α × β)
  | .t [x, y] => (f x).bind fun a => (g y).map fun b => (a, b)
  | _ => none
instance instDat2 {α β : Type} [Dat α] [Dat β] : Dat (α × β) where
  enc x := .t [enc x.1, enc x.2]
  dec := decT2 dec dec
  dec_enc x := by simp only [decT2, Dat.dec_enc, Option.bind_some, Option.map_some]
  enc_dec d x h := by
    unfold decT2 at h
    split at h
    · simp only [Option.bind_eq_some_iff, Option.map_eq_some_iff] at h
      obtain ⟨a, h1, b, h2, rfl⟩ := h
      rw [Dat.enc_dec _ _ h1, Dat.enc_dec _ _ h2]
    · cases h
/-- What is answered beside a second, third thing. -/
structure T3 (α β γ : Type) where
  a : α
  b : β
  c : γ
def decT3 {α β γ : Type} (f : D → Option α) (g : D → Option β) (h : D → Option γ) : D → Option (T3 α β γ)
  | .t [x, y, z] => (f x).bind fun a => (g y).bind fun b => (h z).map fun c => ⟨a, b, c⟩
  | _ => none
instance instDat3 {α β γ : Type} [Dat α] [Dat β] [Dat γ] : Dat (T3 α β γ) where
  enc x := .t [enc x.a, enc x.b, enc x.c]
  dec := decT3 dec dec dec
  dec_enc x := by simp only [decT3, Dat.dec_enc, Option.bind_some, Option.map_some]
  enc_dec d x h := by
    unfold decT3 at h
    split at h
    · simp only [Option.bind_eq_some_iff, Option.map_eq_some_iff] at h
      obtain ⟨a, h1, b, h2, c, h3, rfl⟩ := h
      rw [Dat.enc_dec _ _ h1, Dat.enc_dec _ _ h2, Dat.enc_dec _ _ h3]
    · cases h

/-- A byte; a function as a value. -/
structure U8 where
  n : Int
  deriving Inhabited
structure Fv where
  d : D
  deriving Inhabited
instance : Dat U8 := ⟨fun x => .i .u8 x.n, fun d => (decU d).map U8.mk, fun _ => rfl, fun d a h => by
  obtain ⟨n, h, rfl⟩ := Option.map_eq_some_iff.1 h
  unfold decU at h; split at h <;> cases h; rfl⟩
instance : Cel U8 := celOf
instance : Dat Fv := ⟨Fv.d, fun d => some ⟨d⟩, fun _ => rfl, fun d a h => by cases h; rfl⟩
/-- A pointer to a struct that one is handed. -/
structure Pt (α : Type) where
  v : α
  deriving Inhabited
def decP {α : Type} [Cel α] : D → Option (Pt α)
  | .p ds => (unc ds).map Pt.mk
  | _ => none
instance instDatP {α : Type} [Cel α] : Dat (Pt α) := ⟨fun x => .p (cel x.v), decP, fun x => by simp only [decP, Cel.unc_cel, Option.map_some], fun d a h => by
  unfold decP at h
  split at h
  · obtain ⟨x, h1, rfl⟩ := Option.map_eq_some_iff.1 h
    rw [Cel.cel_unc _ x h1]
  · cases h⟩
theorem enc_P {α : Type} [Cel α] (x : Pt α) : enc x = .p (cel x.v) := rfl
theorem dec_P {α : Type} [Cel α] (ds : List D) : dec (α := Pt α) (.p ds) = (unc ds).map Pt.mk := rfl
/-- An error: is there one? -/
structure Er where
  b : Bool
  deriving Inhabited
instance : Dat Er := ⟨fun x => .e x.b, fun | .e b => some ⟨b⟩ | _ => none, fun _ => rfl, fun d a h => by split at h <;> cases h; rfl⟩
instance : Cel Er := celOf
theorem enc_E (x : Er) : enc x = .e x.b := rfl
theorem dec_E (b : Bool) : dec (α := Er) (.e b) = some ⟨b⟩ := rfl
theorem cel_E (x : Er) : cel x = [D.e x.b] := rfl
theorem w_E : Cel.w Er = 1 := rfl
class Arg (α : Type) where
  ea : α → List D
  da : List D → Option α
  da_ea : ∀ a, da (ea a) = some a
  ea_da : ∀ ds a, da ds = some a → ds = ea a
open Arg (ea da)
def daC {α β : Type} (f : D → Option α) (g : List D → Option β) : List D → Option (α × β)
  | d :: ds => (f d).bind fun a => (g ds).map fun b => (a, b)
  | _ => none
def da0 : List D → Option Unit
  | [] => some ()
  | _ => none
instance : Arg Unit := ⟨fun _ => [], da0, fun _ => rfl, fun ds a h => by unfold da0 at h; split at h <;> cases h; rfl⟩
instance instArgC {α β : Type} [Dat α] [Arg β] : Arg (α × β) where
  ea x := enc x.1 :: ea x.2
  da := daC dec da
  da_ea x := by simp only [daC, Dat.dec_enc, Option.bind_some, Arg.da_ea, Option.map_some]
  ea_da ds x h := by
    unfold daC at h
    split at h
    · simp only [Option.bind_eq_some_iff, Option.map_eq_some_iff] at h
      obtain ⟨a, h1, b, h2, rfl⟩ := h
      rw [Dat.enc_dec _ _ h1, Arg.ea_da _ _ h2]
    · cases h

theorem enc_I (n : Int) : enc n = .i .i64 n := rfl
theorem enc_B (v : Bool) : enc v = .b v := rfl
theorem enc_S (v : ByteArray) : enc v = .s v := rfl
theorem enc_U (x : U8) : enc x = .i .u8 x.n := rfl
theorem enc_F (x : Fv) : enc x = x.d := rfl
theorem enc_L {α : Type} [Cel α] (xs : List α) : enc xs = .l (Cel.w α) (xs.map cel) := rfl
theorem enc_2 {α β : Type} [Dat α] [Dat β] (x : α × β) : enc x = .t [enc x.1, enc x.2] := rfl
theorem enc_3 {α β γ : Type} [Dat α] [Dat β] [Dat γ] (x : T3 α β γ) : enc x = .t [enc x.a, enc x.b, enc x.c] := rfl
theorem cel_I (n : Int) : cel n = [.i .i64 n] := rfl
theorem cel_B (v : Bool) : cel v = [.b v] := rfl
theorem cel_S (v : ByteArray) : cel v = [.s v] := rfl
theorem cel_U (x : U8) : cel x = [.i .u8 x.n] := rfl
theorem cel_L {α : Type} [Cel α] (xs : List α) : cel xs = [.l (Cel.w α) (xs.map cel)] := rfl
theorem w_I : Cel.w Int = 1 := rfl
theorem w_B : Cel.w Bool = 1 := rfl
theorem w_S : Cel.w ByteArray = 1 := rfl
theorem w_U : Cel.w U8 = 1 := rfl
theorem w_L {α : Type} [Cel α] : Cel.w (List α) = 1 := rfl
theorem dec_I (n : Int) : dec (.i .i64 n) = some n := rfl
theorem dec_B (v : Bool) : dec (.b v) = some v := rfl
theorem dec_S (v : ByteArray) : dec (.s v) = some v := rfl
theorem dec_U (n : Int) : dec (.i .u8 n) = some (U8.mk n) := rfl
theorem dec_F (d : D) : dec d = some (Fv.mk d) := rfl
theorem dec_L {α : Type} [Cel α] (sz : Nat) (xs : List (List D)) : dec (α := List α) (.l sz xs) = if sz = Cel.w α then uncL unc xs else none := rfl
theorem dec_2 {α β : Type} [Dat α] [Dat β] (x y : D) : dec (α := α × β) (.t [x, y]) = (dec x).bind fun a => (dec y).map fun b => (a, b) := rfl
theorem dec_3 {α β γ : Type} [Dat α] [Dat β] [Dat γ] (x y z : D) : dec (α := T3 α β γ) (.t [x, y, z]) = (dec x).bind fun a => (dec y).bind fun b => (dec z).map fun c => ⟨a, b, c⟩ := rfl
theorem unc_I (d : D) : unc (α := Int) [d] = dec d := rfl
theorem unc_B (d : D) : unc (α := Bool) [d] = dec d := rfl
theorem unc_S (d : D) : unc (α := ByteArray) [d] = dec d := rfl
theorem unc_U (d : D) : unc (α := U8) [d] = dec d := rfl
theorem unc_L {α : Type} [Cel α] (d : D) : unc (α := List α) [d] = dec d := rfl
theorem uncL_nil {α : Type} (f : List D → Option α) : uncL f [] = some [] := rfl
theorem uncL_cons {α : Type} (f : List D → Option α) (x : List D) (xs : List (List D)) : uncL f (x :: xs) = (f x).bind fun a => (uncL f xs).map (a :: ·) := rfl
theorem uncL_app {α : Type} (f : List D → Option α) : ∀ (xs ys : List (List D)), uncL f (xs ++ ys) = (uncL f xs).bind fun a => (uncL f ys).map (a ++ ·)
  | [], ys => by simp [uncL]
  | x :: xs, ys => by
    simp only [List.cons_append, uncL, uncL_app f xs ys]
    cases f x with
    | none => rfl
    | some a =>
      simp only [Option.bind_some]
      cases uncL f xs with
      | none => rfl
      | some b => cases uncL f ys <;> rfl
theorem ea_0 : ea () = [] := rfl
theorem ea_C {α β : Type} [Dat α] [Arg β] (a : α) (b : β) : ea (a, b) = enc a :: ea b := rfl
theorem da_0 : da (α := Unit) [] = some () := rfl
theorem da_C {α β : Type} [Dat α] [Arg β] (d : D) (ds : List D) : da (α := α × β) (d :: ds) = (dec d).bind fun a => (da ds).map fun b => (a, b) := rfl
theorem all_scal {α : Type} [Cel α] (h : ∀ a : α, (cel a).all scal = true) (xs : List α) : (xs.map cel).all (fun x => x.all scal) = true := by
  rw [List.all_eq_true]
  intro x hx
  obtain ⟨a, _, rfl⟩ := List.mem_map.1 hx
  exact h a
theorem all_I (xs : List Int) : (xs.map cel).all (fun x => x.all scal) = true := all_scal (fun _ => rfl) xs
theorem all_B (xs : List Bool) : (xs.map cel).all (fun x => x.all scal) = true := all_scal (fun _ => rfl) xs
theorem all_S (xs : List ByteArray) : (xs.map cel).all (fun x => x.all scal) = true := all_scal (fun _ => rfl) xs
theorem all_U (xs : List U8) : (xs.map cel).all (fun x => x.all scal) = true := all_scal (fun _ => rfl) xs
theorem map_dropR {α β : Type} (f : α → β) (xs : List α) (n : Nat) : (xs.map f).drop n = (xs.drop n).map f := List.map_drop.symm
theorem map_takeR {α β : Type} (f : α → β) (xs : List α) (n : Nat) : (xs.map f).take n = (xs.take n).map f := List.map_take.symm
theorem getI_map {α β : Type} (f : α → β) (xs : List α) (n : Int) : getI (xs.map f) n = (getI xs n).map f := by
  unfold getI
  split
  · rw [List.getElem?_map]
  · rfl
theorem map_mapL {α β γ : Type} (x : Option α) (f : α → β) (g : β → γ) : (x.map f).map g = x.map fun a => g (f a) := by cases x <;> rfl
theorem map_ite {α β : Type} {c : Prop} [Decidable c] (x y : Option α) (f : α → β) : (if c then x else y).map f = if c then x.map f else y.map f := by split <;> rfl

/-- Which types a function takes and answers. -/
structure Sig where
  α : Type
  β : Type
  [ha : Arg α]
  [hb : Dat β]
attribute [instance] Sig.ha Sig.hb
def sigA (S : Sig) (ds : List D) : Bool := (da (α := S.α) ds).isSome
def sigR (S : Sig) (d : D) : Bool := (dec (α := S.β) d).isSome
def noSig : Sig := ⟨Unit, Bool⟩

section
variable {M : Prm} {f : FuncId} {α β : Type} [Arg α] [Dat β]
noncomputable def fnO (M : Prm) (f : FuncId) (β : Type) {α : Type} [Arg α] [Dat β] (a : α) : Option β := ((lastR M).o f (ea a)).bind dec
structure Has (M : Prm) (f : FuncId) (α β : Type) [Arg α] [Dat β] : Prop where
  a : ∀ ds, M.achk f ds = (da (α := α) ds).isSome
  r : ∀ d, M.chk f d = (dec (α := β) d).isSome
theorem fnO_run (h : Has M f α β) (a : α) : fnO M f β a = ((runO M (mkS M (lastR M)) f (ea a)).bind (outO M f)).bind dec := by
  unfold fnO
  rw [lastR_o, h.a, Arg.da_ea]
  rfl
/-- A call, seen from where it stands. -/
theorem call_o (h : Has M f α β) (ds : List D) : (lastR M).o f ds = (da (α := α) ds).bind fun a => (fnO M f β a).map enc := by
  rw [lastR_o, h.a]
  cases e : da (α := α) ds with
  | none => rfl
  | some a =>
    obtain rfl := Arg.ea_da ds a e
    rw [Option.bind_some, fnO_run h]
    simp only [Option.isSome_some, if_true]
    cases e2 : (runO M (mkS M (lastR M)) f (ea a)).bind (outO M f) with
    | none => rfl
    | some r =>
      have : M.chk f r = true := by
        obtain ⟨x, _, h2⟩ := bind_inv e2
        unfold outO at h2
        obtain ⟨_, h2⟩ := ite_inv h2
        obtain ⟨h3, h2⟩ := ite_inv h2
        cases h2
        exact h3
      rw [h.r] at this
      obtain ⟨b, hb⟩ := Option.isSome_iff_exists.1 this
      rw [Option.bind_some, hb, Option.map_some, ← Dat.enc_dec _ _ hb]
theorem call_oK {ρ : Type} (h : Has M f α β) (ds : List D) (F : D → Option ρ) : ((lastR M).o f ds).bind F = (da (α := α) ds).bind fun a => (fnO M f β a).bind fun r => F (enc r) := by
  rw [call_o h]
  cases da (α := α) ds with
  | none => rfl
  | some a =>
    simp only [Option.bind_some]
    cases fnO M f β a <;> rfl
end
end Go.Fs
namespace Go.Fs
open Cel (cel unc)
open Dat (enc dec)
open Arg (ea da)
open Go.RowKit

section
variable {ρ : Type} (A : Env) (lv : Nat → List Nat)
noncomputable def evK (c : Code) (K : Exit × St → Option ρ) (s : St) : Option ρ := (ev A lv c s).bind K
noncomputable def thenK (y : Code) (K : Exit × St → Option ρ) : Exit × St → Option ρ
  | (.normal, s) => evK A lv y K s
  | r => K r
def blkK (id : Nat) (K : Exit × St → Option ρ) (r : Exit × St) : Option ρ := K (inBlk id r.1, r.2)
noncomputable def lpK (b : Code) (K : Exit × St → Option ρ) : Exit × St → Option ρ
  | (.normal, s) => evK A lv (.loop b) K s
  | r => K r
/-- One round, from a state that is looked at as a round looks at it. -/
noncomputable def evR (b : Code) (K : Exit × St → Option ρ) (s : St) : Option ρ := evK A lv b (lpK A lv b K) s
def regK (K : Exit × St → Option ρ) (s : St) : Option ρ := K (.normal, s)
theorem thenK_eq (y : Code) (K : Exit × St → Option ρ) (r : Exit × St) : (thenR (ev A lv y) r).bind K = thenK A lv y K r := by
  obtain ⟨e, s⟩ := r
  cases e <;> rfl
theorem evK_seq (x y : Code) (K : Exit × St → Option ρ) (s : St) : evK A lv (.seq x y) K s = evK A lv x (thenK A lv y K) s := by
  unfold evK
  simp only [ev, Option.bind_assoc]
  congr 1
  funext r
  exact thenK_eq A lv y K r
theorem evK_loop (b : Code) (K : Exit × St → Option ρ) (s : St) : evK A lv (.loop b) K s = (rnd A.aa (lv (cid b)) s).bind (evR A lv b K) := by
  unfold evK
  rw [ev_loop]
  simp only [Option.bind_assoc]
  congr 1
  funext s1
  unfold evR evK
  congr 1
  funext r
  obtain ⟨e, s2⟩ := r
  cases e <;> rfl
theorem evK_block (id : Nat) (b : Code) (K : Exit × St → Option ρ) (s : St) : evK A lv (.block id b) K s = evK A lv b (blkK id K) s := by
  unfold evK
  simp only [ev, Option.bind_map]
  rfl
theorem evK_region (id : Nat) (ops : Array Oper) (dr : Bool) (K : Exit × St → Option ρ) (s : St) : evK A lv (.region id ops dr) K s = (regY A (lv (rkey id)) ops dr s).bind (regK K) := by
  unfold evK
  simp only [ev, Option.bind_map]
  rfl
theorem regK_eq (K : Exit × St → Option ρ) (s : St) : regK K s = K (.normal, s) := rfl
theorem evK_cond (t : Nat) (x y : Code) (K : Exit × St → Option ρ) (s : St) : evK A lv (.cond (.tmp t) x y) K s = match s.env t with
    | .d (.b v) => if v = true then evK A lv x K (litS s (.tmp t) true) else evK A lv y K (litS s (.tmp t) false)
    | _ => none := by
  unfold evK
  simp only [ev]
  show Option.bind (match s.env t with
    | .d (.b v) => if v = true then ev A lv x (litS s (.tmp t) true) else ev A lv y (litS s (.tmp t) false)
    | _ => none) K = _
  split
  · split <;> rfl
  · rfl
theorem evK_skip (K : Exit × St → Option ρ) (s : St) : evK A lv .skip K s = K (.normal, s) := by unfold evK; simp only [ev, Option.bind_some]
theorem evK_exit (id : Nat) (K : Exit × St → Option ρ) (s : St) : evK A lv (.exit id) K s = K (.exit id, s) := by unfold evK; simp only [ev, Option.bind_some]
theorem evK_ret (K : Exit × St → Option ρ) (s : St) : evK A lv .ret K s = K (.ret, s) := by unfold evK; simp only [ev, Option.bind_some]
theorem thenK_normal (y : Code) (K : Exit × St → Option ρ) (s : St) : thenK A lv y K (.normal, s) = evK A lv y K s := rfl
theorem thenK_exit (y : Code) (K : Exit × St → Option ρ) (i : Nat) (s : St) : thenK A lv y K (.exit i, s) = K (.exit i, s) := rfl
theorem thenK_ret (y : Code) (K : Exit × St → Option ρ) (s : St) : thenK A lv y K (.ret, s) = K (.ret, s) := rfl
theorem lpK_normal (b : Code) (K : Exit × St → Option ρ) (s : St) : lpK A lv b K (.normal, s) = evK A lv (.loop b) K s := rfl
theorem lpK_exit (b : Code) (K : Exit × St → Option ρ) (i : Nat) (s : St) : lpK A lv b K (.exit i, s) = K (.exit i, s) := rfl
theorem lpK_ret (b : Code) (K : Exit × St → Option ρ) (s : St) : lpK A lv b K (.ret, s) = K (.ret, s) := rfl
theorem blkK_normal (id : Nat) (K : Exit × St → Option ρ) (s : St) : blkK id K (.normal, s) = K (.normal, s) := rfl
theorem blkK_exit (id : Nat) (K : Exit × St → Option ρ) (i : Nat) (s : St) : blkK id K (.exit i, s) = if i = id then K (.normal, s) else K (.exit i, s) := by
  unfold blkK inBlk
  simp only
  split <;> rfl
theorem blkK_ret (id : Nat) (K : Exit × St → Option ρ) (s : St) : blkK id K (.ret, s) = K (.ret, s) := rfl

/-- A place within code: what stands there, and what comes behind it. -/
noncomputable def loc : Code → List Bool → (Exit × St → Option ρ) → Code × (Exit × St → Option ρ)
  | .seq x y, false :: p, K => loc x p (thenK A lv y K)
  | .seq _ y, true :: p, K => loc y p K
  | .cond _ x _, false :: p, K => loc x p K
  | .cond _ _ y, true :: p, K => loc y p K
  | .block id b, _ :: p, K => loc b p (blkK id K)
  | .loop b, _ :: p, K => loc b p (lpK A lv b K)
  | c, _, K => (c, K)
noncomputable def evAt (c : Code) (p : List Bool) (K : Exit × St → Option ρ) (s : St) : Option ρ := evK A lv (loc A lv c p K).1 (loc A lv c p K).2 s
theorem loc_nil (c : Code) (K : Exit × St → Option ρ) : loc A lv c [] K = (c, K) := by cases c <;> rfl
theorem loc_seq0 (x y : Code) (p : List Bool) (K : Exit × St → Option ρ) : loc A lv (.seq x y) (false :: p) K = loc A lv x p (thenK A lv y K) := rfl
theorem loc_seq1 (x y : Code) (p : List Bool) (K : Exit × St → Option ρ) : loc A lv (.seq x y) (true :: p) K = loc A lv y p K := rfl
theorem loc_cond0 (t : Operand) (x y : Code) (p : List Bool) (K : Exit × St → Option ρ) : loc A lv (.cond t x y) (false :: p) K = loc A lv x p K := rfl
theorem loc_cond1 (t : Operand) (x y : Code) (p : List Bool) (K : Exit × St → Option ρ) : loc A lv (.cond t x y) (true :: p) K = loc A lv y p K := rfl
theorem loc_block (id : Nat) (b : Code) (q : Bool) (p : List Bool) (K : Exit × St → Option ρ) : loc A lv (.block id b) (q :: p) K = loc A lv b p (blkK id K) := rfl
theorem loc_loop (b : Code) (q : Bool) (p : List Bool) (K : Exit × St → Option ρ) : loc A lv (.loop b) (q :: p) K = loc A lv b p (lpK A lv b K) := rfl

/-- A loop at a place, from within. -/
noncomputable def evW (x : Code × (Exit × St → Option ρ)) (s : St) : Option ρ := match x.1 with
  | .loop b => evR A lv b x.2 s
  | _ => none
noncomputable def evRAt (c : Code) (p : List Bool) (K : Exit × St → Option ρ) (s : St) : Option ρ := evW A lv (loc A lv c p K) s
theorem evW_loop (b : Code) (K : Exit × St → Option ρ) (s : St) : evW A lv (.loop b, K) s = evR A lv b K s := rfl
theorem evR_eq (b : Code) (K : Exit × St → Option ρ) (s : St) : evR A lv b K s = evK A lv b (lpK A lv b K) s := rfl

def opsK (ops os : List Oper) (K : St → Option ρ) (s : St) : Option ρ := (opsE A ops os s).bind K
theorem opsK_nil (ops : List Oper) (K : St → Option ρ) (s : St) : opsK A ops [] K s = K s := rfl
theorem opsK_cons (ops : List Oper) (o : Oper) (os : List Oper) (K : St → Option ρ) (s : St) : opsK A ops (o :: os) K s = (opG A ops o s).bind (opsK A ops os K) := by
  unfold opsK
  simp only [opsE, Option.bind_assoc]
def qsK (ops os : List Oper) (K : St → Option ρ) (s : St) : Option ρ := (qsE A ops os s).bind K
theorem qsK_nil (ops : List Oper) (K : St → Option ρ) (s : St) : qsK A ops [] K s = K s := rfl
def putQ (s : St) (d : Nat) (av : AV) : St := { n := s.n, env := upd s.env d av, heap := s.heap }
def qsC (ops os : List Oper) (K : St → Option ρ) (s : St) (d : Nat) (av : AV) : Option ρ := qsK A ops os K (putQ s d av)
theorem qsK_cons (ops : List Oper) (o : Oper) (os : List Oper) (K : St → Option ρ) (s : St) : qsK A ops (o :: os) K s = match o.dst with
    | some d => if d < s.n then (match o.guard with
      | none => (qE A o s).bind (qsC A ops os K s d)
      | some (j, want) => match dstAt ops j with
        | none => qsK A ops os K (putQ s d (.t []))
        | some t => match s.env t with
          | .d (.b v) => if v = true then (match want with
              | true => (qE A o (litS s (.tmp t) true)).bind (qsC A ops os K (litS s (.tmp t) true) d)
              | false => qsK A ops os K (putQ (litS s (.tmp t) true) d (.t [])))
            else (match want with
              | true => qsK A ops os K (putQ (litS s (.tmp t) false) d (.t []))
              | false => (qE A o (litS s (.tmp t) false)).bind (qsC A ops os K (litS s (.tmp t) false) d))
          | .t [] => qsK A ops os K (putQ s d (.t []))
          | _ => none) else none
    | none => none := by
  unfold qsK
  simp only [qsE]
  cases o.dst with
  | none => rfl
  | some d =>
    simp only
    by_cases hd : d < s.n
    · rw [if_pos hd, if_pos hd, Option.bind_assoc]
      unfold qGE
      cases hg : o.guard with
      | none => rfl
      | some jw =>
        obtain ⟨j, want⟩ := jw
        simp only
        cases ht : dstAt ops j with
        | none => rfl
        | some t =>
          simp only
          cases he : s.env t with
          | d x =>
            cases x with
            | b v =>
              have hl := litS_ok (s := s) (x := .tmp t) he
              simp only
              cases v with
              | true => simp only [if_true]; rw [hl]; cases want <;> rfl
              | false => simp only [Bool.false_eq_true, if_false]; rw [hl]; cases want <;> rfl
            | _ => rfl
          | t xs => cases xs <;> rfl
          | _ => rfl
    · rw [if_neg hd, if_neg hd]; rfl
def xsK (ops : Array Oper) (is : List Nat) (K : St → Option ρ) (s : St) : Option ρ := (xsE A ops is s).bind K
theorem xsK_nil (ops : Array Oper) (K : St → Option ρ) (s : St) : xsK A ops [] K s = K s := rfl
theorem xsK_cons (ops : Array Oper) (i : Nat) (is : List Nat) (K : St → Option ρ) (s : St) : xsK A ops (i :: is) K s = match ops.toList[i]? with
    | some o => (xE A ops i o s).bind (xsK A ops is K)
    | none => none := by
  unfold xsK
  simp only [xsE]
  cases ops.toList[i]? with
  | none => rfl
  | some o => simp only [Option.bind_assoc] <;> rfl
def bindN {α : Type} (x : Option α) (f : α → Option ρ) : Option ρ := x.bind f
theorem bindN_eq {α : Type} (x : Option α) (f : α → Option ρ) : bindN x f = x.bind f := rfl
theorem bindN_some {α : Type} (a : α) (f : α → Option ρ) : bindN (some a) f = f a := rfl
theorem bindN_none {α : Type} (f : α → Option ρ) : bindN none f = none := rfl
theorem bindN_bind {α β : Type} (x : Option α) (f : α → Option β) (g : β → Option ρ) : (bindN x f).bind g = bindN x fun y => (f y).bind g := by cases x <;> rfl
theorem bindN_map {α β : Type} (x : Option α) (f : α → Option β) (g : β → ρ) : (bindN x f).map g = bindN x fun y => (f y).map g := by cases x <;> rfl
theorem bindN_omap {α β : Type} (x : Option α) (g : α → β) (f : β → Option ρ) : bindN (x.map g) f = bindN x fun y => f (g y) := by cases x <;> rfl
def compO {α β : Type} (f : α → Option β) (g : β → Option ρ) (a : α) : Option ρ := (f a).bind g
theorem compO_eq {α β : Type} (f : α → Option β) (g : β → Option ρ) (a : α) : compO f g a = (f a).bind g := rfl
theorem bindA {α β : Type} (x : Option α) (f : α → Option β) (g : β → Option ρ) : (x.bind f).bind g = x.bind (compO f g) := by cases x <;> rfl
def compM {α β : Type} (f : α → β) (g : β → Option ρ) (a : α) : Option ρ := g (f a)
theorem compM_eq {α β : Type} (f : α → β) (g : β → Option ρ) (a : α) : compM f g a = g (f a) := rfl
theorem mapA_bind {α β : Type} (x : Option α) (f : α → β) (g : β → Option ρ) : (x.map f).bind g = x.bind (compM f g) := by cases x <;> rfl
def compB {α β : Type} (f : α → Option β) (g : β → ρ) (a : α) : Option ρ := (f a).map g
theorem compB_eq {α β : Type} (f : α → Option β) (g : β → ρ) (a : α) : compB f g a = (f a).map g := rfl
theorem bind_mapA {α β : Type} (x : Option α) (f : α → Option β) (g : β → ρ) : (x.bind f).map g = x.bind (compB f g) := by cases x <;> rfl
theorem getI_bind {α : Type} (xs : List α) (n : Int) (F : α → Option ρ) : (getI xs n).bind F = bindN (getI xs n) fun y => F y := rfl
theorem cat_bind (a b : ByteArray) (F : ByteArray → Option ρ) : (cat a b).bind F = bindN (cat a b) fun y => F y := rfl
theorem get_bind {α : Type} (xs : List α) (n : Nat) (F : α → Option ρ) : (xs[n]?).bind F = bindN (xs[n]?) fun y => F y := rfl
def callN {α β : Type} [Dat β] (g : α → Option β) (F : D → Option ρ) (a : α) : Option ρ := bindN (g a) fun r => F (enc r)
theorem callN_eq {α β : Type} [Dat β] (g : α → Option β) (F : D → Option ρ) (a : α) : callN g F a = bindN (g a) fun r => F (enc r) := rfl
/-- One truth that is asked in parts. -/
def bindB (x : Option Bool) (K : Bool → Option ρ) : Option ρ := x.bind K
theorem bindB_some (b : Bool) (K : Bool → Option ρ) : bindB (some b) K = K b := rfl
theorem bindB_bind {α : Type} (x : Option α) (g : α → Bool) (K : Bool → Option ρ) : bindB (bindN x fun y => some (g y)) K = bindN x fun y => K (g y) := by cases x <;> rfl
theorem bindB_id (x : Option Bool) : bindB x (fun v => some v) = x := by cases x <;> rfl
theorem bind_id (x : Option ρ) : (bindN x fun y => some y) = x := by cases x <;> rfl
theorem bindB_none (K : Bool → Option ρ) : bindB none K = none := rfl
def gsK (ops : List Oper) (L : List (List Oper)) (K : St → Option ρ) (s : St) : Option ρ := (gsE A ops L s).bind K
theorem gsK_nil (ops : List Oper) (K : St → Option ρ) (s : St) : gsK A ops [] K s = K s := rfl
def gd1 (ops os : List Oper) (rest : List (List Oper)) (t : Option Nat) (K : St → Option ρ) (s : St) : Option ρ := match t with
  | some t => bindB (gdE A ops os t s) fun v => gsK A ops rest K (gdS os t s v)
  | none => opsK A ops os (gsK A ops rest K) s
theorem gsK_1 {os : List Oper} (h : gdB os = true) (ops : List Oper) (rest : List (List Oper)) (K : St → Option ρ) (s : St) : gsK A ops (os :: rest) K s = gd1 A ops os rest (lastD A.T os) K s := by
  unfold gsK gd1 gsE
  simp only [h, if_true]
  cases lastD A.T os with
  | none => simp only [Option.bind_assoc] <;> rfl
  | some t => simp only [Option.bind_assoc]; rfl
theorem gsK_0 {os : List Oper} (h : gdB os = false) (ops : List Oper) (rest : List (List Oper)) (K : St → Option ρ) (s : St) : gsK A ops (os :: rest) K s = opsK A ops os (gsK A ops rest K) s := by
  have e : gsE A ops (os :: rest) s = (opsE A ops os s).bind (gsE A ops rest) := by simp only [gsE, h, Bool.false_eq_true, if_false]
  unfold gsK opsK
  rw [e, Option.bind_assoc]
theorem regE_0 {ops : Array Oper} (h : gdB ops.toList = false) (K : Exit × St → Option ρ) (s : St) : (regE A ops false s).bind (regK K) = opsK A ops.toList ops.toList (regK K) s := by
  unfold regE
  simp only [h, Bool.false_eq_true, if_false]
  rfl
theorem regE_g {ops : Array Oper} (h : gdB ops.toList = true) (K : Exit × St → Option ρ) (s : St) : (regE A ops false s).bind (regK K) = gsK A ops.toList (segs A.T [] ops.toList) (regK K) s := by
  unfold regE
  simp only [h, if_true, Bool.false_eq_true, if_false]
  rfl
theorem regE_q {ops : Array Oper} (h : gdB ops.toList = false) (hq : quietB ops = true) (K : Exit × St → Option ρ) (s : St) : (regE A ops true s).bind (regK K) = qsK A ops.toList ops.toList (regK K) s := by
  unfold regE
  simp only [h, hq, Bool.false_eq_true, if_false, if_true]
  rfl
theorem regE_gq {ops : Array Oper} (h : gdB ops.toList = true) (hq : quietB ops = true) (K : Exit × St → Option ρ) (s : St) : (regE A ops true s).bind (regK K) = match lastD A.T ops.toList with
    | some t => bindB (gdE A ops.toList ops.toList t s) fun v => K (.normal, gdS ops.toList t s v)
    | none => qsK A ops.toList ops.toList (regK K) s := by
  unfold regE
  simp only [h, hq, if_true]
  cases lastD A.T ops.toList with
  | none => rfl
  | some t =>
    simp only [Option.bind_map]
    rfl
theorem regE_x {ops : Array Oper} (h : gdB ops.toList = false) (hq : quietB ops = false) (ho : ordB ops (flB ops) (List.range ops.size) = true) (K : Exit × St → Option ρ) (s : St) : (regE A ops true s).bind (regK K) = xsK A ops (List.range ops.size) (regK K) s := by
  unfold regE
  simp only [h, hq, ho, Bool.false_eq_true, if_false, if_true]
  rfl
theorem regY_0 (ops : Array Oper) (dr : Bool) (s : St) : regY A [] ops dr s = regE A ops dr s := rfl
/-- A plan, walked: the text's order, then the checks. -/
def yK (ops : Array Oper) (os : List Oper) (acc : List St) (G : List St → Option ρ) (s : St) : Option ρ := (trY A ops os s).bind fun L => G (acc ++ L)
theorem yK_nil (ops : Array Oper) (acc : List St) (G : List St → Option ρ) (s : St) : yK A ops [] acc G s = G (acc ++ [s]) := rfl
theorem yK_cons (ops : Array Oper) (o : Oper) (os : List Oper) (acc : List St) (G : List St → Option ρ) (s : St) : yK A ops (o :: os) acc G s = (stepY A ops o s).bind (yK A ops os (acc ++ [s]) G) := by
  unfold yK
  simp only [trY, Option.bind_assoc, Option.bind_map]
  congr 1
  funext s1
  congr 1
  funext L
  simp
def allP (P : Nat × Nat → Prop) : List (Nat × Nat) → Prop
  | [] => True
  | x :: xs => P x ∧ allP P xs
theorem allP_iff (P : Nat × Nat → Prop) : ∀ l, (∀ x ∈ l, P x) ↔ allP P l
  | [] => by simp [allP]
  | x :: xs => by simp [allP, ← allP_iff P xs]
open Classical in
noncomputable def endY (ops : Array Oper) (prs : List (Nat × Nat)) (K : St → Option ρ) (L : List St) : Option ρ := if allP (chkY A ops L) prs then (L[ops.size]?).bind K else none
theorem regY_p {ops : Array Oper} {h1 : Nat} {hs : List Nat} (h : planB ops (prsOf (0 :: h1 :: hs)) = true) (K : Exit × St → Option ρ) (s : St) : (regY A (0 :: h1 :: hs) ops true s).bind (regK K) = yK A ops ops.toList [] (endY A ops (prsOf (0 :: h1 :: hs)) (regK K)) s := by
  unfold regY planE yK endY
  simp only [if_true, h, Option.bind_assoc, List.nil_append]
  congr 1
  funext L
  by_cases hp : ∀ x ∈ prsOf (0 :: h1 :: hs), chkY A ops L x
  · rw [if_pos hp, if_pos ((allP_iff _ _).1 hp)]
  · rw [if_neg hp, if_neg (fun h => hp ((allP_iff _ _).2 h))]; rfl
/-- A plan without checks. -/
def runY (ops : Array Oper) : List Oper → St → Option St
  | [], s => some s
  | o :: os, s => (stepY A ops o s).bind (runY ops os)
theorem trY_run (ops : Array Oper) : ∀ (os : List Oper) (s : St), ((trY A ops os s).bind fun L => L[os.length]?) = runY A ops os s
  | [], s => rfl
  | o :: os, s => by
    simp only [trY, runY, Option.bind_assoc, Option.bind_map]
    congr 1
    funext s1
    rw [← trY_run ops os s1]
    rfl
def y0K (ops : Array Oper) (os : List Oper) (K : St → Option ρ) (s : St) : Option ρ := (runY A ops os s).bind K
theorem y0K_nil (ops : Array Oper) (K : St → Option ρ) (s : St) : y0K A ops [] K s = K s := rfl
theorem y0K_cons (ops : Array Oper) (o : Oper) (os : List Oper) (K : St → Option ρ) (s : St) : y0K A ops (o :: os) K s = (stepY A ops o s).bind (y0K A ops os K) := by
  unfold y0K
  simp only [runY, Option.bind_assoc] <;> rfl
theorem regY_p0 {ops : Array Oper} (h : planB ops [] = true) (K : Exit × St → Option ρ) (s : St) : (regY A [0] ops true s).bind (regK K) = y0K A ops ops.toList (regK K) s := by
  have e : regY A [0] ops true s = planE A ops [] s := rfl
  rw [e]
  unfold planE y0K
  rw [if_pos h, ← trY_run]
  simp only [Option.bind_assoc]
  congr 1
/-- A region that is not looked into: nothing is known of what comes behind it. -/
theorem regY_x {ops : Array Oper} (h : ops.size ≤ 999) (K : Exit × St → Option ρ) (s : St) : (regY A [7, 999999] ops true s).bind (regK K) = none := by
  have e : ops[999]? = none := Array.getElem?_eq_none (by omega)
  unfold regY planE
  simp only [if_true]
  split
  · cases trY A ops ops.toList s with
    | none => rfl
    | some L =>
      simp only [Option.bind_some]
      split
      · rename_i hc
        have := hc (999, 999) (by simp [prsOf])
        unfold chkY at this
        simp only [Array.getElem?_toList, e] at this
      · rfl
  · rfl
theorem regY_f (h0 : Nat) (hs : List Nat) (ops : Array Oper) (s : St) : regY A (h0 :: hs) ops false s = regE A ops false s := rfl
theorem eq_AV (a : AV) : (a = a) = True := eq_self a
theorem eq_nat (a : Nat) : (a = a) = True := eq_self a
theorem eq_oOb (a : Option Ob) : (a = a) = True := eq_self a
theorem eq_oAV (a : Option AV) : (a = a) = True := eq_self a
theorem gdE_eq (ops os : List Oper) (t : Nat) (s : St) : gdE A ops os t s = qsK A ops os (fun s' => asB (s'.env t)) s := rfl
theorem asB_b (v : Bool) : asB (.d (.b v)) = some v := rfl
theorem and_some (p : Prop) [Decidable p] (b : Bool) : (if p then some b else some false) = some (decide p && b) := by by_cases h : p <;> simp [h]
theorem or_some (p : Prop) [Decidable p] (b : Bool) : (if p then some true else some b) = some (decide p || b) := by by_cases h : p <;> simp [h]
theorem ite_bind {c : Prop} [Decidable c] {α : Type} (x y : Option α) (K : α → Option ρ) : (if c then x else y).bind K = if c then x.bind K else y.bind K := by split <;> rfl
theorem forget_at (ts : List Nat) (f : Nat → AV) (t : Nat) : forget ts f t = if ts.contains t then .x else f t := by
  induction ts with
  | nil => rfl
  | cons x xs ih =>
    simp only [forget, List.foldr_cons, upd, List.contains_cons] at ih ⊢
    by_cases e : t = x
    · subst e; simp
    · simp [e]; simpa using ih
end
theorem rng_0 : List.range 0 = [] := rfl
theorem rng_1 : List.range 1 = [0] := rfl
theorem rng_2 : List.range 2 = [0, 1] := rfl
theorem rng_3 : List.range 3 = [0, 1, 2] := rfl
theorem rng_4 : List.range 4 = [0, 1, 2, 3] := rfl
theorem rng_5 : List.range 5 = [0, 1, 2, 3, 4] := rfl
theorem rng_6 : List.range 6 = [0, 1, 2, 3, 4, 5] := rfl
theorem rng_7 : List.range 7 = [0, 1, 2, 3, 4, 5, 6] := rfl
theorem rng_8 : List.range 8 = [0, 1, 2, 3, 4, 5, 6, 7] := rfl
theorem rng_9 : List.range 9 = [0, 1, 2, 3, 4, 5, 6, 7, 8] := rfl
theorem rng_10 : List.range 10 = [0, 1, 2, 3, 4, 5, 6, 7, 8, 9] := rfl
theorem rng_11 : List.range 11 = [0, 1, 2, 3, 4, 5, 6, 7, 8, 9, 10] := rfl
theorem rng_12 : List.range 12 = [0, 1, 2, 3, 4, 5, 6, 7, 8, 9, 10, 11] := rfl
theorem rng_13 : List.range 13 = [0, 1, 2, 3, 4, 5, 6, 7, 8, 9, 10, 11, 12] := rfl
theorem rng_14 : List.range 14 = [0, 1, 2, 3, 4, 5, 6, 7, 8, 9, 10, 11, 12, 13] := rfl
theorem rng_15 : List.range 15 = [0, 1, 2, 3, 4, 5, 6, 7, 8, 9, 10, 11, 12, 13, 14] := rfl
theorem rng_16 : List.range 16 = [0, 1, 2, 3, 4, 5, 6, 7, 8, 9, 10, 11, 12, 13, 14, 15] := rfl
theorem rng_17 : List.range 17 = [0, 1, 2, 3, 4, 5, 6, 7, 8, 9, 10, 11, 12, 13, 14, 15, 16] := rfl
theorem rng_18 : List.range 18 = [0, 1, 2, 3, 4, 5, 6, 7, 8, 9, 10, 11, 12, 13, 14, 15, 16, 17] := rfl
theorem rng_19 : List.range 19 = [0, 1, 2, 3, 4, 5, 6, 7, 8, 9, 10, 11, 12, 13, 14, 15, 16, 17, 18] := rfl
theorem rng_20 : List.range 20 = [0, 1, 2, 3, 4, 5, 6, 7, 8, 9, 10, 11, 12, 13, 14, 15, 16, 17, 18, 19] := rfl
theorem rng_21 : List.range 21 = [0, 1, 2, 3, 4, 5, 6, 7, 8, 9, 10, 11, 12, 13, 14, 15, 16, 17, 18, 19, 20] := rfl
theorem rng_22 : List.range 22 = [0, 1, 2, 3, 4, 5, 6, 7, 8, 9, 10, 11, 12, 13, 14, 15, 16, 17, 18, 19, 20, 21] := rfl
theorem rng_23 : List.range 23 = [0, 1, 2, 3, 4, 5, 6, 7, 8, 9, 10, 11, 12, 13, 14, 15, 16, 17, 18, 19, 20, 21, 22] := rfl
theorem chunk_z (sz : Nat) (ds : List D) : chunk sz 0 ds = [] := rfl
theorem chunk_s (sz n : Nat) (ds : List D) : chunk sz (n + 1) ds = ds.take sz :: chunk sz n (ds.drop sz) := rfl
theorem eq_i64 : (IntKind.i64 = IntKind.i64) = True := eq_self _
theorem eq_u8 : (IntKind.u8 = IntKind.u8) = True := eq_self _
def ve0o : Option Ob → Option Ob
  | some (.row sz xs dp fz _) => some (.row sz xs dp fz 0)
  | o => o
theorem ve0S_stL (n : Nat) (L : List (Nat × AV)) (H : List (Nat × Option Ob)) : ve0S (stL n L H) = stL n L (H.map fun x => (x.1, ve0o x.2)) := by
  unfold ve0S stL
  congr 1
  funext k
  induction H with
  | nil => rfl
  | cons x xs ih =>
    simp only [obL, List.map_cons, List.foldr_cons, ve0, upd] at ih ⊢
    by_cases e : k = x.1
    · subst e
      simp only [if_true]
      cases x.2 with
      | none => rfl
      | some o => cases o <;> rfl
    · simp only [e, if_false]
      exact ih
def evP (s : St) (p : Nat × Operand) : AV := s.ev p.2
def pairH (H : Nat → Option Ob) (av : AV) : AV × (Nat → Option Ob) := (av, H)
def ixC (T : Tab) (t : TypeId) (i : AV) (y : AV × (Nat → Option Ob)) : Option (AV × (Nat → Option Ob)) := (opIndex T y.2 t y.1 i).map (pairH y.2)
def boxC (d : Nat) (y : AV × (Nat → Option Ob)) : Option (AV × (Nat → Option Ob)) := opBox y.2 d y.1
def bldC (T : Tab) (t : TypeId) (ns : List Nat) (y : List AV × (Nat → Option Ob)) : Option (AV × (Nat → Option Ob)) := (opBuild T y.2 t (ns.zip y.1)).map (pairH y.2)
def bslC (T : Tab) (d : Nat) (t : TypeId) (n : Nat) (ns : List Nat) (y : List AV × (Nat → Option Ob)) : Option (AV × (Nat → Option Ob)) := opBuildSlice T y.2 d t n (ns.zip y.1)
section
variable (T : Tab) (s : St) (dst : Option Nat) (ty0 : TypeId) (pos : String) (after : Array Edge) (guard : Option (Nat × Bool))
theorem vo_move (x : Operand) : valOp T s ⟨dst, .move x, ty0, pos, after, guard⟩ = some (fixZ T ty0 (s.ev x), s.heap) := rfl
theorem vo_assign (x : Operand) : valOp T s ⟨dst, .assign x, ty0, pos, after, guard⟩ = some (fixZ T ty0 (s.ev x), s.heap) := rfl
theorem vo_fieldAddr (t : TypeId) (x : Operand) (f : Nat) : valOp T s ⟨dst, .fieldAddr t x f, ty0, pos, after, guard⟩ = (opField T s.heap t (s.ev x) f).map (pairH s.heap) := rfl
theorem vo_indexAddr (t : TypeId) (x i : Operand) : valOp T s ⟨dst, .indexAddr t x i, ty0, pos, after, guard⟩ = (demote s.heap (s.ev x)).bind (ixC T t (s.ev i)) := rfl
theorem vo_index (t : TypeId) (x i : Operand) : valOp T s ⟨dst, .index t x i, ty0, pos, after, guard⟩ = (opByte T t (s.ev x) (s.ev i)).map (pairH s.heap) := rfl
theorem vo_binOp (op : BinOp) (t : TypeId) (x y : Operand) (t2 : TypeId) : valOp T s ⟨dst, .binOp op t x y t2, ty0, pos, after, guard⟩ = (opBin T op t (s.ev x) (s.ev2 y)).map (pairH s.heap) := rfl
theorem vo_nilCheck (x : Operand) : valOp T s ⟨dst, .nilCheck x, ty0, pos, after, guard⟩ = (opNilC s.heap (s.ev x)).map (pairH s.heap) := rfl
theorem vo_unOp (op : UnOp) (t : TypeId) (x : Operand) : valOp T s ⟨dst, .unOp op t x, ty0, pos, after, guard⟩ = (opUn op (s.ev x)).map (pairH s.heap) := rfl
theorem vo_convert (a b : TypeId) (x : Operand) : valOp T s ⟨dst, .convert a b x, ty0, pos, after, guard⟩ = (opConv T a b (s.ev x)).map (pairH s.heap) := rfl
theorem vo_alloc (t : TypeId) : valOp T s ⟨dst, .alloc t, ty0, pos, after, guard⟩ = opAlloc T s.heap (dst.getD 0) t := rfl
theorem vo_box (t : TypeId) (x : Operand) : valOp T s ⟨dst, .box t x, ty0, pos, after, guard⟩ = (demote s.heap (s.ev x)).bind (boxC (dst.getD 0)) := rfl
theorem vo_build (t : TypeId) (ps : Array (Nat × Operand)) : valOp T s ⟨dst, .build t ps, ty0, pos, after, guard⟩ = (demAll s.heap (ps.toList.map (evP s))).bind (bldC T t (ps.toList.map (·.1))) := rfl
theorem vo_buildSlice (t : TypeId) (n : Nat) (ps : Array (Nat × Operand)) : valOp T s ⟨dst, .buildSlice t n ps, ty0, pos, after, guard⟩ = (demAll s.heap (ps.toList.map (evP s))).bind (bslC T (dst.getD 0) t n (ps.toList.map (·.1))) := rfl
theorem vo_makeSlice (t : TypeId) (l c : Operand) : valOp T s ⟨dst, .makeSlice t l c, ty0, pos, after, guard⟩ = opMake T s.heap (dst.getD 0) t (s.ev l) (s.ev c) := rfl
theorem vo_call (c : Call) : valOp T s ⟨dst, .call c, ty0, pos, after, guard⟩ = callB T s (dst.getD 0) c := rfl
theorem vo_load (t : TypeId) (x : Operand) : valOp T s ⟨dst, .load t x, ty0, pos, after, guard⟩ = (opLoad T s.heap t (s.ev x)).map (pairH s.heap) := rfl
theorem vo_extract (x : Operand) (i : Nat) : valOp T s ⟨dst, .extract x i, ty0, pos, after, guard⟩ = (opExtract (s.ev x) i).map (pairH s.heap) := rfl
theorem vo_slice (t : TypeId) (x : Operand) (lo hi : Option Operand) : valOp T s ⟨dst, .slice t x lo hi none, ty0, pos, after, guard⟩ = (demote s.heap (s.ev x)).bind fun y => opSlice T y.2 (dst.getD 0) t y.1 (lo.map s.ev) (hi.map s.ev) := rfl
theorem vo_makeFunc (f : FuncId) (first captured : Array Operand) : valOp T s ⟨dst, .makeFunc (.func f) first captured, ty0, pos, after, guard⟩ = if first.size = 0 then (demAll s.heap (captured.toList.map s.ev)).map fun y => (.f f y.1, y.2) else none := rfl
end
def keysE (s : St) (t : Nat) : List Nat := keysA (s.env t)
def keysH (H : Nat → Option Ob) (k : Nat) : List Nat := keysO (H k)
theorem canon_e (aa : AV) (live : List Nat) (s : St) : canon aa live s = canon2 s.heap (keysA aa ++ live.flatMap (keysE s)) := rfl
theorem canon2_e (H : Nat → Option Ob) (ks : List Nat) : canon2 H ks = canonGo (ks ++ ks.flatMap (keysH H)) 0 [] := rfl
def noME (ren : List (Nat × Nat)) (s : St) (t : Nat) : Bool := noM (mapA ren (s.env t))
def noMH (ren : List (Nat × Nat)) (s : St) (x : Nat × Nat) : Bool := noMo (obM ren (s.heap x.1))
def wkE (ren : List (Nat × Nat)) (s : St) (t : Nat) : Nat × AV := (t, mapA ren (s.env t))
def wkO (ren : List (Nat × Nat)) (s : St) (x : Nat × Nat) : Nat × Option Ob := (x.2, obM ren (s.heap x.1))
def wkC (live : List Nat) (ren : List (Nat × Nat)) (s : St) : St := stL s.n (live.map (wkE ren s)) (ren.map (wkO ren s))
theorem wkC_eq (live : List Nat) (ren : List (Nat × Nat)) (s : St) : wkC live ren s = stL s.n (live.map (wkE ren s)) (ren.map (wkO ren s)) := rfl
def rnd3 (aa : AV) (live : List Nat) (s : St) (ren : List (Nat × Nat)) : Option St :=
  if renOK ren = true ∧ fixAA ren aa = true then
    if noM aa = true ∧ live.all (noME ren s) = true ∧ ren.all (noMH ren s) = true then some (ve0S (wkC live ren s)) else some (wkC live ren s) else none
theorem rnd2_e (aa : AV) (live : List Nat) (s : St) : rnd2 aa live s = rnd3 aa live s (canon aa live s) := rfl
/-- How a function begins and ends. -/
noncomputable def endK {β : Type} [Dat β] (M : Prm) (f : FuncId) (aa : AV) (rs : List ResultVar) (r : Exit × St) : Option β := ((endE M.T aa rs r).bind (outO M f)).bind dec
noncomputable def envOf (M : Prm) (aa : AV) : Env := ⟨M.T, mkS M (lastR M), aa⟩
def modeB (m : Nat) : Bool := m == 3 || m == 4
theorem modeB_no {m : Nat} (h : modeB m = false) : ¬ (m = 3 ∨ m = 4) := by
  rintro (rfl | rfl) <;> cases h
theorem fnO_code {M : Prm} {f : FuncId} {α β : Type} [Arg α] [Dat β] (h : Has M f α β) (hm : modeB (M.mode f) = false) {fn : Func} {c : Code} (hf : M.P.funcs[f]? = some fn) (hb : fn.body = some c) (a : α) (hn : fnB fn ((ea a).map .d) = true) :
    fnO M f β a = evAt (envOf M .x) (M.lv f) c [] (endK M f .x fn.results.toList) (inSt fn.ntmps ((ea a).map .d)) := by
  rw [fnO_run h]
  unfold runO
  rw [if_neg (modeB_no hm)]
  unfold runF
  rw [hf]
  simp only [hb]
  rw [if_pos hn]
  unfold runB evAt
  rw [loc_nil]
  have : ancA ((ea a).map .d) = .x := by cases ea a <;> rfl
  rw [this]
  unfold evK endK envOf
  simp only [Option.bind_assoc]
/-- One whose own may be taken apart at the end. -/
noncomputable def endKM {β : Type} [Dat β] (M : Prm) (f : FuncId) (rs : List ResultVar) (r : Exit × St) : Option β := ((endEM M.T rs r).bind (outO M f)).bind dec
end Go.Fs
namespace Go.Fs
open Cel (cel unc)
open Dat (enc dec)
open Arg (ea da)
open Go.RowKit
section
variable {M : Prm} {f : FuncId} {α γ β : Type} [Dat α] [Arg γ] [Dat β]
def decI2 (r : D × D) : Option (β × α) := (dec r.1).bind fun b => (dec r.2).map fun y => (b, y)
/-- What such a function answers, and what it left. -/
noncomputable def fnI (M : Prm) (f : FuncId) (β : Type) {α γ : Type} [Dat α] [Arg γ] [Dat β] (a : α × γ) : Option (β × α) := ((lastR M).i f (enc a.1) (ea a.2)).bind decI2
theorem fnI_run (h : Has M f (α × γ) (β × α)) (a : α × γ) : fnI M f β a = ((runF M (mkS M (lastR M)) f (.io (enc a.1) :: (ea a.2).map .d)).bind (outI M f)).bind decI2 := by
  unfold fnI
  rw [lastR_i, h.a]
  have : da (α := α × γ) (enc a.1 :: ea a.2) = some a := Arg.da_ea a
  rw [this]
  rfl
theorem call_i (h : Has M f (α × γ) (β × α)) (x : D) (ds : List D) : (lastR M).i f x ds = (da (α := α × γ) (x :: ds)).bind fun a => (fnI M f β a).map fun r => (enc r.1, enc r.2) := by
  rw [lastR_i, h.a]
  cases e : da (α := α × γ) (x :: ds) with
  | none => rfl
  | some a =>
    have e1 := Arg.ea_da _ a e
    have e2 : x = enc a.1 ∧ ds = ea a.2 := by
      have : x :: ds = enc a.1 :: ea a.2 := e1
      simpa using this
    obtain ⟨rfl, rfl⟩ := e2
    rw [Option.bind_some, fnI_run h]
    simp only [Option.isSome_some, if_true]
    cases e3 : (runF M (mkS M (lastR M)) f (.io (enc a.1) :: (ea a.2).map .d)).bind (outI M f) with
    | none => rfl
    | some r =>
      have hc : M.chk f (.t [r.1, r.2]) = true := by
        obtain ⟨y, _, h2⟩ := bind_inv e3
        unfold outI at h2
        split at h2
        · obtain ⟨_, h2⟩ := ite_inv h2
          obtain ⟨h3, h2⟩ := ite_inv h2
          cases h2
          exact h3
        · cases h2
      rw [h.r] at hc
      obtain ⟨b, hb⟩ := Option.isSome_iff_exists.1 hc
      have hb' : (dec (α := β) r.1).bind (fun a' => (dec (α := α) r.2).map fun b' => (a', b')) = some b := hb
      obtain ⟨b1, h1, hb'⟩ := bind_inv hb'
      obtain ⟨y, h2, rfl⟩ := Option.map_eq_some_iff.1 hb'
      simp only [Option.bind_some, decI2, h1, h2, Option.map_some, ← Dat.enc_dec _ _ h1, ← Dat.enc_dec _ _ h2]
def callI {ρ : Type} (g : α × γ → Option (β × α)) (F : D × D → Option ρ) (a : α × γ) : Option ρ := bindN (g a) fun r => F (enc r.1, enc r.2)
theorem callI_eq {ρ : Type} (g : α × γ → Option (β × α)) (F : D × D → Option ρ) (a : α × γ) : callI g F a = bindN (g a) fun r => F (enc r.1, enc r.2) := rfl
theorem call_iK {ρ : Type} (h : Has M f (α × γ) (β × α)) (x : D) (ds : List D) (F : D × D → Option ρ) : ((lastR M).i f x ds).bind F = (da (α := α × γ) (x :: ds)).bind (callI (fnI M f β) F) := by
  rw [call_i h]
  cases da (α := α × γ) (x :: ds) with
  | none => rfl
  | some a =>
    simp only [Option.bind_some, callI, bindN]
    cases fnI M f β a <;> rfl
noncomputable def endI (M : Prm) (f : FuncId) (aa : AV) (rs : List ResultVar) (r : Exit × St) : Option (β × α) := ((endE M.T aa rs r).bind (outI M f)).bind decI2
theorem fnI_code (h : Has M f (α × γ) (β × α)) {fn : Func} {c : Code} (hf : M.P.funcs[f]? = some fn) (hb : fn.body = some c) (a : α × γ) (hn : fnB fn (.io (enc a.1) :: (ea a.2).map .d) = true) :
    fnI M f β a = evAt (envOf M (inAV (.io (enc a.1)))) (M.lv f) c [] (endI M f (inAV (.io (enc a.1))) fn.results.toList) (inSt fn.ntmps (.io (enc a.1) :: (ea a.2).map .d)) := by
  rw [fnI_run h]
  unfold runF
  rw [hf]
  simp only [hb]
  rw [if_pos hn]
  unfold runB evAt
  rw [loc_nil]
  unfold evK endI envOf ancA
  simp only [Option.bind_assoc]
end
theorem ev2_t (s : St) (t : Nat) : s.ev2 (.tmp t) = s.env t := rfl
theorem ev2_i (s : St) (k : IntKind) (n : Int) : s.ev2 (.const (.int k n)) = .d (.i k n) := rfl
theorem ev2_b (s : St) (b : Bool) : s.ev2 (.const (.bool b)) = .d (.b b) := rfl
theorem ev2_s (s : St) (b : ByteArray) : s.ev2 (.const (.string b)) = .d (.s b) := rfl
theorem ev2_z (s : St) : s.ev2 (.const (.slice none 0 0)) = .z 0 := rfl
theorem ev2_n (s : St) : s.ev2 (.const (.pointer none)) = .d .n := rfl
theorem ev2_nl (s : St) : s.ev2 (.const .nilIface) = .nl := rfl
theorem gT_0 : gT 0 = some opW := rfl
theorem gT_1 : gT 1 = some tyW := rfl
theorem getI_strD (ws : List ByteArray) (n : Int) : getI (strD ws) n = (getI ws n).map D.s := getI_map _ _ _
theorem strD_len (ws : List ByteArray) : (strD ws).length = ws.length := List.length_map ..
theorem opW_len : opW.length = 10 := rfl
theorem tyW_len : tyW.length = 3 := rfl
theorem le_ml3 : ((3 : Nat) ≤ maxLen) = True := by simp [maxLen]
theorem le_ml10 : ((10 : Nat) ≤ maxLen) = True := by simp [maxLen]
theorem rows_strD (ws : List ByteArray) : ((strD ws).map fun c => [c]) = ws.map cel := by
  unfold strD
  rw [List.map_map]
  rfl
theorem inAV_p (ds : List D) : inAV (.io (.p ds)) = .a keyIn 0 := rfl
theorem inAV_l (sz : Nat) (xs : List (List D)) : inAV (.io (.l sz xs)) = .r keyIn := rfl
theorem inAV_g (ds : List D) : inAV (.io (.g ds)) = oneAV (.g ds) (adCells keyIn ds) := rfl
theorem inHeap_p (ds : List D) (ins : List In) : inHeap (.io (.p ds) :: ins) = ovr ((keyIn, .box (adCells (keyIn + 1) ds)) :: adObs (keyIn + 1) ds) fun _ => none := rfl
theorem inHeap_l (sz : Nat) (xs : List (List D)) (ins : List In) : inHeap (.io (.l sz xs) :: ins) = ovr (adObs keyIn [.l sz xs]) fun _ => none := rfl
theorem inHeap_g (ds : List D) (ins : List In) : inHeap (.io (.g ds) :: ins) = ovr (adObs keyIn ds) fun _ => none := rfl
theorem inHeap_d (x : D) (ins : List In) : inHeap (.d x :: ins) = fun _ => none := rfl
theorem moveV_d (H : Nat → Option Ob) (x : D) : moveV H (.d x) = moveC H (.d x) := rfl
theorem moveV_r (H : Nat → Option Ob) (k : Nat) : moveV H (.r k) = moveC H (.r k) := rfl
theorem moveV_z (H : Nat → Option Ob) (k : Nat) : moveV H (.z k) = moveC H (.z k) := rfl
theorem moveV_a (H : Nat → Option Ob) (k : Nat) : moveV H (.a k 0) = match H k with
    | some (.box cs) => (moveCs (upd H k (some .dead)) cs).map fun m => (.p m.1, m.2.1, m.2.2)
    | _ => none := rfl
theorem takeM_d (H : Nat → Option Ob) (k : Nat) (x : D) : takeM H k (.d x) = demote H (.d x) := rfl
theorem takeM_r (H : Nat → Option Ob) (k j : Nat) : takeM H k (.r j) = demote H (.r j) := rfl
theorem takeM_z (H : Nat → Option Ob) (k j : Nat) : takeM H k (.z j) = demote H (.z j) := rfl
theorem takeM_m (H : Nat → Option Ob) (k' k ve i o : Nat) : takeM H k' (.m k ve i o) = match H k with
    | some (.row sz xs true false ve') => if ve = ve' ∧ o < sz then match H k' with
      | none => (xs[i]?).bind (takeC H k k' sz ve i o xs)
      | some _ => none else none
    | _ => demote H (.m k ve i o) := rfl
def mI (m : List (ByteArray × Int)) : List (ByteArray × D) := m.map fun x => (x.1, .i .i64 x.2)
def mSet : List (ByteArray × Int) → ByteArray → Int → List (ByteArray × Int)
  | [], k, n => [(k, n)]
  | x :: m, k, n => if k = x.1 then (k, n) :: m else x :: mSet m k n
def mGet : List (ByteArray × Int) → ByteArray → Option Int
  | [], _ => none
  | x :: m, k => if k = x.1 then some x.2 else mGet m k
theorem mI_nil : mI [] = [] := rfl
theorem kvSet_nil (k : ByteArray) (n : Int) : kvSet [] k (.i .i64 n) = mI (mSet [] k n) := rfl
theorem mI_set (k : ByteArray) (n : Int) : ∀ m : List (ByteArray × Int), kvSet (mI m) k (.i .i64 n) = mI (mSet m k n)
  | [] => rfl
  | x :: m => by
    have ih := mI_set k n m
    unfold mI at ih ⊢
    simp only [List.map_cons, kvSet, mSet]
    by_cases h : k = x.1
    · rw [if_pos h, if_pos h]; rfl
    · rw [if_neg h, if_neg h, ih]; rfl
theorem mI_get (k : ByteArray) : ∀ m : List (ByteArray × Int), kvGet (mI m) k = (mGet m k).map (D.i .i64)
  | [] => rfl
  | x :: m => by
    have ih := mI_get k m
    unfold mI at ih ⊢
    simp only [List.map_cons, kvGet, mGet]
    by_cases h : k = x.1
    · simp [h]
    · simp [h, ih]
theorem mI_getD (k : ByteArray) (z : Int) (m : List (ByteArray × Int)) : ((mGet m k).map (D.i .i64)).getD (.i .i64 z) = .i .i64 ((mGet m k).getD z) := by cases mGet m k <;> rfl
theorem lit10S (a b c d e f g h i j : ByteArray) (n : Nat) : ([[D.s a], [D.s b], [D.s c], [D.s d], [D.s e], [D.s f], [D.s g], [D.s h], [D.s i], [D.s j]] : List (List D))[n]? = ([a, b, c, d, e, f, g, h, i, j][n]?).map cel := by
  rw [show ([[D.s a], [D.s b], [D.s c], [D.s d], [D.s e], [D.s f], [D.s g], [D.s h], [D.s i], [D.s j]] : List (List D)) = [a, b, c, d, e, f, g, h, i, j].map cel from rfl, List.getElem?_map]
theorem gI10S (a b c d e f g h i j : ByteArray) (n : Int) : getI ([[D.s a], [D.s b], [D.s c], [D.s d], [D.s e], [D.s f], [D.s g], [D.s h], [D.s i], [D.s j]] : List (List D)) n = (getI [a, b, c, d, e, f, g, h, i, j] n).map cel := by
  rw [show ([[D.s a], [D.s b], [D.s c], [D.s d], [D.s e], [D.s f], [D.s g], [D.s h], [D.s i], [D.s j]] : List (List D)) = [a, b, c, d, e, f, g, h, i, j].map cel from rfl, getI_map]
theorem lit3S (a b c : ByteArray) (n : Nat) : ([[D.s a], [D.s b], [D.s c]] : List (List D))[n]? = ([a, b, c][n]?).map cel := by
  match n with
  | 0 => rfl
  | 1 => rfl
  | 2 => rfl
  | n + 3 => rfl
theorem gI3S (a b c : ByteArray) (n : Int) : getI ([[D.s a], [D.s b], [D.s c]] : List (List D)) n = (getI [a, b, c] n).map cel := by
  unfold getI
  split
  · exact lit3S a b c _
  · rfl
theorem uncL_setI (xs : List Int) (n : Nat) (v : Int) : uncL unc ((xs.map cel).set n [D.i .i64 v]) = some (xs.set n v) := by rw [show [D.i .i64 v] = cel v from rfl, ← List.map_set, uncL_map]
theorem uncL_setB (xs : List Bool) (n : Nat) (v : Bool) : uncL unc ((xs.map cel).set n [D.b v]) = some (xs.set n v) := by rw [show [D.b v] = cel v from rfl, ← List.map_set, uncL_map]
theorem uncL_setS (xs : List ByteArray) (n : Nat) (v : ByteArray) : uncL unc ((xs.map cel).set n [D.s v]) = some (xs.set n v) := by rw [show [D.s v] = cel v from rfl, ← List.map_set, uncL_map]
theorem set_get {α : Type} (xs : List α) (i : Nat) (v : α) : (xs.set i v)[i]? = (xs[i]?).map fun _ => v := by
  rw [List.getElem?_set]
  simp only [if_true]
  by_cases h : i < xs.length
  · rw [if_pos h, List.getElem?_eq_getElem h]; rfl
  · rw [if_neg h, List.getElem?_eq_none (by omega)]; rfl
theorem getI_set {α : Type} (xs : List α) (n : Int) (v : α) : getI (xs.set n.toNat v) n = (getI xs n).map fun _ => v := by
  unfold getI
  split
  · exact set_get xs _ v
  · rfl
end Go.Fs
namespace Go.Fs
open Cel (cel unc)
open Dat (enc dec)
open Arg (ea da)
open Go.RowKit
def ownG {α β : Type} [Arg α] [Dat β] (g : α → Option β) (ds : List D) : Option D := (da (α := α) ds).bind fun a => (g a).map enc
theorem ownG_K {α β ρ : Type} [Arg α] [Dat β] (g : α → Option β) (ds : List D) (F : D → Option ρ) : (ownG g ds).bind F = (da (α := α) ds).bind (callN g F) := by
  unfold ownG
  cases da (α := α) ds with
  | none => rfl
  | some a =>
    simp only [Option.bind_some, callN, bindN]
    cases g a <;> rfl
def lCut (s sep : ByteArray) : Option (T3 ByteArray ByteArray Bool) :=
  if s.size < 4294967281 then some ⟨⟨(Lib.cut s.data.toList sep.data.toList).1.toArray⟩, ⟨(Lib.cut s.data.toList sep.data.toList).2.1.toArray⟩, (Lib.cut s.data.toList sep.data.toList).2.2⟩ else none
def lSplit (s sep : ByteArray) : Option (List ByteArray) :=
  if s.size < 4294967281 ∧ 1 ≤ sep.size then some (Lib.splitB sep 0 (Lib.countB s sep) s) else none
def lJoin (xs : List ByteArray) (sep : ByteArray) : Option ByteArray :=
  if xs.length ≤ 140737488355328 ∧ (Lib.join (xs.map (·.data.toList)) sep.data.toList).length ≤ 140737488355328 then some ⟨(Lib.join (xs.map (·.data.toList)) sep.data.toList).toArray⟩ else none
def lItoa (n : Int) : Option ByteArray := if -9223372036854775808 ≤ n ∧ n ≤ 9223372036854775807 then some ⟨(Lib.itoa n).toArray⟩ else none
def lAtoi (s : ByteArray) : Option (Int × Er) := if s.size ≤ 281474976710656 then some (match Lib.atoiAll s.data.toList with
  | .ok v => (v, ⟨false⟩)
  | .range => (Lib.atoiSat s.data.toList, ⟨true⟩)
  | _ => (0, ⟨true⟩)) else none
/-- A copy of a list of texts. -/
def lClone (xs : List ByteArray) : Option (List ByteArray) := if xs.length * 16 ≤ 140737488355328 then some xs else none
def glClone : List D → Option D := ownG (α := List ByteArray × Unit) fun x => lClone x.1
def glCut : List D → Option D := ownG (α := ByteArray × ByteArray × Unit) fun x => lCut x.1 x.2.1
def glSplit : List D → Option D := ownG (α := ByteArray × ByteArray × Unit) fun x => lSplit x.1 x.2.1
def glJoin : List D → Option D := ownG (α := List ByteArray × ByteArray × Unit) fun x => lJoin x.1 x.2.1
def glItoa : List D → Option D := ownG (α := Int × Unit) fun x => lItoa x.1
def glAtoi : List D → Option D := ownG (α := ByteArray × Unit) fun x => lAtoi x.1
/-- A text, laid behind a builder's. -/
def bW (s : ByteArray) : List D → Option (D × Option ByteArray)
  | [.s t] => if s.size + t.size ≤ 140737488355328 then some (.t [.i .i64 t.size, .e false], some (s ++ t)) else none
  | _ => none
/-- A builder's text; the builder is not used on. -/
def bS (s : ByteArray) : List D → Option (D × Option ByteArray)
  | [] => some (.s s, none)
  | _ => none
theorem bW_s (s t : ByteArray) : bW s [.s t] = if s.size + t.size ≤ 140737488355328 then some (.t [.i .i64 t.size, .e false], some (s ++ t)) else none := rfl
theorem bS_n (s : ByteArray) : bS s [] = some (.s s, none) := rfl
theorem bT_eq : bT = 36 := rfl
end Go.Fs
namespace Go.Fs
open Go.RowKit
theorem post_sc {w w' : World} {args : List Value} {Sd : List Nat} {d : D} {v : Value} (hr : Rest w w') (hk : ∀ b, b < w.heap.size → w'.heap[b]? = w.heap[b]?) (ht : Tr w' true v d []) (hf : RetFlat v) :
    Post w args Sd [] { ret := d } v w' :=
  ⟨hr, fun b hb _ => hk b hb, [], [], ht, hf, rfl, List.nodup_nil, by simp, by simp, fun _ => ⟨List.nodup_nil, by simp⟩, by simp⟩
theorem rest_below {w w' : World} (h : Below w.heap.size w w') : Rest w w' ∧ ∀ b, b < w.heap.size → w'.heap[b]? = w.heap[b]? := ⟨⟨h.os, h.tape, h.output, h.size⟩, fun b hb => h.block b hb⟩
theorem does_of {P : Program} {f : FuncId} {args : List Value} {w : World} {Sd : List Nat} {d : D} (hc : ∀ (a : Array Value) (w : World), (callFunc f a).run P w = .ok (.enter f a) w)
    {Q : Ending → World → Prop} (h : Calls P f args.toArray w Q) (hq : ∀ e w', Q e w' → ∃ v, e = .returned v ∧ Post w args Sd [] { ret := d } v w') : Does P f args.toArray w (Post w args Sd [] { ret := d }) := by
  refine .inl ⟨hc _ _, h.mono fun e w' he => ?_⟩
  obtain ⟨v, rfl, hp⟩ := hq e w' he
  exact hp
/-- Arguments that are texts. -/
theorem args_s {w : World} {vs : List Value} {s : ByteArray} {ds : List D} {Sd M : List Nat} (h : ArgsR w vs ((D.s s :: ds).map .d) Sd M) : ∃ us Sd', vs = .string s :: us ∧ ArgsR w us (ds.map .d) Sd' M := by
  cases h with
  | d v x S vs ins Sd' M ht hf hs =>
    cases ht
    exact ⟨vs, Sd', rfl, hs⟩
theorem args_i {w : World} {vs : List Value} {k : IntKind} {n : Int} {ds : List D} {Sd M : List Nat} (h : ArgsR w vs ((D.i k n :: ds).map .d) Sd M) : ∃ us Sd', vs = .int k n :: us ∧ ArgsR w us (ds.map .d) Sd' M := by
  cases h with
  | d v x S vs ins Sd' M ht hf hs =>
    cases ht
    exact ⟨vs, Sd', rfl, hs⟩
theorem args_n {w : World} {vs : List Value} {Sd M : List Nat} (h : ArgsR w vs (([] : List D).map .d) Sd M) : vs = [] ∧ M = [] := by
  cases h; exact ⟨rfl, rfl⟩
theorem flat_tuple {vs : List Value} (h : ∀ v ∈ vs, v.oneCell' = true) : RetFlat (.tuple vs.toArray) := .inr ⟨_, rfl, fun u hu => flat_one (h u (by simpa using hu))⟩
theorem ownG_inv {α β : Type} [Arg α] [Dat β] {g : α → Option β} {ds : List D} {r : D} (h : ownG g ds = some r) : ∃ a b, ds = Arg.ea a ∧ g a = some b ∧ r = Dat.enc b := by
  unfold ownG at h
  obtain ⟨a, h1, h2⟩ := Option.bind_eq_some_iff.1 h
  obtain ⟨b, h3, rfl⟩ := Option.map_eq_some_iff.1 h2
  exact ⟨a, b, Arg.ea_da _ _ h1, h3, rfl⟩
def erB : Value → Bool
  | .nilIface => false
  | _ => true
theorem strL_tr (w : World) (own : Bool) : ∀ xs : List ByteArray, TrL w own (xs.map Value.string) (xs.map Cel.cel).flatten []
  | [] => .nil
  | x :: xs => by
    have := TrL.cons (w := w) (own := own) (.string x) (.s x) [] _ _ [] (.s x) (strL_tr w own xs)
    exact this
theorem strL_ok {w : World} {xs : List ByteArray} {n : Nat} (hn : n = xs.length) (hm : n ≤ maxLen) {g : Nat} {cur : Array Value} {e : TypeId} (hg : w.heap[g]? = some (.cells cur e (0, 0))) (hc : cur = (xs.map Value.string).toArray) :
    Tr w true (.slice (some ⟨g, 0, none⟩) n n) (Dat.enc xs) [g] := by
  subst hn
  subst hc
  have := Tr.l (w := w) (own := true) g 0 xs.length 1 _ e (0, 0) (xs.map Value.string) (xs.map Cel.cel) [] hg (by simp) hm (by simp) (fun j v hj => by simpa using hj) (fun v hv => by
    obtain ⟨x, _, rfl⟩ := List.mem_map.1 hv
    rfl) (fun x hx => by
    obtain ⟨a, _, rfl⟩ := List.mem_map.1 hx
    rfl) (fun _ => ⟨rfl, by simp⟩) (by simpa using strL_tr w true xs)
  rw [List.length_map] at this
  exact this
theorem strL_inv {w : World} {own : Bool} : ∀ {xs : List ByteArray} {vs : List Value} {S : List Nat}, TrL w own vs (xs.map Cel.cel).flatten S → vs = xs.map Value.string
  | [], vs, S, h => by cases h; rfl
  | x :: xs, vs, S, h => by
    have h : TrL w own vs (.s x :: (xs.map Cel.cel).flatten) S := h
    cases h with
    | cons v d S1 vs ds Ss h1 hs1 =>
      obtain ⟨rfl, _⟩ := h1.inv_s
      rw [strL_inv hs1]
      rfl
/-- A list of texts, as an argument. -/
theorem args_l {w : World} {vs : List Value} {xs : List ByteArray} {ds : List D} {Sd M : List Nat} (h : ArgsR w vs ((Dat.enc xs :: ds).map .d) Sd M) : ∃ v us Sd', vs = v :: us ∧ ArgsR w us (ds.map .d) Sd' M ∧
    ((∃ a c, v = .slice a 0 c ∧ xs = []) ∨ ∃ g o c, v = .slice (some ⟨g, o, none⟩) xs.length c ∧ g < w.heap.size ∧ xs.length ≤ c ∧ ∀ (j : Nat) x, xs[j]? = some x → w.cell? ⟨g, o + j, none⟩ = some (.string x)) := by
  have h : ArgsR w vs ((D.l 1 (xs.map Cel.cel) :: ds).map .d) Sd M := h
  cases h with
  | d v x S vs ins Sd' M ht hf hs =>
    refine ⟨v, vs, Sd', rfl, hs, ?_⟩
    generalize hxs : xs.map Cel.cel = ys at ht
    cases ht with
    | z a c _ _ => exact .inl ⟨a, c, rfl, by simpa using hxs⟩
    | l g o c _ cur e fr us _ S hg hcp hm hl hv h1 hx ho hts =>
      subst hxs
      have he := strL_inv hts
      subst he
      refine .inr ⟨g, o, c, by rw [List.length_map], (Array.getElem?_eq_some_iff.1 hg).1, by simpa using hcp, fun j x hj => ?_⟩
      have := hv j (.string x) (by rw [List.getElem?_map, hj]; rfl)
      simp only [World.cell?, hg]
      simpa using this
section
variable {P : Program} {f : FuncId} (hc : ∀ (a : Array Value) (w : World), (callFunc f a).run P w = .ok (.enter f a) w)
include hc
theorem fin_ok {w : World} {args : List Value} {Sd : List Nat} {d : D} {v : Value} (h : Calls P f args.toArray w fun e w' => e = .returned v ∧ Below w.heap.size w w') (ht : ∀ w', Tr w' true v d []) (hf : RetFlat v) :
    Does P f args.toArray w (Post w args Sd [] { ret := d }) :=
  does_of hc h fun e w' he => by
    obtain ⟨he, hb⟩ := he
    obtain ⟨h1, h2⟩ := rest_below hb
    exact ⟨v, he, post_sc h1 h2 (ht w') hf⟩
theorem ok_cut (hC : ∀ (s sep : ByteArray) (m : Int) (w : World), s.size < 4294967281 → w.cell? ⟨2, 0, none⟩ = some (.int .i64 m) → Calls P f #[.string s, .string sep] w fun e w' =>
      e = .returned (.tuple #[.string ⟨(Lib.cut s.data.toList sep.data.toList).1.toArray⟩, .string ⟨(Lib.cut s.data.toList sep.data.toList).2.1.toArray⟩, .bool (Lib.cut s.data.toList sep.data.toList).2.2]) ∧ Below w.heap.size w w') :
    ∀ ds r, glCut ds = some r → FnOK P f (ds.map .d) { ret := r } := by
  intro ds r h w args Sd M hk ha hM hd
  obtain ⟨⟨s, sep, u⟩, b, rfl, h1, rfl⟩ := ownG_inv h
  have ha : ArgsR w args ([D.s s, D.s sep].map .d) Sd M := ha
  obtain ⟨us, Sd1, rfl, ha1⟩ := args_s (s := s) (ds := [.s sep]) ha
  obtain ⟨us, Sd2, rfl, ha2⟩ := args_s (s := sep) (ds := []) ha1
  obtain ⟨rfl, rfl⟩ := args_n ha2
  unfold lCut at h1
  split at h1
  case isFalse => cases h1
  rename_i hs
  cases h1
  obtain ⟨m, hm⟩ := hk.kn.max
  refine fin_ok hc (hC s sep m w hs hm) (fun w' => .t _ _ _ (.cons _ _ [] _ _ [] (.s _) (.cons _ _ [] _ _ [] (.s _) (.cons _ _ [] _ _ [] (.b _) .nil)))) (flat_tuple (vs := [_, _, _]) ?_)
  intro v hv
  simp only [List.mem_cons, List.not_mem_nil, or_false] at hv
  rcases hv with rfl | rfl | rfl <;> rfl
theorem ok_itoa (hC : ∀ (n : Int) (w : World), -9223372036854775808 ≤ n → n ≤ 9223372036854775807 → Kn w → Calls P f #[.int .i64 n] w fun e w' => e = .returned (.string ⟨(Lib.itoa n).toArray⟩) ∧ Below w.heap.size w w') :
    ∀ ds r, glItoa ds = some r → FnOK P f (ds.map .d) { ret := r } := by
  intro ds r h w args Sd M hk ha hM hd
  obtain ⟨⟨n, u⟩, b, rfl, h1, rfl⟩ := ownG_inv h
  have ha : ArgsR w args ([D.i .i64 n].map .d) Sd M := ha
  obtain ⟨us, Sd1, rfl, ha1⟩ := args_i (k := .i64) (n := n) (ds := []) ha
  obtain ⟨rfl, rfl⟩ := args_n ha1
  unfold lItoa at h1
  split at h1
  case isFalse => cases h1
  rename_i hs
  cases h1
  exact fin_ok hc (hC n w hs.1 hs.2 hk.kn) (fun w' => .s _) (.inl (flat_one rfl))
theorem ok_atoi (hC : ∀ (s : ByteArray) (w : World), s.size ≤ 281474976710656 → Kn w → Calls P f #[.string s] w fun e w' => (∃ n v, e = .returned (.tuple #[.int .i64 n, v]) ∧ lAtoi s = some (n, ⟨erB v⟩) ∧ ifV v) ∧ Below w.heap.size w w') :
    ∀ ds r, glAtoi ds = some r → FnOK P f (ds.map .d) { ret := r } := by
  intro ds r h w args Sd M hk ha hM hd
  obtain ⟨⟨s, u⟩, b, rfl, h1, rfl⟩ := ownG_inv h
  have ha : ArgsR w args ([D.s s].map .d) Sd M := ha
  obtain ⟨us, Sd1, rfl, ha1⟩ := args_s (s := s) (ds := []) ha
  obtain ⟨rfl, rfl⟩ := args_n ha1
  have hs : s.size ≤ 281474976710656 := by
    have h2 : lAtoi s = some b := h1
    unfold lAtoi at h2
    split at h2
    · assumption
    · cases h2
  refine does_of hc (hC s w hs hk.kn) fun e w' he => ?_
  obtain ⟨⟨n, v, rfl, h2, hv⟩, hb⟩ := he
  obtain ⟨q1, q2⟩ := rest_below hb
  have h3 : lAtoi s = some b := h1
  rw [h2] at h3
  cases h3
  refine ⟨_, rfl, post_sc q1 q2 ?_ (flat_tuple (vs := [_, _]) ?_)⟩
  · have hv2 : Tr w' true v (.e (erB v)) [] := by
      rcases hv with rfl | ⟨te, pe, rfl⟩
      · exact Tr.ni
      · exact Tr.ei te pe
    exact .t _ _ _ (.cons _ _ [] _ _ [] (.i _ _) (.cons _ _ [] _ _ [] hv2 .nil))
  · intro u hu
    simp only [List.mem_cons, List.not_mem_nil, or_false] at hu
    rcases hu with rfl | rfl
    · rfl
    · rcases hv with rfl | ⟨te, pe, rfl⟩ <;> rfl
theorem ok_split (hC : ∀ (s sep : ByteArray) (m : Int) (w : World), s.size < 4294967281 → w.cell? ⟨2, 0, none⟩ = some (.int .i64 m) → 1 ≤ sep.size → Calls P f #[.string s, .string sep] w fun e w' =>
      e = .returned (.slice (some ⟨w.heap.size, 0, none⟩) (Lib.countB s sep + 1) (Lib.countB s sep + 1)) ∧ w' = w.alloc (.cells ((Lib.splitB sep 0 (Lib.countB s sep) s).map Value.string).toArray 9)) :
    ∀ ds r, glSplit ds = some r → FnOK P f (ds.map .d) { ret := r } := by
  intro ds r h w args Sd M hk ha hM hd
  obtain ⟨⟨s, sep, u⟩, b, rfl, h1, rfl⟩ := ownG_inv h
  have ha : ArgsR w args ([D.s s, D.s sep].map .d) Sd M := ha
  obtain ⟨us, Sd1, rfl, ha1⟩ := args_s (s := s) (ds := [.s sep]) ha
  obtain ⟨us, Sd2, rfl, ha2⟩ := args_s (s := sep) (ds := []) ha1
  obtain ⟨rfl, rfl⟩ := args_n ha2
  unfold lSplit at h1
  split at h1
  case isFalse => cases h1
  rename_i hs
  have hs : s.size < 4294967281 ∧ 1 ≤ sep.size := hs
  cases h1
  obtain ⟨m, hm⟩ := hk.kn.max
  refine does_of hc (hC s sep m w hs.1 hm hs.2) fun e w' he => ?_
  obtain ⟨rfl, rfl⟩ := he
  have hlen := Lib.splitB_all sep hs.2 0 _ s rfl
  have hle := Lib.countB_le sep hs.2 s.size s (Nat.le_refl _)
  have hn := heap_alloc_new w (.cells ((Lib.splitB sep 0 (Lib.countB s sep) s).map Value.string).toArray 9)
  have ht := strL_ok (xs := Lib.splitB sep 0 (Lib.countB s sep) s) (n := Lib.countB s sep + 1) (by omega) (by unfold maxLen; omega) hn rfl
  exact ⟨_, rfl, rest_alloc _ _, fun b hb _ => heap_alloc_old w _ b hb, [w.heap.size], [], ht, .inl (flat_one rfl), rfl, List.nodup_nil, by simp, by simp, fun _ => ⟨by simp, fun b hb => by simp at hb; subst hb; exact .inl (Nat.le_refl _)⟩, fun b hb => by simp at hb; subst hb; exact .inl (Nat.le_refl _)⟩
theorem ok_join (h0 : ∀ (a : Option Addr) (c : Nat) (sep : ByteArray) (w : World), Calls P f #[.slice a 0 c, .string sep] w fun e w' => e = .returned (.string ⟨#[]⟩) ∧ w' = w)
    (hC : ∀ (bk o c : Nat) (xs : List ByteArray) (sep : ByteArray) (w : World), (∀ (j : Nat) x, xs[j]? = some x → w.cell? ⟨bk, o + j, none⟩ = some (.string x)) → bk < w.heap.size → xs.length ≤ 140737488355328 → xs.length ≤ c →
      (Lib.join (xs.map (·.data.toList)) sep.data.toList).length ≤ 140737488355328 → Calls P f #[.slice (some ⟨bk, o, none⟩) xs.length c, .string sep] w fun e w' => e = .returned (.string ⟨(Lib.join (xs.map (·.data.toList)) sep.data.toList).toArray⟩) ∧ Below w.heap.size w w') :
    ∀ ds r, glJoin ds = some r → FnOK P f (ds.map .d) { ret := r } := by
  intro ds r h w args Sd M hk ha hM hd
  obtain ⟨⟨xs, sep, u⟩, b, rfl, h1, rfl⟩ := ownG_inv h
  have ha : ArgsR w args ([Dat.enc xs, D.s sep].map .d) Sd M := ha
  obtain ⟨v, us, Sd1, rfl, ha1, hv⟩ := args_l (xs := xs) (ds := [.s sep]) ha
  obtain ⟨us, Sd2, rfl, ha2⟩ := args_s (s := sep) (ds := []) ha1
  obtain ⟨rfl, rfl⟩ := args_n ha2
  unfold lJoin at h1
  split at h1
  case isFalse => cases h1
  rename_i hs
  have hs : xs.length ≤ 140737488355328 ∧ (Lib.join (xs.map (·.data.toList)) sep.data.toList).length ≤ 140737488355328 := hs
  cases h1
  rcases hv with ⟨a, c, rfl, rfl⟩ | ⟨g, o, c, rfl, q1, q2, q3⟩
  · refine does_of hc (h0 a c sep w) fun e w' he => ?_
    obtain ⟨rfl, rfl⟩ := he
    exact ⟨_, rfl, post_sc (.refl _) (fun _ _ => rfl) (.s _) (.inl (flat_one rfl))⟩
  · exact fin_ok hc (hC g o c xs sep w q3 q1 hs.1 q2 hs.2) (fun w' => .s _) (.inl (flat_one rfl))
omit hc in
theorem own_tr {w : World} {base : Nat} {e : TypeId} {v : Value} {xs : List ByteArray} (h : w.ownsRow base e 1 v xs.length (xs.map Value.string)) (hb : base ≤ w.heap.size) :
    ∃ S, Tr w true v (Dat.enc xs) S ∧ S.Nodup ∧ (∀ b ∈ S, base ≤ b) ∧ v.oneCell' = true := by
  obtain ⟨_, h⟩ := h
  rcases h with ⟨rfl, h0⟩ | ⟨g, cap, cur, rfl, hg, hh, h1, h2, h3, h4⟩
  · have : xs = [] := List.eq_nil_of_length_eq_zero h0
    subst this
    exact ⟨[], .z _ _ _ (fun _ => rfl), List.nodup_nil, by simp, rfl⟩
  · refine ⟨[g], ?_, by simp, fun b hb => by simp at hb; subst hb; exact hg, rfl⟩
    have := Tr.l (w := w) (own := true) g 0 cap 1 cur e (0, 0) (xs.map Value.string) (xs.map Cel.cel) [] hh (by simpa using h1) h2 (by simp) (fun j v hj => by
      rw [Nat.zero_add, ← Array.getElem?_toList]
      rw [← h4, List.getElem?_take] at hj
      split at hj
      · exact hj
      · cases hj) (fun v hv => by
      obtain ⟨x, _, rfl⟩ := List.mem_map.1 hv
      rfl) (fun x hx => by
      obtain ⟨a, _, rfl⟩ := List.mem_map.1 hx
      rfl) (fun _ => ⟨rfl, by omega⟩) (by simpa using strL_tr w true xs)
    rw [List.length_map] at this
    exact this
theorem ok_clone (hn : ∀ (n c : Nat) (w : World), Calls P f #[.slice none n c] w fun e w' => e = .returned (.slice none 0 0) ∧ w' = w)
    (hz : ∀ (a : Addr) (c : Nat) (w : World), Calls P f #[.slice (some a) 0 c] w fun e w' => ∃ v', e = .returned v' ∧ w'.ownsRow w.heap.size 9 1 v' 0 [] ∧ Below w.heap.size w w')
    (hC : ∀ (b off n c : Nat) (zs : List ByteArray) (w : World), n ≤ zs.length → n * 16 ≤ 140737488355328 → (∀ j, j < zs.length → w.cell? ⟨b, off + j, none⟩ = some (.string (zs.getD j ByteArray.empty))) →
      Calls P f #[.slice (some ⟨b, off, none⟩) n c] w fun e w' => ∃ v', e = .returned v' ∧ w'.ownsRow w.heap.size 9 1 v' n ((zs.take n).map (Value.string)) ∧ Below w.heap.size w w') :
    ∀ ds r, glClone ds = some r → FnOK P f (ds.map .d) { ret := r } := by
  intro ds r h w args Sd M hk ha hM hd
  obtain ⟨⟨xs, u⟩, b, rfl, h1, rfl⟩ := ownG_inv h
  have ha : ArgsR w args ([Dat.enc xs].map .d) Sd M := ha
  obtain ⟨v, us, Sd1, rfl, ha1, hv⟩ := args_l (xs := xs) (ds := []) ha
  obtain ⟨rfl, rfl⟩ := args_n ha1
  have h1 : lClone xs = some b := h1
  unfold lClone at h1
  split at h1
  case isFalse => cases h1
  rename_i hs
  cases h1
  have fin : ∀ {v' : Value} {w' : World}, w'.ownsRow w.heap.size 9 1 v' xs.length (xs.map Value.string) → Below w.heap.size w w' → Post w [v] Sd [] { ret := Dat.enc xs } v' w' := fun ho hb => by
    obtain ⟨S, t1, t2, t3, t4⟩ := own_tr ho hb.size
    obtain ⟨q1, q2⟩ := rest_below hb
    exact ⟨q1, fun b hb _ => q2 b hb, S, [], t1, .inl (flat_one t4), rfl, List.nodup_nil, by simp, by simp, fun _ => ⟨t2, fun b hb => .inl (t3 b hb)⟩, fun b hb => .inl (t3 b hb)⟩
  rcases hv with ⟨a, c, rfl, rfl⟩ | ⟨g, o, c, rfl, q1, q2, q3⟩
  · cases a with
    | none =>
      refine does_of hc (hn 0 c w) fun e w' he => ?_
      obtain ⟨rfl, rfl⟩ := he
      exact ⟨_, rfl, post_sc (.refl _) (fun _ _ => rfl) (.z _ _ _ (fun _ => rfl)) (.inl (flat_one rfl))⟩
    | some a =>
      refine does_of hc (hz a c w) fun e w' he => ?_
      obtain ⟨v', rfl, ho, hb⟩ := he
      exact ⟨v', rfl, fin ho hb⟩
  · refine does_of hc (hC g o xs.length c xs w (Nat.le_refl _) hs fun j hj => ?_) fun e w' he => ?_
    · exact q3 j _ (by rw [List.getD_eq_getElem?_getD, List.getElem?_eq_getElem hj]; rfl)
    · obtain ⟨v', rfl, ho, hb⟩ := he
      rw [List.take_length] at ho
      exact ⟨v', rfl, fin ho hb⟩
end
end Go.Fs
