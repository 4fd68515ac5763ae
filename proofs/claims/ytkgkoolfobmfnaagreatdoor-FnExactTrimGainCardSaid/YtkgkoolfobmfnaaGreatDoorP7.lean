/- A part of the proof: an evaluator of the program's code over plain data, proved sound; the equations of its functions; what they compute. No conditions beyond those in the theorems. -/
import Derived.Test.YtkgkoolfobmfnaaGreatDoorP6
set_option linter.unusedVariables false
set_option linter.unusedSimpArgs false
set_option linter.constructorNameAsVariable false
set_option linter.unusedSectionVars false
set_option linter.defProp false
namespace Go.Fs
open Go.RowKit

open Classical in
noncomputable def lim {α : Type} (g : Nat → Option α) : Option α := if h : ∃ n r, g n = some r then some (Classical.choose (Classical.choose_spec h)) else none
theorem lim_inv {α : Type} {g : Nat → Option α} {r : α} (h : lim g = some r) : ∃ n, g n = some r := by
  unfold lim at h
  split at h
  · rename_i hx
    exact ⟨_, (Classical.choose_spec (Classical.choose_spec hx)).trans h⟩
  · cases h
theorem mono_le {α : Type} {g : Nat → Option α} (hm : ∀ n r, g n = some r → g (n + 1) = some r) {r : α} : ∀ {m n : Nat}, n ≤ m → g n = some r → g m = some r
  | 0, n, h, e => by obtain rfl : n = 0 := by omega
                     exact e
  | m + 1, n, h, e => by
    by_cases hn : n = m + 1
    · subst hn; exact e
    · exact hm _ _ (mono_le hm (by omega) e)
theorem lim_some {α : Type} {g : Nat → Option α} (hm : ∀ n r, g n = some r → g (n + 1) = some r) {n : Nat} {r : α} (h : g n = some r) : lim g = some r := by
  cases e : lim g with
  | none =>
    unfold lim at e
    split at e
    · cases e
    · rename_i hx; exact absurd ⟨n, r, h⟩ hx
  | some r' =>
    obtain ⟨m, hm'⟩ := lim_inv e
    have h1 := mono_le hm (Nat.le_max_left n m) h
    have h2 := mono_le hm (Nat.le_max_right n m) hm'
    rw [h1] at h2
    exact h2.symm

def oPut (s : St) (dst : Option Nat) (av : AV) (H : Nat → Option Ob) : Option St := match dst with
  | some d => if d < s.n then some { n := s.n, env := upd s.env d av, heap := H } else none
  | none => some { n := s.n, env := s.env, heap := H }
/-- What is lent: a list inside a row's element that is there. -/
def mAt (H : Nat → Option Ob) (k ve i o : Nat) : Option D := match H k with
  | some (.row sz xs _ _ ve') => if ve = ve' ∧ o < sz then (xs[i]?).bind fun cs => cs[o]? else none
  | _ => none
def borCE (H : Nat → Option Ob) : AV → Option D
  | .m k ve i o => mAt H k ve i o
  | av => borC H av
def borCsE (H : Nat → Option Ob) : List AV → Option (List D)
  | [] => some []
  | av :: avs => (borCE H av).bind fun x => (borCsE H avs).map (x :: ·)
def borE (H : Nat → Option Ob) : AV → Option D
  | .g cs => (borCsE H cs).map .g
  | .f fn caps => bor H (.f fn caps)
  | .a k o => bor H (.a k o)
  | av => borCE H av
def borLE (H : Nat → Option Ob) : List AV → Option (List D)
  | [] => some []
  | av :: avs => (borE H av).bind fun x => (borLE H avs).map (x :: ·)
theorem mAt_ok {H : Nat → Option Ob} {k ve i o : Nat} {x : D} (h : mAt H k ve i o = some x) : borC H (.m k ve i o) = some x := by
  unfold mAt at h
  unfold borC
  split at h
  · rename_i sz xs dp fz ve' hk
    simp only [hk]
    split at h
    · rename_i hc
      obtain ⟨cs, h1, h2⟩ := Option.bind_eq_some_iff.1 h
      have hi : i < xs.length := (List.getElem?_eq_some_iff.1 h1).1
      rw [if_pos ⟨hc.1, hi, hc.2⟩]
      have e1 : xs.getD i [] = cs := by rw [List.getD_eq_getElem?_getD, h1]; rfl
      rw [e1, List.getD_eq_getElem?_getD, h2]
      rfl
    · cases h
  · cases h
theorem borCE_ok {H : Nat → Option Ob} {av : AV} {x : D} (h : borCE H av = some x) : borC H av = some x := by
  unfold borCE at h
  split at h
  · exact mAt_ok h
  · exact h
theorem borCsE_ok {H : Nat → Option Ob} : ∀ {avs : List AV} {ds : List D}, borCsE H avs = some ds → borCs H avs = some ds
  | [], ds, h => h
  | av :: avs, ds, h => by
    obtain ⟨x, h1, h⟩ := Option.bind_eq_some_iff.1 h
    obtain ⟨xs, h2, rfl⟩ := Option.map_eq_some_iff.1 h
    simp only [borCs, borCE_ok h1, Option.bind_some, borCsE_ok h2, Option.map_some]
theorem borE_ok {H : Nat → Option Ob} {av : AV} {x : D} (h : borE H av = some x) : bor H av = some x := by
  unfold borE at h
  split at h
  · obtain ⟨xs, h2, rfl⟩ := Option.map_eq_some_iff.1 h
    simp only [bor, borCsE_ok h2, Option.map_some]
  · exact h
  · exact h
  · rename_i h1 h2 h3
    have := borCE_ok h
    cases av <;> first | exact this | exact absurd rfl (h1 _) | exact absurd rfl (h2 _ _) | exact absurd rfl (h3 _ _)
theorem borLE_ok {H : Nat → Option Ob} : ∀ {avs : List AV} {ds : List D}, borLE H avs = some ds → borL H avs = some ds
  | [], ds, h => h
  | av :: avs, ds, h => by
    obtain ⟨x, h1, h⟩ := Option.bind_eq_some_iff.1 h
    obtain ⟨xs, h2, rfl⟩ := Option.map_eq_some_iff.1 h
    simp only [borL, borE_ok h1, Option.bind_some, borLE_ok h2, Option.map_some]
def ownE (s : St) (dst : Option Nat) (r : D) : Option St :=
  if freeAll s.heap (adObs (keyOf dst) (partsD r)) = true then oPut s dst (retAV r (adCells (keyOf dst) (partsD r))) (updL (adObs (keyOf dst) (partsD r)) s.heap) else none
def sharedE (s : St) (dst : Option Nat) (F : List D → Option D) (args : List AV) (H1 : Nat → Option Ob) : Option St :=
  if args.flatMap (keyA H1) = args.flatMap (keyA s.heap) then (borL H1 args).bind fun ds => (F ds).bind fun r => oPut s dst (retAV r ((partsD r).map .d)) H1 else none
def nestE (s : St) (dst : Option Nat) (k i o sz ve : Nat) (xs : List (List D)) (cs : List D) (rest : List AV) (r : D × D) : Option St :=
  if apart [k] (rest.flatMap (keyA s.heap)) = true then if freeAll s.heap (adObs (keyOf dst) (partsD r.1)) = true then
    oPut s dst (retAV r.1 (adCells (keyOf dst) (partsD r.1))) (updL ((k, .row sz (xs.set i (cs.set o r.2)) true false (ve + 1)) :: adObs (keyOf dst) (partsD r.1)) s.heap) else none else none
def nestC (F : D → List D → Option (D × D)) (s : St) (dst : Option Nat) (k i o sz ve : Nat) (xs : List (List D)) (rest : List AV) (cs : List D) : Option St :=
  (cs[o]?).bind fun x => (borL s.heap rest).bind fun ds => (F x ds).bind (nestE s dst k i o sz ve xs cs rest)
def ioE3 (s : St) (dst : Option Nat) (r : D × D) (os : List (Nat × Ob)) : Option St := if freeAll s.heap (adObs (keyOf dst) (partsD r.1)) = true then
  oPut s dst (retAV r.1 (adCells (keyOf dst) (partsD r.1))) (updL (os ++ adObs (keyOf dst) (partsD r.1)) s.heap) else none
def ioE2 (s : St) (dst : Option Nat) (io : AV) (ks : List Nat) (rest : List AV) (r : D × D) : Option St :=
  if nodupB ks = true then if apart ks (rest.flatMap (keyA s.heap)) = true then (ioObs s.heap (cellsA io) (cellsD r.2)).bind (ioE3 s dst r) else none else none
def eatE (s : St) (dst : Option Nat) (y : AV × List (Nat × Ob)) : Option St := oPut s dst y.1 (updL y.2 s.heap)
def callE (A : Env) (s : St) (dst : Option Nat) (f : FuncId) (args : List AV) : Option St := match A.S f with
  | none => none
  | some (.own F) => (borLE s.heap args).bind fun ds => (F ds).bind (ownE s dst)
  | some (.shared F) => (frzL s.heap (args.flatMap (keyA s.heap))).bind (sharedE s dst F args)
  | some (.io F) => match args with
    | [] => none
    | .m k ve i o :: rest => match s.heap k with
      | some (.row sz xs true false ve') => if ve' = ve ∧ o < sz then (xs[i]?).bind (nestC F s dst k i o sz ve' xs rest) else none
      | _ => none
    | io :: rest => (ioCs s.heap (cellsA io)).bind fun x => (borL s.heap rest).bind fun ds => (F (ioD io x.1) ds).bind (ioE2 s dst io x.2 rest)
  | some (.eat F) => (eatC s.heap dst F args).bind (eatE s dst)
  | some (.box F) => (bxC s.heap dst F args).bind (eatE s dst)
  | some (.bld F) => (bdC s.heap F args).bind (eatE s dst)
/-- A store into a row's element that is there. -/
def stE (T : Tab) (H : Nat → Option Ob) (ty : TypeId) (p x : AV) : Option (Nat → Option Ob) := match p with
  | .e k i o => (T.ti ty).bind fun ti =>
    if (cellsA x).length = ti.size ∧ (cellsA x).all (oneA H) = true then (moveCs H (cellsA x)).bind fun m => match m.2.2 k with
      | some (.row sz xs dp false ve) => if o + ti.size ≤ sz then
          (xs[i]?).bind fun cs => some (upd m.2.2 k (some (.row sz (xs.set i (cs.take o ++ m.1 ++ cs.drop (o + ti.size))) (dp && m.2.1) false (ve + 1)))) else none
      | _ => none else none
  | p => opStore T H ty p x
theorem stE_ok {T : Tab} {H H' : Nat → Option Ob} {ty : TypeId} {p x : AV} (h : stE T H ty p x = some H') : opStore T H ty p x = some H' := by
  unfold stE at h
  split at h
  · rename_i k i o
    unfold opStore
    obtain ⟨ti, h1, h⟩ := Option.bind_eq_some_iff.1 h
    rw [h1, Option.bind_some]
    split at h
    · rename_i hc
      rw [if_pos hc]
      obtain ⟨m, h2, h⟩ := Option.bind_eq_some_iff.1 h
      simp only [h2, Option.bind_some]
      split at h
      · rename_i sz xs dp ve hk
        simp only [hk]
        split at h
        · rename_i hs
          rw [if_pos hs]
          obtain ⟨cs, h3, h⟩ := Option.bind_eq_some_iff.1 h
          have : xs.getD i [] = cs := by rw [List.getD_eq_getElem?_getD, h3]; rfl
          rw [this]
          exact h
        · cases h
      · cases h
    · cases h
  · exact h
def storeE (T : Tab) (s : St) (ty : TypeId) (ad v : Operand) : Option St := match s.ev ad with
  | .a _ _ => (opStore T s.heap ty (s.ev ad) (s.ev v)).bind fun H => some { n := s.n, env := s.env, heap := H }
  | _ => (demote s.heap (s.ev v)).bind fun m => (stE T m.2 ty (s.ev ad) m.1).bind fun H => some { n := s.n, env := s.env, heap := H }
/-- A place of a list. -/
def getI {α : Type} (xs : List α) (n : Int) : Option α := if 0 ≤ n then xs[n.toNat]? else none
theorem getI_inv {α : Type} {xs : List α} {n : Int} {x : α} (h : getI xs n = some x) : (0 ≤ n ∧ n < (xs.length : Int)) ∧ ∀ d, xs.getD n.toNat d = x := by
  unfold getI at h
  split at h
  · rename_i h0
    have hl := (List.getElem?_eq_some_iff.1 h).1
    exact ⟨⟨h0, by omega⟩, fun d => by rw [List.getD_eq_getElem?_getD, h]; rfl⟩
  · cases h
/-- The address of an element that is there. -/
def ixE (T : Tab) (H : Nat → Option Ob) (ty : TypeId) (x ix : AV) : Option AV :=
  (T.ti ty).bind fun ti => match ti.kind with
  | .slice e => (T.ti e).bind fun te => match ix with
    | .d (.i _ n) => match x with
      | .r k => match H k with
        | some (.row sz xs _ _ _) => if sz = te.size then (getI xs n).bind fun _ => some (.e k n.toNat 0) else none
        | _ => none
      | .d (.l sz xs) => if sz = te.size then (getI xs n).bind fun cs => some (.q cs 0) else none
      | _ => none
    | _ => none
  | .arr len e => (T.ti e).bind fun te => match ix with
    | .d (.i _ n) => match x with
      | .d (.p cs) => if te.size = 1 ∧ cs.length = len then (getI cs n).bind fun c => some (.q [c] 0) else none
      | _ => none
    | _ => none
  | _ => none
theorem ixE_ok {T : Tab} {H : Nat → Option Ob} {ty : TypeId} {x ix av : AV} (h : ixE T H ty x ix = some av) : opIndex T H ty x ix = some av := by
  unfold ixE at h
  unfold opIndex
  obtain ⟨ti, h1, h⟩ := Option.bind_eq_some_iff.1 h
  rw [h1, Option.bind_some]
  split at h
  · rename_i e hk
    simp only [hk]
    obtain ⟨te, h2, h⟩ := Option.bind_eq_some_iff.1 h
    simp only [h2, Option.bind_some]
    split at h
    case h_2 => cases h
    split at h
    · split at h
      · rename_i hr
        simp only [hr]
        split at h
        · rename_i hs
          obtain ⟨cs, h3, h⟩ := Option.bind_eq_some_iff.1 h
          rw [if_pos hs, if_pos (getI_inv h3).1]
          exact h
        · cases h
      · cases h
    · split at h
      · rename_i hs
        obtain ⟨cs, h3, h⟩ := Option.bind_eq_some_iff.1 h
        simp only [hs, if_true]
        rw [if_pos (getI_inv h3).1, (getI_inv h3).2]
        exact h
      · cases h
    · cases h
  · rename_i len e hk
    simp only [hk]
    obtain ⟨te, h2, h⟩ := Option.bind_eq_some_iff.1 h
    simp only [h2, Option.bind_some]
    split at h
    case h_2 => cases h
    split at h
    · split at h
      · rename_i hs
        obtain ⟨c, h3, h⟩ := Option.bind_eq_some_iff.1 h
        simp only [hs, and_self, if_true]
        rw [if_pos (hs.2 ▸ (getI_inv h3).1), (getI_inv h3).2]
        exact h
      · cases h
    · cases h
  · cases h
/-- A read of a row's element that is there. -/
def loadC (ti : TI) (ag : Bool) (sz : Nat) (own : Bool) (k ve i o : Nat) (cs : List D) : Option AV :=
  if o + ti.size ≤ sz then (if own = true then (mCells k ve i o ((cs.drop o).take ti.size)).map (pack ag) else some (pack ag (((cs.drop o).take ti.size).map .d))) else none
def loadE (T : Tab) (H : Nat → Option Ob) (ty : TypeId) (k i o : Nat) : Option AV :=
  (T.ti ty).bind fun ti => ti.kind.agg.bind fun ag => if ag = true ∨ ti.size = 1 then match H k with
    | some (.row sz xs dp fz ve) => (xs[i]?).bind (loadC ti ag sz (dp && !fz) k ve i o)
    | _ => none else none
def ldE (T : Tab) (H : Nat → Option Ob) (ty : TypeId) : AV → Option AV
  | .e k i o => loadE T H ty k i o
  | p => opLoad T H ty p
theorem ldE_ok {T : Tab} {H : Nat → Option Ob} {ty : TypeId} {p av : AV} (h : ldE T H ty p = some av) : opLoad T H ty p = some av := by
  unfold ldE at h
  split at h
  · rename_i k i o
    unfold loadE at h
    unfold opLoad
    obtain ⟨ti, h1, h⟩ := Option.bind_eq_some_iff.1 h
    obtain ⟨ag, h2, h⟩ := Option.bind_eq_some_iff.1 h
    rw [h1, Option.bind_some, h2, Option.bind_some]
    split at h
    · rename_i hc
      rw [if_pos hc]
      split at h
      · rename_i sz xs dp fz ve hk
        obtain ⟨cs, h3, h⟩ := Option.bind_eq_some_iff.1 h
        simp only [hk]
        have : xs.getD i [] = cs := by rw [List.getD_eq_getElem?_getD, h3]; rfl
        rw [this]
        exact h
      · cases h
    · cases h
  · exact h
def valE (A : Env) (o : Oper) (s : St) : Option St := (valOp A.T s o).bind fun y => oPut s o.dst y.1 y.2
def opE (A : Env) (o : Oper) (s : St) : Option St := match o.op with
  | .pick c x y => match s.ev c with
    | .d (.b v) => if v = true then oPut (litS s c true) o.dst (fixZ A.T o.type ((litS s c true).ev x)) s.heap else oPut (litS s c false) o.dst (fixZ A.T o.type ((litS s c false).ev y)) s.heap
    | _ => none
  | .store ty ad v => match o.dst with
    | none => storeE A.T s ty ad v
    | some _ => none
  | .call c => match c.callee with
    | .value f => match s.ev f with
      | .f fn caps => callE A s o.dst fn (zargs A.T s c.args.toList c.argTypes.toList ++ caps)
      | .d (.f fn caps) => if capsOK caps = true then callE A s o.dst fn (zargs A.T s c.args.toList c.argTypes.toList ++ caps.map .d) else none
      | _ => none
    | _ => valE A o s
  | .convert src dst x => match A.T.kd src with
    | some (.slice _) => (opB2S A.T s.heap src dst (s.ev x)).bind fun av => oPut s o.dst av s.heap
    | _ => valE A o s
  | .binOp op ty x y _ => match nilCmp A.T op ty y with
    | some neg => (borC s.heap (s.ev x)).bind fun d => match d with
      | .l _ (_ :: _) => oPut s o.dst (.d (.b neg)) s.heap
      | _ => none
    | none => valE A o s
  | .makeMap ty none => (opMkMap A.T s.heap (o.dst.getD 0) ty).bind fun y => oPut s o.dst y.1 y.2
  | .lookup ty m k ok => (opMapGet A.T s.heap ty (s.ev m) (s.ev k) ok).bind fun av => oPut s o.dst av s.heap
  | .mapUpdate ty m k x => match o.dst with
    | none => (opMapSet A.T s.heap ty (s.ev m) (s.ev k) (s.ev x)).bind fun H => some { n := s.n, env := s.env, heap := H }
    | some _ => none
  | .load ty x => (ldE A.T s.heap ty (s.ev x)).bind fun av => oPut s o.dst av s.heap
  | .indexAddr ty x i => (demote s.heap (s.ev x)).bind fun y => (ixE A.T y.2 ty y.1 (s.ev i)).bind fun av => oPut s o.dst av y.2
  | _ => valE A o s
def opG (A : Env) (ops : List Oper) (o : Oper) (s : St) : Option St := match o.guard with
  | none => opE A o s
  | some (j, want) => match dstAt ops j with
    | none => oPut s o.dst (.t []) s.heap
    | some t => match s.env t with
      | .d (.b v) => if v = true then (match want with | true => opE A o (litS s (.tmp t) true) | false => oPut (litS s (.tmp t) true) o.dst (.t []) s.heap)
          else (match want with | true => oPut (litS s (.tmp t) false) o.dst (.t []) s.heap | false => opE A o (litS s (.tmp t) false))
      | .t [] => oPut s o.dst (.t []) s.heap
      | _ => none
def opsE (A : Env) (ops : List Oper) : List Oper → St → Option St
  | [], s => some s
  | o :: os, s => (opG A ops o s).bind (opsE A ops os)

def scalO (r : D) : Option AV := if scal r = true then some (.d r) else none
def evQ (s : St) (p : Nat × Operand) : AV := s.ev p.2
def isDa : AV → Bool
  | .d _ => true
  | _ => false
/-- A datum, or a row by its name. -/
def isDr : AV → Bool
  | .d _ => true
  | .r _ => true
  | _ => false
theorem demAll_r {H : Nat → Option Ob} : ∀ {cs : List AV}, cs.all isDr = true → demAll H cs = some (cs, H)
  | [], _ => rfl
  | c :: cs, h => by
    simp only [List.all_cons, Bool.and_eq_true] at h
    have hd : demote H c = some (c, H) := by
      cases c <;> first | rfl | (simp [isDr] at h; done)
    simp only [demAll, hd, Option.bind_some, demAll_r h.2]
theorem isDr_of : ∀ {as : List AV}, as.all isDa = true → as.all isDr = true
  | [], _ => rfl
  | a :: as, h => by
    simp only [List.all_cons, Bool.and_eq_true] at h ⊢
    exact ⟨by cases a <;> first | rfl | (simp [isDa] at h; done), isDr_of h.2⟩
/-- A value operation that leaves all objects as they are. -/
def rdE (T : Tab) (s : St) (o : Oper) : Option AV := match o.op with
  | .move x => some (fixZ T o.type (s.ev x))
  | .assign x => some (fixZ T o.type (s.ev x))
  | .load ty x => ldE T s.heap ty (s.ev x)
  | .fieldAddr ty x f => opField T s.heap ty (s.ev x) f
  | .indexAddr ty x i => match s.ev x with
    | .d d => ixE T s.heap ty (.d d) (s.ev i)
    | .r k => ixE T s.heap ty (.r k) (s.ev i)
    | _ => none
  | .index ty x i => opByte T ty (s.ev x) (s.ev i)
  | .binOp op ty x y _ => opBin T op ty (s.ev x) (s.ev2 y)
  | .nilCheck x => opNilC s.heap (s.ev x)
  | .build ty parts => if (parts.toList.map (evQ s)).all isDr = true then opBuild T s.heap ty ((parts.toList.map (·.1)).zip (parts.toList.map (evQ s))) else none
  | .unOp op _ x => opUn op (s.ev x)
  | .convert src dst x => opConv T src dst (s.ev x)
  | .extract x i => opExtract (s.ev x) i
  | .slice ty x lo hi none => match s.ev x with
    | .d d => (opSlice T s.heap (o.dst.getD 0) ty (.d d) (lo.map s.ev) (hi.map s.ev)).map (·.1)
    | _ => none
  | .call c => match c.callee with
    | .builtin .len => match c.args.toList, c.argTypes.toList with
      | [x], [ty] => opLen T s.heap ty (s.ev x)
      | _, _ => none
    | .builtin .max => match c.args.toList with
      | [x, y] => opMax (s.ev x) (s.ev y)
      | _ => none
    | .builtin .min => match c.args.toList with
      | [x, y] => opMin (s.ev x) (s.ev y)
      | _ => none
    | _ => none
  | _ => none
theorem opSlice_d {T : Tab} {H : Nat → Option Ob} {dst : Nat} {ty : TypeId} {d : D} {lo hi : Option AV} {y : AV × (Nat → Option Ob)} (h : opSlice T H dst ty (.d d) lo hi = some y) : y.2 = H := by
  unfold opSlice at h
  simp only [Option.bind_eq_some_iff] at h
  obtain ⟨ti, _, h⟩ := h
  split at h
  · split at h
    · simp only [Option.bind_eq_some_iff] at h
      obtain ⟨_, _, _, _, h⟩ := h
      split at h
      · cases h; rfl
      · cases h
    · cases h
  · simp only [Option.bind_eq_some_iff] at h
    obtain ⟨te, _, h⟩ := h
    split at h
    · rename_i e; cases e
    · simp only [Option.bind_eq_some_iff] at h
      obtain ⟨_, _, _, _, h⟩ := h
      split at h
      · cases h; rfl
      · cases h
    · cases h
  · simp only [Option.bind_eq_some_iff] at h
    obtain ⟨te, _, h⟩ := h
    split at h
    · split at h
      · cases h; rfl
      · cases h
    · cases h
  · cases h
theorem rdE_ok {T : Tab} {s : St} {o : Oper} {av : AV} (h : rdE T s o = some av) : valOp T s o = some (av, s.heap) := by
  unfold rdE at h
  unfold valOp
  split at h
  · rename_i hop; cases h; simp only [hop]
  · rename_i hop; cases h; simp only [hop]
  · rename_i hop; simp only [hop, ldE_ok h, Option.map_some]
  · rename_i hop; simp only [hop, h, Option.map_some]
  · rename_i ty x i hop
    split at h
    · rename_i d e; simp only [hop, e, dem1, demote, demote1, Option.bind_some, ixE_ok h, Option.map_some]
    · rename_i k e; simp only [hop, e, dem1, demote, demote1, Option.bind_some, ixE_ok h, Option.map_some]
    · cases h
  · rename_i hop; simp only [hop, h, Option.map_some]
  · rename_i hop; simp only [hop, h, Option.map_some]
  · rename_i hop; simp only [hop, h, Option.map_some]
  · rename_i ty parts hop
    split at h
    · rename_i hd
      have e : (parts.toList.map fun p => s.ev p.2) = parts.toList.map (evQ s) := rfl
      simp only [hop, e, demAll_r hd, Option.bind_some, h, Option.map_some]
    · cases h
  · rename_i hop; simp only [hop, h, Option.map_some]
  · rename_i hop; simp only [hop, h, Option.map_some]
  · rename_i hop; simp only [hop, h, Option.map_some]
  · rename_i ty x lo hi hop
    split at h
    · rename_i d e
      simp only [Option.map_eq_some_iff] at h
      obtain ⟨y, h1, rfl⟩ := h
      simp only [hop, e, dem1, demote, demote1, Option.bind_some, h1]
      rw [← opSlice_d h1]
    · cases h
  · rename_i c hop
    simp only [hop]
    unfold callB
    split at h
    · rename_i e
      split at h
      · rename_i x ty e1 e2
        simp only [e, e1, e2, h, Option.map_some]
      · cases h
    · rename_i e
      split at h
      · rename_i x y e1
        simp only [e, e1, h, Option.map_some]
      · cases h
    · rename_i e
      split at h
      · rename_i x y e1
        simp only [e, e1, h, Option.map_some]
      · cases h
    · cases h
  · cases h
def shaO (r : D) : Option AV := some (retAV r ((partsD r).map .d))
def qE (A : Env) (o : Oper) (s : St) : Option AV := match o.op with
  | .pick c x y => match s.ev c with
    | .d (.b v) => if v = true then some (fixZ A.T o.type ((litS s c true).ev x)) else some (fixZ A.T o.type ((litS s c false).ev y))
    | _ => none
  | .store _ _ _ => none
  | .makeMap _ none => none
  | .mapUpdate _ _ _ _ => none
  | .call c => match c.callee with
    | .value f => match s.ev f with
      | .f fn caps => match A.S fn with
        | some (.own F) => (borLE s.heap (zargs A.T s c.args.toList c.argTypes.toList ++ caps)).bind fun ds => (F ds).bind scalO
        | some (.shared F) => if ((zargs A.T s c.args.toList c.argTypes.toList ++ caps).flatMap (keyA s.heap)).isEmpty = true then (borLE s.heap (zargs A.T s c.args.toList c.argTypes.toList ++ caps)).bind fun ds => (F ds).bind shaO else none
        | _ => none
      | _ => none
    | _ => rdE A.T s o
  | .convert src dst x => match A.T.kd src with
    | some (.slice _) => opB2S A.T s.heap src dst (s.ev x)
    | _ => rdE A.T s o
  | .binOp op ty x y _ => match nilCmp A.T op ty y with
    | some _ => none
    | none => rdE A.T s o
  | .lookup ty m k ok => opMapGet A.T s.heap ty (s.ev m) (s.ev k) ok
  | _ => rdE A.T s o
def qGE (A : Env) (ops : List Oper) (o : Oper) (s : St) : Option AV := match o.guard with
  | none => qE A o s
  | some (j, want) => match dstAt ops j with
    | none => some (.t [])
    | some t => match s.env t with
      | .d (.b v) => if v = true then (match want with | true => qE A o (litS s (.tmp t) true) | false => some (.t []))
          else (match want with | true => some (.t []) | false => qE A o (litS s (.tmp t) false))
      | .t [] => some (.t [])
      | _ => none
def qsE (A : Env) (ops : List Oper) : List Oper → St → Option St
  | [], s => some s
  | o :: os, s => match o.dst with
    | some d => if d < s.n then (qGE A ops o s).bind fun av => qsE A ops os { n := s.n, env := upd s.env d av, heap := s.heap } else none
    | none => none
end Go.Fs
namespace Go.Fs
open Go.RowKit

theorem bind_inv {α β : Type} {o : Option α} {f : α → Option β} {b : β} (h : o.bind f = some b) : ∃ a, o = some a ∧ f a = some b := Option.bind_eq_some_iff.1 h
theorem oPut_ok {s : St} {dst : Option Nat} {av : AV} {H : Nat → Option Ob} {s' : St} {K : St → Prop} (h : oPut s dst av H = some s') (hk : K s') : putK s dst av H K := by
  unfold oPut at h
  unfold putK
  split at h
  · split at h
    · cases h; exact ⟨by assumption, hk⟩
    · cases h
  · cases h; exact hk
theorem ite_inv {α : Type} {c : Prop} [Decidable c] {x : Option α} {a : α} (h : (if c then x else none) = some a) : c ∧ x = some a := by
  split at h
  · exact ⟨by assumption, h⟩
  · cases h
theorem callE_ok {A : Env} {s : St} {dst : Option Nat} {f : FuncId} {args : List AV} {s' : St} {K : St → Prop} (h : callE A s dst f args = some s') (hk : K s') : callW A s dst f args K := by
  unfold callE at h
  unfold callW
  split at h
  · cases h
  · rename_i F e
    obtain ⟨ds, h1, h⟩ := bind_inv h
    have h1 := borLE_ok h1
    obtain ⟨r, h2, h⟩ := bind_inv h
    obtain ⟨h3, h⟩ := ite_inv h
    simp only [e, h1, OkO, thenF, h2]
    exact ⟨h3, oPut_ok h hk⟩
  · rename_i F e
    obtain ⟨H1, h1, h⟩ := bind_inv h
    obtain ⟨h2, h⟩ := ite_inv h
    obtain ⟨ds, h3, h⟩ := bind_inv h
    obtain ⟨r, h4, h⟩ := bind_inv h
    simp only [e, h1, OkO]
    exact ⟨h2, by simp only [h3, OkO, thenF, h4]; exact oPut_ok h hk⟩
  · rename_i F e
    simp only [e]
    split at h
    · cases h
    · rename_i k ve i o rest
      split at h
      case h_2 => cases h
      rename_i sz xs ve' e2
      obtain ⟨h1, h⟩ := ite_inv h
      obtain ⟨cs, h8, h⟩ := bind_inv h
      obtain ⟨x, h9, h⟩ := bind_inv h
      obtain ⟨ds, h2, h⟩ := bind_inv h
      obtain ⟨r, h3, h⟩ := bind_inv h
      obtain ⟨h4, h⟩ := ite_inv h
      obtain ⟨h5, h⟩ := ite_inv h
      have e5 : xs.getD i [] = cs := by rw [List.getD_eq_getElem?_getD, h8]; rfl
      have e6 : cs.getD o .u = x := by rw [List.getD_eq_getElem?_getD, h9]; rfl
      have hi : i < xs.length := (List.getElem?_eq_some_iff.1 h8).1
      simp only [e2]
      rw [e5, e6]
      refine ⟨⟨h1.1, hi, h1.2⟩, by simp only [h2, OkO, thenF, h3]; exact ⟨h4, h5, oPut_ok (by unfold setCell; rw [e5]; exact h) hk⟩⟩
    · rename_i io rest hne
      obtain ⟨x, h1, h⟩ := bind_inv h
      obtain ⟨ds, h2, h⟩ := bind_inv h
      obtain ⟨r, h3, h⟩ := bind_inv h
      obtain ⟨h4, h⟩ := ite_inv h
      obtain ⟨h5, h⟩ := ite_inv h
      obtain ⟨os, h6, h⟩ := bind_inv h
      obtain ⟨h7, h⟩ := ite_inv h
      have : OkO (ioCs s.heap (cellsA io)) (ioK s dst F io rest K) := by
        simp only [h1, OkO, ioK, h2, thenF, h3]
        exact ⟨h4, h5, by simp only [h6, OkO]; exact ⟨h7, oPut_ok h hk⟩⟩
      split
      · cases ‹_ :: _ = []›
      · rename_i e3
        cases e3
        exact (hne _ _ _ _ rfl).elim
      · rename_i e3
        cases e3
        exact this
  · rename_i F e
    obtain ⟨y, h1, h⟩ := bind_inv h
    simp only [e, h1, OkO]
    exact oPut_ok h hk
  · rename_i F e
    obtain ⟨y, h1, h⟩ := bind_inv h
    simp only [e, h1, OkO]
    exact oPut_ok h hk
  · rename_i F e
    obtain ⟨y, h1, h⟩ := bind_inv h
    simp only [e, h1, OkO]
    exact oPut_ok h hk
theorem valE_ok {A : Env} {o : Oper} {s s' : St} {K : St → Prop} (h : valE A o s = some s') (hk : K s') : valW A o s K := by
  obtain ⟨y, h1, h⟩ := bind_inv h
  simp only [valW, h1, OkO, valK]
  exact oPut_ok h hk
theorem opE_ok {A : Env} {o : Oper} {s s' : St} {K : St → Prop} (h : opE A o s = some s') (hk : K s') : awpOp A o s K := by
  unfold opE at h
  unfold awpOp
  split at h
  · rename_i hop
    simp only [hop]
    split at h
    · rename_i e
      simp only [e]
      split at h
      · rename_i e2; subst e2; exact oPut_ok h hk
      · rename_i e2; simp only [Bool.not_eq_true] at e2; subst e2; exact oPut_ok h hk
    · cases h
  · rename_i hop
    simp only [hop]
    split at h
    · rename_i e
      simp only [e]
      unfold storeE at h
      unfold storeW
      split at h
      · rename_i e2
        obtain ⟨H, h1, h⟩ := bind_inv h
        cases h
        simp only [e2] at h1 ⊢
        simp only [h1, OkO, heapK]
        exact hk
      · rename_i hne
        obtain ⟨m, h1, h⟩ := bind_inv h
        obtain ⟨H, h2, h⟩ := bind_inv h
        cases h
        split
        · rename_i e2; exact absurd e2 (hne _ _)
        · simp only [h1, OkO, storeK, stE_ok h2, heapK]; exact hk
    · cases h
  · rename_i hop
    simp only [hop]
    split at h
    · rename_i f e
      simp only [e]
      split at h
      · rename_i e2; simp only [e2]; exact callE_ok h hk
      · rename_i e2; simp only [e2]; obtain ⟨h1, h⟩ := ite_inv h; exact ⟨h1, callE_ok h hk⟩
      · cases h
    · rename_i hne
      split
      · rename_i e; exact absurd e (hne _)
      · exact valE_ok h hk
  · rename_i hop
    simp only [hop]
    split at h
    · rename_i e
      obtain ⟨av, h1, h⟩ := bind_inv h
      simp only [e, h1, OkO, putH]
      exact oPut_ok h hk
    · rename_i hne
      split
      · rename_i e; exact absurd e (hne _)
      · exact valE_ok h hk
  · rename_i hop
    simp only [hop]
    split at h
    · rename_i e
      obtain ⟨d, h1, h⟩ := bind_inv h
      split at h
      · simp only [e, h1, OkO, nilK]
        intro b hb
        cases b with
        | true => cases hb rfl
        | false =>
          refine oPut_ok (s' := s') ?_ hk
          rw [← h]
          cases ‹Bool› <;> rfl
      · cases h
    · rename_i e
      simp only [e]
      exact valE_ok h hk
  · rename_i hop
    simp only [hop]
    obtain ⟨y, h1, h⟩ := bind_inv h
    simp only [h1, OkO, valK]
    exact oPut_ok h hk
  · rename_i hop
    simp only [hop]
    obtain ⟨av, h1, h⟩ := bind_inv h
    simp only [h1, OkO, putH]
    exact oPut_ok h hk
  · rename_i hop
    simp only [hop]
    split at h
    · rename_i e
      obtain ⟨H, h1, h⟩ := bind_inv h
      cases h
      simp only [e, h1, OkO, heapK]
      exact hk
    · cases h
  · rename_i hop
    simp only [hop]
    obtain ⟨av, h1, h⟩ := bind_inv h
    simp only [valW, valOp, hop, ldE_ok h1, Option.map_some, OkO, valK]
    exact oPut_ok h hk
  · rename_i hop
    simp only [hop]
    obtain ⟨y, h0, h⟩ := bind_inv h
    obtain ⟨av, h1, h⟩ := bind_inv h
    simp only [valW, valOp, hop, dem1, h0, Option.bind_some, ixE_ok h1, Option.map_some, OkO, valK]
    exact oPut_ok h hk
  · split
    all_goals first
      | exact valE_ok h hk
      | (exfalso; simp_all; done)
      | (exfalso; simp_all; grind)
theorem opG_ok {A : Env} {ops : List Oper} {o : Oper} {s s' : St} {K : St → Prop} (h : opG A ops o s = some s') (hk : K s') : awpG A ops o s K := by
  unfold opG at h
  unfold awpG
  split at h
  · rename_i e; simp only [e]; exact opE_ok h hk
  · rename_i j want e
    simp only [e]
    split at h
    · rename_i e2; simp only [e2]; exact oPut_ok h hk
    · rename_i t e2
      simp only [e2]
      split at h
      · rename_i v e3
        simp only [e3]
        split at h
        · rename_i e4
          subst e4
          cases want with
          | true => exact opE_ok h hk
          | false => exact oPut_ok h hk
        · rename_i e4
          simp only [Bool.not_eq_true] at e4
          subst e4
          cases want with
          | true => exact oPut_ok h hk
          | false => exact opE_ok h hk
      · rename_i e3; simp only [e3]; exact oPut_ok h hk
      · cases h
theorem opsE_ok {A : Env} {ops : List Oper} {K : St → Prop} : ∀ {os : List Oper} {s s' : St}, opsE A ops os s = some s' → K s' → awpOps A ops K os s
  | [], s, s', h, hk => by cases h; exact hk
  | o :: os, s, s', h, hk => by
    obtain ⟨s1, h1, h⟩ := bind_inv h
    exact opG_ok h1 (opsE_ok h hk)
theorem scalO_inv {r : D} {av : AV} (h : scalO r = some av) : scal r = true ∧ av = .d r := by
  unfold scalO at h
  obtain ⟨h1, h⟩ := ite_inv h
  cases h
  exact ⟨h1, rfl⟩
theorem qE_ok {A : Env} {o : Oper} {s : St} {av : AV} {K : AV → Prop} (h : qE A o s = some av) (hk : K av) : qOp A o s K := by
  have val : rdE A.T s o = some av → OkO (valOp A.T s o) (qK s.heap K) := fun h => by
    rw [rdE_ok h]
    exact ⟨rfl, hk⟩
  unfold qE at h
  unfold qOp
  split at h
  · rename_i hop
    simp only [hop]
    split at h
    · rename_i e
      simp only [e]
      split at h
      · rename_i e2; subst e2; cases h; exact hk
      · rename_i e2; simp only [Bool.not_eq_true] at e2; subst e2; cases h; exact hk
    · cases h
  · cases h
  · cases h
  · cases h
  · rename_i hop
    simp only [hop]
    split at h
    · rename_i f e
      simp only [e]
      split at h
      · rename_i e2
        split at h
        · rename_i e3
          obtain ⟨ds, h1, h⟩ := bind_inv h
          have h1 := borLE_ok h1
          obtain ⟨r, h2, h⟩ := bind_inv h
          obtain ⟨h3, rfl⟩ := scalO_inv h
          simp only [e2, e3, h1, OkO, thenF, h2, qD]
          exact ⟨h3, hk⟩
        · rename_i e3
          obtain ⟨h0, h⟩ := ite_inv h
          rw [List.isEmpty_iff] at h0
          obtain ⟨ds, h1, h⟩ := bind_inv h
          have h1 := borLE_ok h1
          obtain ⟨r, h2, h⟩ := bind_inv h
          cases h
          simp only [e2, e3, h0, h1, OkO, thenF, h2, qS]
          exact ⟨trivial, hk⟩
        · cases h
      · cases h
    · rename_i hne
      split
      · rename_i e; exact absurd e (hne _)
      · exact val h
  · rename_i hop
    simp only [hop]
    split at h
    · rename_i e
      simp only [e, h, OkO]
      exact hk
    · rename_i hne
      split
      · rename_i e; exact absurd e (hne _)
      · exact val h
  · rename_i hop
    simp only [hop]
    split at h
    · cases h
    · rename_i e
      simp only [e]
      exact val h
  · rename_i hop
    simp only [hop, h, OkO]
    exact hk
  · split
    all_goals first
      | exact val h
      | (exfalso; simp_all; done)
      | (exfalso; simp_all; grind)
theorem qGE_ok {A : Env} {ops : List Oper} {o : Oper} {s : St} {av : AV} {K : AV → Prop} (h : qGE A ops o s = some av) (hk : K av) : qG A ops o s K := by
  unfold qGE at h
  unfold qG
  split at h
  · rename_i e; simp only [e]; exact qE_ok h hk
  · rename_i j want e
    simp only [e]
    split at h
    · rename_i e2; simp only [e2]; cases h; exact hk
    · rename_i t e2
      simp only [e2]
      split at h
      · rename_i v e3
        simp only [e3]
        split at h
        · rename_i e4
          subst e4
          cases want with
          | true => exact qE_ok h hk
          | false => cases h; exact hk
        · rename_i e4
          simp only [Bool.not_eq_true] at e4
          subst e4
          cases want with
          | true => cases h; exact hk
          | false => exact qE_ok h hk
      · rename_i e3; simp only [e3]; cases h; exact hk
      · cases h
theorem qsE_ok {A : Env} {ops : List Oper} {K : St → Prop} : ∀ {os : List Oper} {s s' : St}, qsE A ops os s = some s' → K s' → awpQs A ops K os s
  | [], s, s', h, hk => by cases h; exact hk
  | o :: os, s, s', h, hk => by
    unfold qsE at h
    unfold awpQs
    split at h
    · rename_i d e
      obtain ⟨h1, h⟩ := ite_inv h
      obtain ⟨av, h2, h⟩ := bind_inv h
      simp only [e]
      exact ⟨h1, qGE_ok h2 (qsE_ok h hk)⟩
    · cases h
theorem qsE_ops {A : Env} {ops : List Oper} {K : St → Prop} : ∀ {os : List Oper} {s s' : St}, qsE A ops os s = some s' → K s' → awpOps A ops K os s
  | [], s, s', h, hk => by cases h; exact hk
  | o :: os, s, s', h, hk => by
    unfold qsE at h
    split at h
    · rename_i d e
      obtain ⟨h1, h⟩ := ite_inv h
      obtain ⟨av, h2, h⟩ := bind_inv h
      exact qG_awp e h1 (qGE_ok h2 (qsE_ops h hk))
    · cases h
/-- Where such a region writes. -/
def dstsOf (os : List Oper) : List Nat := os.filterMap (·.dst)
theorem qsE_frame {A : Env} {ops : List Oper} : ∀ {os : List Oper} {s s' : St}, qsE A ops os s = some s' → s'.n = s.n ∧ s'.heap = s.heap ∧ ∀ t, t ∉ dstsOf os → s'.env t = s.env t
  | [], s, s', h => by cases h; exact ⟨rfl, rfl, fun _ _ => rfl⟩
  | o :: os, s, s', h => by
    unfold qsE at h
    split at h
    · rename_i d e
      obtain ⟨h1, h⟩ := ite_inv h
      obtain ⟨av, h2, h⟩ := bind_inv h
      obtain ⟨e1, e2, e3⟩ := qsE_frame h
      refine ⟨e1, e2, fun t ht => ?_⟩
      simp only [dstsOf, List.filterMap_cons, e, List.mem_cons, not_or] at ht
      rw [e3 t ht.2]
      exact if_neg ht.1
    · cases h
end Go.Fs
namespace Go.Fs
open Go.RowKit

def zc1 (s : St) (x : Nat × Nat × Nat) : St := match s.heap x.1 with
  | some (.box cs) => match cs[x.2.1]? with
    | some (.z sz) => match s.heap x.2.2 with
      | none => { s with heap := upd (upd s.heap x.2.2 (some (.row sz [] true false 0))) x.1 (some (.box (cs.set x.2.1 (.r x.2.2)))) }
      | some _ => s
    | _ => s
  | _ => s
theorem sem_zc1 {aa : AV} (s : St) (x : Nat × Nat × Nat) : Sem aa s (zc1 s x) := by
  obtain ⟨j, c, k⟩ := x
  unfold zc1
  split
  · rename_i cs e1
    split
    · rename_i sz e2
      split
      · rename_i e3; exact sem_nil j c k sz e1 e2 e3
      · exact Sem.refl _ _
    · exact Sem.refl _ _
  · exact Sem.refl _ _
def zcL (s : St) (L : List (Nat × Nat × Nat)) : St := L.foldl zc1 s
theorem sem_zcL {aa : AV} : ∀ (L : List (Nat × Nat × Nat)) (s : St), Sem aa s (zcL s L)
  | [], s => Sem.refl _ _
  | x :: L, s => (sem_zc1 s x).trans (sem_zcL L _)
/-- A slot that holds a list of nothing holds a row of nothing. -/
def zs1 (s : St) (t : Nat) : St := match s.env t with
  | .z sz => match s.heap (600000 + t) with
    | none => { s with env := upd s.env t (.r (600000 + t)), heap := upd s.heap (600000 + t) (some (.row sz [] true false 0)) }
    | some _ => s
  | _ => s
theorem RelG.newRow {B : Ctx} {G : Nat → GI} {s : St} {a : Act} {w : World} (h : RelG B G s a w) {k sz : Nat} (hn : s.heap k = none) :
    RelG B (upd G k ⟨0, 0, 0, [], []⟩) { s with heap := upd s.heap k (some (.row sz [] true false 0)) } a w ∧
    ∀ {v : Value} {av : AV}, AVR w G s.heap (Ban B.F G s.heap) v av → AVR w (upd G k ⟨0, 0, 0, [], []⟩) (upd s.heap k (some (.row sz [] true false 0))) (Ban B.F (upd G k ⟨0, 0, 0, [], []⟩) (upd s.heap k (some (.row sz [] true false 0)))) v av := by
  have ho : ∀ i b, b ∈ ownOf (upd G k ⟨0, 0, 0, [], []⟩ i) (upd s.heap k (some (.row sz [] true false 0)) i) → b ∈ ownOf (G i) (s.heap i) := by
    intro i b hb
    by_cases e : i = k
    · subst e
      simp [upd, ownOf] at hb
    · simpa [upd, e] using hb
  have hA : ∀ b, Ban B.F (upd G k ⟨0, 0, 0, [], []⟩) (upd s.heap k (some (.row sz [] true false 0))) b → Ban B.F G s.heap b := by
    rintro b (⟨i, hb⟩ | hb)
    · exact .inl ⟨i, ho i b hb⟩
    · exact .inr hb
  have hH : ∀ i o, s.heap i = some o → ∃ o', upd s.heap k (some (.row sz [] true false 0)) i = some o' ∧ Ob.to (G i) (upd G k ⟨0, 0, 0, [], []⟩ i) o o' := by
    intro i o hi
    have e : i ≠ k := fun e => by rw [e, hn] at hi; cases hi
    exact ⟨o, by simp [upd, e, hi], by simp [upd, e]; exact Ob.to.refl _ _⟩
  have mono : ∀ {v : Value} {av : AV}, AVR w G s.heap (Ban B.F G s.heap) v av → AVR w (upd G k ⟨0, 0, 0, [], []⟩) (upd s.heap k (some (.row sz [] true false 0))) (Ban B.F (upd G k ⟨0, 0, 0, [], []⟩) (upd s.heap k (some (.row sz [] true false 0)))) v av :=
    (AVR.mono_both (fun b _ _ => rfl) (fun b _ hb => hA b hb) hH).1
  refine ⟨⟨?_, fun t => mono (h.env t), h.size, h.defers, ?_, ?_, ?_, h.rest, h.below, h.ban, h.base, mono h.anc⟩, mono⟩
  · intro i o hi
    by_cases e : i = k
    · subst e
      simp only [upd, if_true] at hi
      cases hi
      simp only [upd, if_true]
      exact RowR.mkVoid w _ 0 0 sz true false
    · simp only [upd, e, if_false] at hi
      simp only [upd, e, if_false]
      exact (h.obj i o hi).mono (fun b _ _ => rfl) (fun b _ hb => hA b hb) hH fun b hb => rfl
  · intro i
    by_cases e : i = k
    · subst e; simp [upd, ownOf]
    · simpa [upd, e] using h.nodup i
  · intro i j b hi hj
    exact h.disj i j b (ho i b hi) (ho j b hj)
  · intro i b hb
    exact h.ge i b (ho i b hb)
theorem sem_zs1 {aa : AV} (s : St) (t : Nat) : Sem aa s (zs1 s t) := by
  unfold zs1
  split
  · rename_i sz e
    split
    · rename_i e2
      intro B G a w hB h
      obtain ⟨h1, hm⟩ := h.newRow (sz := sz) e2
      refine ⟨upd G (600000 + t) ⟨0, 0, 0, [], []⟩, ⟨h1.obj, fun i => ?_, h1.size, h1.defers, h1.nodup, h1.disj, h1.ge, h1.rest, h1.below, h1.ban, h1.base, h1.anc⟩⟩
      by_cases ei : i = t
      · subst ei
        simp only [upd, if_true]
        have hv := h.env i
        rw [e] at hv
        generalize a.tmps.getD i undef = v at hv
        cases hv
        have h2 := AVR.r (w := w) (G := upd G (600000 + i) ⟨0, 0, 0, [], []⟩) (H := upd s.heap (600000 + i) (some (.row sz [] true false 0))) (Av := Ban B.F (upd G (600000 + i) ⟨0, 0, 0, [], []⟩) (upd s.heap (600000 + i) (some (.row sz [] true false 0))))
          (600000 + i) sz [] true false 0 none (by simp [upd]) (by simp [upd])
        simpa [upd] using h2
      · simp only [upd, ei, if_false]
        exact hm (h.env i)
    · exact Sem.refl _ _
  · exact Sem.refl _ _
def zsL (s : St) (L : List Nat) : St := L.foldl zs1 s
theorem sem_zsL {aa : AV} : ∀ (L : List Nat) (s : St), Sem aa s (zsL s L)
  | [], s => Sem.refl _ _
  | x :: L, s => (sem_zs1 s x).trans (sem_zsL L _)

def noMc : AV → Bool
  | .d _ | .z _ | .r _ | .a _ _ | .e _ _ _ | .q _ _ | .mp _ | .x => true
  | _ => false
def noM : AV → Bool
  | .g cs => cs.all noMc
  | av => noMc av
def ve0 (H : Nat → Option Ob) : Nat → Option Ob := fun k => match H k with
  | some (.row sz xs dp fz _) => some (.row sz xs dp fz 0)
  | o => o
def ve0S (s : St) : St := { n := s.n, env := s.env, heap := ve0 s.heap }
theorem ve0_row {H : Nat → Option Ob} {k sz : Nat} {xs : List (List D)} {dp fz : Bool} {ve : Nat} (h : H k = some (.row sz xs dp fz ve)) : ve0 H k = some (.row sz xs dp fz 0) := by simp [ve0, h]
theorem ve0_own (H : Nat → Option Ob) (g : GI) (k : Nat) : ownOf g (ve0 H k) = ownOf g (H k) := by
  unfold ve0
  split
  · rename_i sz xs dp fz ve e
    rw [e]
    cases fz <;> rfl
  · rfl
theorem ve0_ban {F : Nat → Prop} {G : Nat → GI} {H : Nat → Option Ob} : Ban F G (ve0 H) = Ban F G H := by
  funext b
  simp only [Ban, Own, ve0_own]
theorem avr_ve0c {w : World} {G : Nat → GI} {H : Nat → Option Ob} {Av : Nat → Prop} {v : Value} {av : AV} (h : AVR w G H Av v av) (hm : noMc av = true) : AVR w G (ve0 H) Av v av := by
  cases h with
  | d v x S h1 h hS => exact .d v x S h1 h hS
  | z sz => exact .z sz
  | r k sz xs dp fz ve a hk ha => exact .r k sz xs dp fz 0 a (ve0_row hk) ha
  | rd k v hk => exact .rd k v (by simp [ve0, hk])
  | a k o cs hk => exact .a k o cs (by simp [ve0, hk])
  | ad k o v hk => exact .ad k o v (by simp [ve0, hk])
  | e k i o sz xs dp fz ve hk hi => exact .e k i o sz xs dp fz 0 (ve0_row hk) hi
  | ed k i o v hk => exact .ed k i o v (by simp [ve0, hk])
  | q g base o cur el fr vs cs S hg hv h1 h hb hS => exact .q g base o cur el fr vs cs S hg hv h1 h hb hS
  | mp k kv hk => exact .mp k kv (by simp [ve0, hk])
  | mpd k v hk => exact .mpd k v (by simp [ve0, hk])
  | bp k s hk => exact .bp k s (by simp [ve0, hk])
  | bpd k v hk => exact .bpd k v (by simp [ve0, hk])
  | x v => exact .x v
  | _ => cases hm
theorem avrl_ve0 {w : World} {G : Nat → GI} {H : Nat → Option Ob} {Av : Nat → Prop} : ∀ {vs : List Value} {as : List AV}, AVRL w G H Av vs as → as.all noMc = true → AVRL w G (ve0 H) Av vs as
  | _, _, .nil, _ => .nil
  | _, _, .cons v av vs as h hs, hm => by
    simp only [List.all_cons, Bool.and_eq_true] at hm
    exact .cons v av vs as (avr_ve0c h hm.1) (avrl_ve0 hs hm.2)
theorem avr_ve0 {w : World} {G : Nat → GI} {H : Nat → Option Ob} {Av : Nat → Prop} {v : Value} {av : AV} (h : AVR w G H Av v av) (hm : noM av = true) : AVR w G (ve0 H) Av v av := by
  cases av with
  | g as =>
    cases h with
    | g cs _ h => exact .g cs as (avrl_ve0 h hm)
  | _ => exact avr_ve0c h hm
def noMo : Option Ob → Bool
  | some (.box cs) => cs.all noMc
  | _ => true
theorem sem_ve0 {aa : AV} {s : St} (h1 : ∀ t, noM (s.env t) = true) (h2 : ∀ k, noMo (s.heap k) = true) (h3 : noM aa = true) : Sem aa s (ve0S s) := by
  intro B G a w hB h
  refine ⟨G, ⟨?_, ?_, h.size, h.defers, ?_, ?_, ?_, h.rest, h.below, h.ban, h.base, ?_⟩⟩
  · intro k o hk
    show ObR w G (ve0 s.heap) (Ban B.F G (ve0 s.heap)) (G k) o
    rw [ve0_ban]
    have hk : ve0 s.heap k = some o := hk
    unfold ve0 at hk
    cases e : s.heap k with
    | none => rw [e] at hk; cases hk
    | some o' =>
      have hb := h2 k
      rw [e] at hb
      have ho := h.obj k o' e
      cases o' with
      | row sz xs dp fz ve => rw [e] at hk; cases hk; exact ho
      | box cs =>
        rw [e] at hk; cases hk
        obtain ⟨cur, el, hg, hr, ho1⟩ := ho
        exact ⟨⟨cur, el, hg, avrl_ve0 hr hb, ho1⟩⟩
      | map kv => rw [e] at hk; cases hk; exact ho
      | bld s => rw [e] at hk; cases hk; exact ho
      | dead => rw [e] at hk; cases hk; exact ho
  · intro t
    show AVR w G (ve0 s.heap) (Ban B.F G (ve0 s.heap)) _ _
    rw [ve0_ban]
    exact avr_ve0 (h.env t) (h1 t)
  · intro k; show (ownOf (G k) (ve0 s.heap k)).Nodup; rw [ve0_own]; exact h.nodup k
  · intro k k' b hk hk'
    have hk : b ∈ ownOf (G k) (ve0 s.heap k) := hk
    have hk' : b ∈ ownOf (G k') (ve0 s.heap k') := hk'
    rw [ve0_own] at hk hk'
    exact h.disj k k' b hk hk'
  · intro k b hk
    have hk : b ∈ ownOf (G k) (ve0 s.heap k) := hk
    rw [ve0_own] at hk
    exact h.ge k b hk
  · show AVR w G (ve0 s.heap) (Ban B.F G (ve0 s.heap)) _ _
    rw [ve0_ban]
    exact avr_ve0 h.anc (by rw [hB]; exact h3)

def zcells (j base : Nat) : Nat → List AV → List (Nat × Nat × Nat)
  | _, [] => []
  | c, .z _ :: cs => (j, c, base + c) :: zcells j base (c + 1) cs
  | c, _ :: cs => zcells j base (c + 1) cs
def zboxes (H : Nat → Option Ob) : Nat → List Nat → List (Nat × Nat × Nat)
  | _, [] => []
  | i, k :: ks => (match H k with | some (.box cs) => zcells k (610000 + 100 * i) 0 cs | _ => []) ++ zboxes H (i + 1) ks
def rnd2 (aa : AV) (live : List Nat) (s : St) : Option St :=
  if renOK (canon aa live s) = true ∧ fixAA (canon aa live s) aa = true then
    if noM aa = true ∧ (live.all fun t => noM (mapA (canon aa live s) (s.env t))) = true ∧ ((canon aa live s).all fun x => noMo (obM (canon aa live s) (s.heap x.1))) = true then some (ve0S (wkS live (canon aa live s) s))
    else some (wkS live (canon aa live s) s) else none
def rnd1 (aa : AV) (live : List Nat) (s : St) : St := zcL s (zboxes s.heap 0 ((canon aa live s).map (·.1)))
def rnd (aa : AV) (live : List Nat) (s : St) : Option St := rnd2 aa live (rnd1 aa live (zsL s live))
theorem sem_rnd2 {aa : AV} {live : List Nat} {s s' : St} (h : rnd2 aa live s = some s') : Sem aa s s' := by
  unfold rnd2 at h
  obtain ⟨⟨h1, h2⟩, h⟩ := ite_inv h
  split at h
  · rename_i hm
    obtain ⟨m1, m2, m3⟩ := hm
    cases h
    refine (sem_wk live h1 h2).trans (sem_ve0 (fun t => ?_) (fun k => ?_) m1)
    · rw [wkS_eq]
      show noM (if live.contains t then mapA (canon aa live s) (s.env t) else .x) = true
      split
      · rename_i ht
        exact List.all_eq_true.1 m2 t (by simpa using ht)
      · rfl
    · rw [wkS_eq]
      show noMo (wkH (canon aa live s) s.heap k) = true
      unfold wkH
      split
      · rename_i k0 e
        have hmem : (k0, k) ∈ canon aa live s := by
          have := lookup_mem e
          simp at this
          obtain ⟨a, b, h, rfl, rfl⟩ := this
          exact h
        have := List.all_eq_true.1 m3 _ hmem
        cases e2 : s.heap k0 with
        | none => rfl
        | some o => rw [e2] at this; exact this
      · rfl
  · cases h
    exact sem_wk live h1 h2
theorem sem_rnd {aa : AV} {live : List Nat} {s s' : St} (h : rnd aa live s = some s') : Sem aa s s' :=
  ((sem_zsL live s).trans (sem_zcL _ _)).trans (sem_rnd2 h)
end Go.Fs
namespace Go.Fs
open Go.RowKit

def frE (A : Env) (o : Oper) (s : St) : Option St := match o.op with
  | .alloc ty => (opAlloc A.T s.heap (o.dst.getD 0) ty).bind fun y => oPut s o.dst y.1 y.2
  | .box _ x => if noM (s.ev x) = true then (opBox s.heap (o.dst.getD 0) (s.ev x)).bind fun y => oPut s o.dst y.1 y.2 else none
  | .build ty parts => if (parts.toList.all fun p => noM (s.ev p.2)) = true then (opBuild A.T s.heap ty ((parts.toList.map (·.1)).zip (parts.toList.map fun p => s.ev p.2))).bind fun av => oPut s o.dst av s.heap else none
  | .unOp op _ x => (opUn op (s.ev x)).bind fun av => oPut s o.dst av s.heap
  | .call c => match c.callee with
    | .value f => match s.ev f with
      | .f fn caps => match A.S fn with
        | some (.own F) => (borLE s.heap (zargs A.T s c.args.toList c.argTypes.toList ++ caps)).bind fun ds => (F ds).bind (ownE s o.dst)
        | _ => none
      | _ => none
    | _ => none
  | _ => none
def flB (ops : Array Oper) (i : Nat) : Nat := match ops.toList[i]? with
  | some o => if rdB o = true then 1 else if frB o = true then 2 else 0
  | none => 0
def xE (A : Env) (ops : Array Oper) (i : Nat) (o : Oper) (s : St) : Option St := match flB ops i with
  | 0 => opG A ops.toList o s
  | 1 => (rdE A.T s o).bind fun av => oPut s o.dst av s.heap
  | _ => frE A o s
def xsE (A : Env) (ops : Array Oper) : List Nat → St → Option St
  | [], s => some s
  | i :: is, s => match ops.toList[i]? with
    | some o => (xE A ops i o s).bind (xsE A ops is)
    | none => none

/-- A region that asks something in parts: one truth comes out of it. -/
def gdB (ops : List Oper) : Bool := ops.any fun o => o.guard.isSome
def lastD (T : Tab) : List Oper → Option Nat
  | [] => none
  | [o] => match T.kd o.type with
    | some .bool => o.dst
    | _ => none
  | _ :: os => lastD T os
def asB : AV → Option Bool
  | .d (.b v) => some v
  | _ => none
def forget (ts : List Nat) (f : Nat → AV) : Nat → AV := ts.foldr (fun t f => upd f t .x) f
def gdE (A : Env) (ops os : List Oper) (t : Nat) (s : St) : Option Bool := (qsE A ops os s).bind fun s' => asB (s'.env t)
def gdS (os : List Oper) (t : Nat) (s : St) (v : Bool) : St := { n := s.n, env := upd (forget (dstsOf os) s.env) t (.d (.b v)), heap := s.heap }
/-- Parts, each of which ends where a truth is known. -/
def cutB (T : Tab) (o : Oper) : Bool := o.guard.isNone && (match o.op with | .pick _ _ _ => true | _ => false) && (match T.kd o.type with | some .bool => true | _ => false)
/-- What is asked by nobody stands ahead by itself. -/
def cutG (acc : List Oper) (o : Oper) : Bool := o.guard.isSome && !acc.isEmpty && !gdB acc
def segs (T : Tab) : List Oper → List Oper → List (List Oper)
  | acc, [] => match acc with | [] => [] | _ => [acc.reverse]
  | acc, o :: os => if cutB T o = true then (o :: acc).reverse :: segs T [] os else if cutG acc o = true then acc.reverse :: segs T [o] os else segs T (o :: acc) os
def gsE (A : Env) (ops : List Oper) : List (List Oper) → St → Option St
  | [], s => some s
  | os :: rest, s => if gdB os = true then match lastD A.T os with
      | some t => (gdE A ops os t s).bind fun v => gsE A ops rest (gdS os t s v)
      | none => (opsE A ops os s).bind (gsE A ops rest)
    else (opsE A ops os s).bind (gsE A ops rest)
def regE (A : Env) (ops : Array Oper) (dr : Bool) (s : St) : Option St :=
  if gdB ops.toList = true then
    if dr = true then (if quietB ops = true then match lastD A.T ops.toList with
      | some t => (gdE A ops.toList ops.toList t s).map (gdS ops.toList t s)
      | none => qsE A ops.toList ops.toList s else none)
    else gsE A ops.toList (segs A.T [] ops.toList) s
  else if dr = true then (if quietB ops = true then qsE A ops.toList ops.toList s else if ordB ops (flB ops) (List.range ops.size) = true then xsE A ops (List.range ops.size) s else none)
  else opsE A ops.toList ops.toList s

theorem opAlloc_ext {T : Tab} {H : Nat → Option Ob} {dst : Nat} {ty : TypeId} {y : AV × (Nat → Option Ob)} (h : opAlloc T H dst ty = some y) : Ext H y.2 := by
  unfold opAlloc at h
  obtain ⟨ti, _, h⟩ := bind_inv h
  split at h
  · rename_i e
    split at h
    all_goals
      cases h
      intro k o hk
      have : k ≠ dst := fun e' => by rw [e', e] at hk; cases hk
      simp [upd, this, hk]
  · cases h
theorem opBox_ext {H : Nat → Option Ob} {dst : Nat} {x : AV} {y : AV × (Nat → Option Ob)} (h : opBox H dst x = some y) : Ext H y.2 := by
  unfold opBox at h
  obtain ⟨_, h⟩ := ite_inv h
  split at h
  · rename_i e
    cases h
    intro k o hk
    have : k ≠ dst := fun e' => by rw [e', e] at hk; cases hk
    simp [upd, this, hk]
  · cases h
theorem freeAll_ext {H : Nat → Option Ob} : ∀ {L : List (Nat × Ob)}, freeAll H L = true → Ext H (updL L H)
  | [], _ => fun k o h => h
  | x :: L, h => by
    simp only [freeAll, Bool.and_eq_true] at h
    intro k o hk
    have : k ≠ x.1 := fun e => by rw [e] at hk; rw [hk] at h; cases h.1
    show upd (updL L H) x.1 (some x.2) k = some o
    simp only [upd, if_neg this]
    exact freeAll_ext h.2 k o hk
theorem demoteL_noM {H : Nat → Option Ob} : ∀ {cs : List AV}, cs.all noMc = true → demoteL H cs = some (cs, H)
  | [], _ => rfl
  | c :: cs, h => by
    simp only [List.all_cons, Bool.and_eq_true] at h
    have : demote1 H c = some (c, H) := by cases c <;> first | rfl | cases h.1
    simp only [demoteL, this, Option.bind_some, demoteL_noM h.2]
theorem demote_noM {H : Nat → Option Ob} {av : AV} (h : noM av = true) : demote H av = some (av, H) := by
  cases av with
  | g cs => simp only [demote, demoteL_noM (H := H) h, Option.map_some]
  | _ => first | rfl | cases h
theorem demAll_noM {H : Nat → Option Ob} : ∀ {cs : List AV}, cs.all noM = true → demAll H cs = some (cs, H)
  | [], _ => rfl
  | c :: cs, h => by
    simp only [List.all_cons, Bool.and_eq_true] at h
    simp only [demAll, demote_noM h.1, Option.bind_some, demAll_noM h.2]
theorem oPut_heap {s : St} {dst : Option Nat} {av : AV} {H : Nat → Option Ob} {s' : St} (h : oPut s dst av H = some s') : s'.heap = H := by
  unfold oPut at h
  split at h
  · obtain ⟨_, h⟩ := ite_inv h; cases h; rfl
  · cases h; rfl
theorem val_ok {A : Env} {o : Oper} {s s' : St} {y : AV × (Nat → Option Ob)} {K : St → Prop} (hv : valOp A.T s o = some y) (hp : oPut s o.dst y.1 y.2 = some s') (hk : K s') : valW A o s K := by
  simp only [valW, hv, OkO, valK]
  exact oPut_ok hp hk
theorem rd_ok {A : Env} {ops : List Oper} {o : Oper} {s : St} {av : AV} {s' : St} {K : St → Prop} (hr : rdB o = true) (h : rdE A.T s o = some av) (hp : oPut s o.dst av s.heap = some s') (hk : K s') : awpG A ops o s K := by
  unfold rdB at hr
  simp only [Bool.and_eq_true, Option.isNone_iff_eq_none] at hr
  obtain ⟨hg, hr⟩ := hr
  have hv := val_ok (A := A) (K := K) (rdE_ok h) hp hk
  unfold awpG
  simp only [hg]
  unfold awpOp
  split at hr <;> first | (rename_i e; simp only [e]; exact hv) | cases hr
theorem fr_ok {A : Env} {ops : List Oper} {o : Oper} {s s' : St} {K : St → Prop} (hr : frB o = true) (h : frE A o s = some s') (hk : K s') : Ext s.heap s'.heap ∧ awpG A ops o s K := by
  unfold frB at hr
  simp only [Bool.and_eq_true, Option.isNone_iff_eq_none] at hr
  obtain ⟨hg, hr⟩ := hr
  unfold awpG
  simp only [hg]
  unfold frE at h
  unfold awpOp
  split at h
  · rename_i e
    obtain ⟨y, h1, h2⟩ := bind_inv h
    refine ⟨by rw [oPut_heap h2]; exact opAlloc_ext h1, ?_⟩
    simp only [e]
    exact val_ok (y := y) (by simp only [valOp, e]; exact h1) h2 hk
  · rename_i e
    obtain ⟨h0, h⟩ := ite_inv h
    obtain ⟨y, h1, h2⟩ := bind_inv h
    refine ⟨by rw [oPut_heap h2]; exact opBox_ext h1, ?_⟩
    simp only [e]
    exact val_ok (y := y) (by simp only [valOp, e, dem1, demote_noM h0, Option.bind_some]; exact h1) h2 hk
  · rename_i ty parts e
    obtain ⟨h0, h⟩ := ite_inv h
    obtain ⟨av, h1, h2⟩ := bind_inv h
    refine ⟨by rw [oPut_heap h2]; exact Ext.refl _, ?_⟩
    simp only [e]
    have h0' : (parts.toList.map fun p => s.ev p.2).all noM = true := by simpa [List.all_map, Function.comp] using h0
    exact val_ok (y := (av, s.heap)) (by simp only [valOp, e, demAll_noM h0', Option.bind_some, h1, Option.map_some]) h2 hk
  · rename_i e
    obtain ⟨av, h1, h2⟩ := bind_inv h
    refine ⟨by rw [oPut_heap h2]; exact Ext.refl _, ?_⟩
    simp only [e]
    exact val_ok (y := (av, s.heap)) (by simp only [valOp, e, h1, Option.map_some]) h2 hk
  · rename_i c e
    split at h
    · rename_i f e1
      split at h
      · rename_i fn caps e2
        split at h
        · rename_i F e3
          obtain ⟨ds, h1, h⟩ := bind_inv h
          have h1 := borLE_ok h1
          obtain ⟨r, h2, h⟩ := bind_inv h
          obtain ⟨h3, h⟩ := ite_inv h
          refine ⟨by rw [oPut_heap h]; exact freeAll_ext h3, ?_⟩
          simp only [e, e1, e2, callW, e3, h1, OkO, thenF, h2]
          exact ⟨h3, oPut_ok h hk⟩
        · cases h
      · cases h
    · cases h
  · cases h
theorem xsE_ok {A : Env} {ops : Array Oper} {K : St → Prop} : ∀ {is : List Nat} {s s' : St}, xsE A ops is s = some s' → K s' → awpXs A ops (flB ops) K is s
  | [], s, s', h, hk => by cases h; exact hk
  | i :: is, s, s', h, hk => by
    unfold xsE at h
    unfold awpXs
    split at h
    · rename_i o e
      obtain ⟨s1, h1, h⟩ := bind_inv h
      have ih := xsE_ok h hk
      simp only [e]
      unfold xE at h1
      have hfl : flB ops i = if rdB o = true then 1 else if frB o = true then 2 else 0 := by simp only [flB, e]
      split at h1
      · rename_i e2
        refine opG_ok h1 ?_
        rw [e2]
        exact ⟨trivial, ih⟩
      · rename_i e2
        obtain ⟨av, h2, h3⟩ := bind_inv h1
        have hr : rdB o = true := by
          rw [e2] at hfl
          by_cases hr : rdB o = true
          · exact hr
          · rw [if_neg hr] at hfl
            split at hfl <;> omega
        refine rd_ok hr h2 h3 ?_
        rw [e2]
        exact ⟨oPut_heap h3, ih⟩
      · rename_i n0 n1
        have hf : flB ops i = 2 ∧ frB o = true := by
          by_cases hr : rdB o = true
          · rw [if_pos hr] at hfl; exact absurd hfl n1
          · rw [if_neg hr] at hfl
            by_cases hf : frB o = true
            · rw [if_pos hf] at hfl; exact ⟨hfl, hf⟩
            · rw [if_neg hf] at hfl; exact absurd hfl n0
        obtain ⟨hx, _⟩ := fr_ok (ops := ops.toList) (K := fun _ => True) hf.2 h1 trivial
        refine (fr_ok hf.2 h1 ?_).2
        rw [hf.1]
        exact ⟨hx, ih⟩
    · cases h
theorem forget_env {ts : List Nat} {f : Nat → AV} {t : Nat} : forget ts f t = .x ∨ (t ∉ ts ∧ forget ts f t = f t) := by
  induction ts with
  | nil => exact .inr ⟨by simp, rfl⟩
  | cons x xs ih =>
    by_cases e : t = x
    · left; simp [forget, upd, e]
    · have : forget (x :: xs) f t = forget xs f t := by simp [forget, upd, e]
      rw [this]
      rcases ih with h | ⟨h1, h2⟩
      · exact .inl h
      · exact .inr ⟨by simp [e, h1], h2⟩
theorem sem_gd {A : Env} {ops os : List Oper} {aa : AV} {t : Nat} {s s' : St} {v : Bool} (h : qsE A ops os s = some s') (hv : asB (s'.env t) = some v) : Sem aa s' (gdS os t s v) := by
  obtain ⟨e1, e2, e3⟩ := qsE_frame h
  have hv : s'.env t = .d (.b v) := by
    unfold asB at hv
    split at hv
    · rename_i e; cases hv; exact e
    · cases hv
  have key : gdS os t s v = { s' with env := upd (forget (dstsOf os) s.env) t (.d (.b v)) } := by
    unfold gdS
    rw [e1, e2]
  rw [key]
  intro B G a w hB hr
  refine ⟨G, ⟨hr.obj, fun i => ?_, hr.size, hr.defers, hr.nodup, hr.disj, hr.ge, hr.rest, hr.below, hr.ban, hr.base, hr.anc⟩⟩
  show AVR w G s'.heap (Ban B.F G s'.heap) _ (upd (forget (dstsOf os) s.env) t (.d (.b v)) i)
  by_cases e : i = t
  · subst e
    simp only [upd, if_true]
    rw [← hv]
    exact hr.env i
  · simp only [upd, if_neg e]
    rcases forget_env (ts := dstsOf os) (f := s.env) (t := i) with h1 | ⟨h1, h2⟩
    · rw [h1]; exact .x _
    · rw [h2, ← e3 i h1]; exact hr.env i

theorem awpQs_region {A : Env} {id : Nat} {ops : Array Oper} {dr : Bool} {Q : Exit → St → Prop} {s s' : St} (hq : dr = true → quietB ops = true) (h : qsE A ops.toList ops.toList s = some s') (hk : Q .normal s') : awp A (.region id ops dr) Q s := by
  cases dr with
  | true => exact awp_quiet (hq rfl) (qsE_ok h hk)
  | false => exact qsE_ops h hk
theorem segs_join (T : Tab) : ∀ (os acc : List Oper), (segs T acc os).flatten = acc.reverse ++ os
  | [], acc => by
    unfold segs
    cases acc <;> simp
  | o :: os, acc => by
    unfold segs
    split
    · simp [segs_join T os []]
    · split
      · rw [List.flatten_cons, segs_join T os [o]]; simp
      · rw [segs_join T os (o :: acc)]; simp
/-- All but what asks something in parts without an order. -/
theorem regE_ok {A : Env} {ops : Array Oper} {dr : Bool} {s s' : St} (hg : gdB ops.toList = true → dr = true) (h : regE A ops dr s = some s') : ∃ s0, Sem A.aa s0 s' ∧ ∀ (id : Nat) (Q : Exit → St → Prop), Q .normal s0 → awp A (.region id ops dr) Q s := by
  unfold regE at h
  split at h
  · rename_i hgd
    have hd := hg hgd
    subst hd
    simp only [if_true] at h
    obtain ⟨h1, h⟩ := ite_inv h
    split at h
    · obtain ⟨v, h2, rfl⟩ := Option.map_eq_some_iff.1 h
      obtain ⟨s0, h3, h4⟩ := bind_inv h2
      exact ⟨s0, sem_gd h3 h4, fun id Q hk => awpQs_region (fun _ => h1) h3 hk⟩
    · exact ⟨s', Sem.refl _ _, fun id Q hk => awpQs_region (fun _ => h1) h hk⟩
  · split at h
    · rename_i hd
      subst hd
      split at h
      · rename_i h1
        exact ⟨s', Sem.refl _ _, fun id Q hk => awpQs_region (fun _ => h1) h hk⟩
      · obtain ⟨h1, h⟩ := ite_inv h
        exact ⟨s', Sem.refl _ _, fun id Q hk => awp_ord _ _ h1 (xsE_ok h hk)⟩
    · rename_i hd
      simp only [Bool.not_eq_true] at hd
      subst hd
      exact ⟨s', Sem.refl _ _, fun id Q hk => opsE_ok h hk⟩
end Go.Fs
namespace Go.Fs
open Go.RowKit

theorem rdE_congr {T : Tab} {ops : Array Oper} {o : Oper} {s s' : St} (h : Agree ops o s s') : rdE T s o = rdE T s' o := by
  have hh := h.1
  have he : ∀ x ∈ o.op.operands.toList, s.ev x = s'.ev x := fun x hx => h.ev hx
  obtain ⟨dst, op, type, pos, after, guard⟩ := o
  cases op <;> simp only [Op.operands] at he <;> simp only [rdE, hh]
  case call c =>
    cases hc : c.callee with
    | value f => rfl
    | invoke r m => rfl
    | builtin b =>
      have hargs : ∀ x ∈ c.args.toList, s.ev x = s'.ev x := fun x hx => he x (by simp [Call.operands, hc]; simpa using hx)
      cases b <;> simp only [] <;> try rfl
      all_goals
        split
        · first
            | (rename_i h1 h2
               rw [h1] at hargs
               simp only [List.mem_cons, List.not_mem_nil, or_false, forall_eq, forall_eq_or_imp] at hargs
               rw [hargs])
            | (rename_i h1
               rw [h1] at hargs
               simp only [List.mem_cons, List.not_mem_nil, or_false, forall_eq, forall_eq_or_imp] at hargs
               rw [hargs.1, hargs.2])
        · rfl
  case slice t x lo hi mx =>
    cases mx with
    | none =>
      have h1 := he x (by simp)
      have h2 : lo.map s.ev = lo.map s'.ev := by cases lo with | none => rfl | some y => simp only [Option.map_some]; rw [he y (by simp)]
      have h3 : hi.map s.ev = hi.map s'.ev := by cases hi with | none => rfl | some y => simp only [Option.map_some]; rw [he y (by simp)]
      simp only [h1, h2, h3]
    | some m => rfl
  case binOp op ty x y t2 => rw [he x (by simp), St.ev2_congr (he y (by simp))]
  case build ty parts =>
    have hp : parts.toList.map (evQ s) = parts.toList.map (evQ s') := List.map_congr_left fun p hp => he p.2 (by simp only [Array.toList_map, List.mem_map]; exact ⟨p, hp, rfl⟩)
    rw [hp]
  all_goals (first | rfl | (simp_all; done))
theorem qE_congr {A : Env} {ops : Array Oper} {o : Oper} {s s' : St} (h : Agree ops o s s') : qE A o s = qE A o s' := by
  have hr := rdE_congr (T := A.T) h
  have hh := h.1
  have he : ∀ x ∈ o.op.operands.toList, s.ev x = s'.ev x := fun x hx => h.ev hx
  unfold qE
  split
  · rename_i c x y hop
    have h1 := he c (by simp [hop, Op.operands])
    have h2 := he x (by simp [hop, Op.operands])
    have h3 := he y (by simp [hop, Op.operands])
    rw [← h1]
    split
    · rename_i v hv
      have l1 := litS_ev s c x true
      cases v with
      | true =>
        have e1 := litS_ok (s := s) (x := c) hv
        have e2 := litS_ok (s := s') (x := c) (h1 ▸ hv)
        simp only [if_true, e1, e2, h2]
      | false =>
        have e1 := litS_ok (s := s) (x := c) hv
        have e2 := litS_ok (s := s') (x := c) (h1 ▸ hv)
        simp only [Bool.false_eq_true, if_false, e1, e2, h3]
    · rfl
  · rfl
  · rfl
  · rfl
  · rename_i c hop
    split
    · rename_i f hc
      have h1 := he f (by simp [hop, Op.operands, Call.operands, hc])
      have h2 := zargs_congr (T := A.T) (s := s) (s' := s') c.args.toList c.argTypes.toList fun x hx => he x (by simp [hop, Op.operands, Call.operands, hc]; exact .inr (by simpa using hx))
      rw [← h1, ← h2, ← hh]
    · exact hr
  · rename_i src dst x hop
    have h1 := he x (by simp [hop, Op.operands])
    rw [← h1, ← hh, hr]
  · split
    · rfl
    · exact hr
  · rename_i ty m k ok hop
    have h1 := he m (by simp [hop, Op.operands])
    have h2 := he k (by simp [hop, Op.operands])
    rw [← h1, ← h2, ← hh]
  · exact hr
theorem qGE_congr {A : Env} {ops : Array Oper} {o : Oper} {s s' : St} (h : Agree ops o s s') : qGE A ops.toList o s = qGE A ops.toList o s' := by
  unfold qGE
  split
  · exact qE_congr h
  · rename_i j want hg
    split
    · rfl
    · rename_i t ht
      have h1 : s.env t = s'.env t := h.2 t (by
        unfold dstAt at ht
        rw [Array.getElem?_toList] at ht
        simp only [Oper.looksAt, hg]
        simp
        right
        cases e : ops[j]? with
        | none => rw [e] at ht; cases ht
        | some p => rw [e] at ht; simpa using ht)
      rw [← h1]
      split
      · rename_i v hv
        have e1 := litS_ok (s := s) (x := .tmp t) hv
        have e2 := litS_ok (s := s') (x := .tmp t) (h1 ▸ hv)
        cases v with
        | true => simp only [if_true, e1, e2, qE_congr h]
        | false => simp only [Bool.false_eq_true, if_false, e1, e2, qE_congr h]
      · rfl
      · rfl

def wrB (o : Oper) : Bool := match o.op with
  | .alloc _ => true
  | .box _ _ => true
  | .buildSlice _ _ _ => true
  | .makeSlice _ _ _ => true
  | .makeFunc _ _ _ => true
  | .store _ _ _ => true
  | .call c => match c.callee with
    | .value (.func f) => !qFn f
    | .value _ => true
    | .builtin .append => true
    | _ => false
  | _ => false
def wrAt (ops : Array Oper) (i : Nat) : Bool := match ops[i]? with
  | some o => wrB o
  | none => false
/-- How many writing operations stand ahead. -/
def rankW (ops : Array Oper) (i : Nat) : Nat := (List.range i).countP (wrAt ops)
def loW (ops : Array Oper) (i : Nat) : Nat := (List.range ops.size).countP fun j => wrAt ops j && depN ops ops.size j i
def hiW (ops : Array Oper) (i : Nat) : Nat := (List.range ops.size).countP fun j => wrAt ops j && !depN ops ops.size i j
/-- Behind which operation the p-th heap begins. -/
def posW (ops : Array Oper) (p : Nat) : Option Nat := (List.range (ops.size + 1)).find? fun k => rankW ops k == p
/-- An operation, run: its value if it has a place, and the state behind it. -/
def stepY (A : Env) (ops : Array Oper) (o : Oper) (s : St) : Option St := if wrB o = true then opG A ops.toList o s else
  match o.dst with
  | some d => if d < s.n then (qGE A ops.toList o s).bind fun av => some { n := s.n, env := upd s.env d av, heap := s.heap } else none
  | none => none
def trY (A : Env) (ops : Array Oper) : List Oper → St → Option (List St)
  | [], s => some [s]
  | o :: os, s => (stepY A ops o s).bind fun s1 => (trY A ops os s1).map (s :: ·)
/-- What looks at no object. -/
def pureB (o : Oper) : Bool := o.guard.isNone && match o.op with
  | .move _ => true
  | .assign _ => true
  | .binOp _ _ _ _ _ => true
  | .unOp _ _ _ => true
  | .index _ _ _ => true
  | .extract _ _ => true
  | .slice _ _ _ _ none => true
  | .indexAddr _ (.global _) _ => true
  | _ => false
theorem ixE_heap (T : Tab) (H H' : Nat → Option Ob) (ty : TypeId) (d : D) (ix : AV) : ixE T H ty (.d d) ix = ixE T H' ty (.d d) ix := by
  unfold ixE
  cases T.ti ty with
  | none => rfl
  | some ti =>
    simp only [Option.bind_some]
    cases ti.kind with
    | slice e =>
      simp only
      cases T.ti e with
      | none => rfl
      | some te =>
        simp only [Option.bind_some]
        cases ix with
        | d x => cases x <;> cases d <;> rfl
        | _ => rfl
    | _ => rfl
theorem ev_heap (n n' : Nat) (E : Nat → AV) (H H' : Nat → Option Ob) (x : Operand) : (St.mk n E H).ev x = (St.mk n' E H').ev x := by cases x <;> rfl
theorem opSlice_heap (T : Tab) (H H' : Nat → Option Ob) (dst : Nat) (ty : TypeId) (d : D) (lo hi : Option AV) : (opSlice T H dst ty (.d d) lo hi).map (·.1) = (opSlice T H' dst ty (.d d) lo hi).map (·.1) := by
  unfold opSlice
  cases T.ti ty with
  | none => rfl
  | some ti =>
    simp only [Option.bind_some]
    cases ti.kind with
    | str =>
      cases d <;> try rfl
      simp only
      cases bnd hi _ <;> try rfl
      cases bnd lo 0 <;> try rfl
      simp only [Option.bind_some]
      split <;> rfl
    | slice e =>
      simp only
      cases T.ti e <;> try rfl
      cases d <;> try rfl
      simp only [Option.bind_some]
      cases bnd hi _ <;> try rfl
      cases bnd lo 0 <;> try rfl
      simp only [Option.bind_some]
      split <;> rfl
    | arr len e =>
      simp only
      cases T.ti e <;> try rfl
      cases d <;> try rfl
      cases lo <;> try rfl
      cases hi <;> try rfl
      simp only [Option.bind_some]
      split <;> rfl
    | _ => rfl
theorem qGE_pure {A : Env} {ops : List Oper} {o : Oper} (h : pureB o = true) (n n' : Nat) (E : Nat → AV) (H H' : Nat → Option Ob) : qGE A ops o ⟨n, E, H⟩ = qGE A ops o ⟨n', E, H'⟩ := by
  unfold pureB at h
  simp only [Bool.and_eq_true, Option.isNone_iff_eq_none] at h
  obtain ⟨hg, h⟩ := h
  have he := ev_heap n n' E H H'
  have he2 : ∀ x, (St.mk n E H).ev2 x = (St.mk n' E H').ev2 x := fun x => St.ev2_congr (he x)
  unfold qGE
  rw [hg]
  simp only
  unfold qE
  split at h
  · rename_i hop; simp only [hop, rdE, he]
  · rename_i hop; simp only [hop, rdE, he]
  · rename_i hop; simp only [hop, rdE, he, he2]
  · rename_i hop; simp only [hop, rdE, he]
  · rename_i hop; simp only [hop, rdE, he]
  · rename_i hop; simp only [hop, rdE, he]
  · rename_i ty x lo hi hop
    have hl : ∀ o : Option Operand, o.map (St.mk n E H).ev = o.map (St.mk n' E H').ev := fun o => by cases o <;> simp [he]
    simp only [hop, rdE, he, hl]
    cases (St.mk n' E H').ev x <;> try rfl
    exact opSlice_heap _ _ _ _ _ _ _ _
  · rename_i ty g i hop
    simp only [hop, rdE, he]
    cases e : (St.mk n' E H').ev (.global g) with
    | d d => exact ixE_heap _ _ _ _ _ _
    | r k =>
      exfalso
      simp only [St.ev] at e
      split at e <;> cases e
    | _ => rfl
  · cases h
/-- What may be seen of a region's text. -/
def planB (ops : Array Oper) (prs : List (Nat × Nat)) : Bool :=
  (List.range ops.size).all fun i => match (ops[i]? : Option Oper) with
    | some o => (wrB o || o.dst.isSome) && o.after.toList.all (fun e => !Region.binds .any e || decide (e.on < i)) &&
        ((List.range ops.size).all fun j => i == j || match (ops[j]? : Option Oper) with
          | some p => (p.dst != o.dst || p.dst.isNone) && (match p.dst with | some t => !(o.looksAt ops).contains t || onB o j || onB p i | none => true)
              && (!(wrB o && wrB p) || depN ops ops.size i j || depN ops ops.size j i)
          | none => true) &&
        (wrB o || pureB o || (List.range (ops.size + 1)).all fun q => !(decide (loW ops i ≤ q) && decide (q ≤ hiW ops i)) || q == rankW ops i || (match posW ops q with | some k => prs.contains (i, k) | none => false))
    | none => true
/-- What looks at no object here. -/
def isQa : AV → Bool
  | .q _ _ => true
  | .d _ => true
  | _ => false
def hInd (o : Oper) (s : St) : Bool := o.guard.isNone && match o.op with
  | .indexAddr _ x _ => isDa (s.ev x)
  | .load _ x => isQa (s.ev x)
  | .build _ parts => (parts.toList.map (evQ s)).all isDa
  | .call c => match c.callee with
    | .value (.func _) => (c.args.toList.map s.ev).all isDa
    | _ => false
  | _ => false
theorem zip_all {ns : List Nat} {as : List AV} (h : as.all isDa = true) : ∀ x ∈ ns.zip as, isDa x.2 = true := fun x hx => List.all_eq_true.1 h _ (List.of_mem_zip hx).2
theorem opBuild_heap (T : Tab) (H H' : Nat → Option Ob) (ty : TypeId) {parts : List (Nat × AV)} (h : ∀ x ∈ parts, isDa x.2 = true) : opBuild T H ty parts = opBuild T H' ty parts := by
  have e : ∀ x ∈ parts, (cellsA x.2).all (oneA H) = (cellsA x.2).all (oneA H') := fun x hx => by
    obtain ⟨n, av⟩ := x
    have := h _ hx
    cases av with
    | d d => cases d <;> rfl
    | _ => simp [isDa] at this
  have e2 : (parts.all fun x => (cellsA x.2).all (oneA H)) = (parts.all fun x => (cellsA x.2).all (oneA H')) := by
    induction parts with
    | nil => rfl
    | cons x xs ih =>
      simp only [List.all_cons, e x (by simp)]
      rw [ih (fun y hy => h y (by simp [hy])) fun y hy => e y (by simp [hy])]
  unfold opBuild
  simp only [e2]
theorem zargs_d {T : Tab} {s : St} : ∀ {xs : List Operand} {ts : List TypeId}, (xs.map s.ev).all isDa = true → (zargs T s xs ts).all isDa = true
  | [], _, _ => rfl
  | x :: xs, [], h => by
    simp only [List.map_cons, List.all_cons, Bool.and_eq_true] at h
    simp only [zargs, List.all_cons, h.1, zargs_d (ts := []) h.2, Bool.and_self]
  | x :: xs, t :: ts, h => by
    simp only [List.map_cons, List.all_cons, Bool.and_eq_true] at h
    have : isDa (fixZ T t (s.ev x)) = true := by
      cases e : s.ev x with
      | d d => rfl
      | _ => rw [e] at h; simp [isDa] at h
    simp only [zargs, List.all_cons, this, zargs_d (ts := ts) h.2, Bool.and_self]
theorem borLE_d {H H' : Nat → Option Ob} : ∀ {as : List AV}, as.all isDa = true → borLE H as = borLE H' as ∧ as.flatMap (keyA H) = as.flatMap (keyA H')
  | [], _ => ⟨rfl, rfl⟩
  | a :: as, h => by
    simp only [List.all_cons, Bool.and_eq_true] at h
    cases a with
    | d d =>
      have e : borE H (.d d) = borE H' (.d d) := rfl
      exact ⟨by simp only [borLE, borLE_d (H := H) (H' := H') h.2 |>.1, e], by simp only [List.flatMap_cons, borLE_d (H := H) (H' := H') h.2 |>.2]; rfl⟩
    | _ => simp [isDa] at h
theorem zargs_heap (T : Tab) (n n' : Nat) (E : Nat → AV) (H H' : Nat → Option Ob) : ∀ (xs : List Operand) (ts : List TypeId), zargs T ⟨n, E, H⟩ xs ts = zargs T ⟨n', E, H'⟩ xs ts
  | [], _ => rfl
  | x :: xs, [] => by simp only [zargs, ev_heap n n' E H H', zargs_heap T n n' E H H' xs]
  | x :: xs, t :: ts => by simp only [zargs, ev_heap n n' E H H', zargs_heap T n n' E H H' xs]
theorem qGE_ind {A : Env} {ops : List Oper} {o : Oper} {s : St} (h : hInd o s = true) (H : Nat → Option Ob) : qGE A ops o { n := s.n, env := s.env, heap := H } = qGE A ops o s := by
  unfold hInd at h
  simp only [Bool.and_eq_true, Option.isNone_iff_eq_none] at h
  obtain ⟨hg, h⟩ := h
  have he : ∀ x, (St.mk s.n s.env H).ev x = s.ev x := ev_heap s.n s.n s.env H s.heap
  unfold qGE
  rw [hg]
  simp only
  unfold qE
  split at h
  · rename_i ty x i hop
    simp only [hop, rdE, he]
    cases e : s.ev x with
    | d d => exact ixE_heap _ _ _ _ _ _
    | _ => simp [isDa, e] at h
  · rename_i ty x hop
    simp only [hop, rdE, he]
    cases e : s.ev x with
    | d d => simp only [ldE]; unfold opLoad; cases d <;> rfl
    | q cs o => rfl
    | _ => simp [isQa, e] at h
  · rename_i ty parts hop
    have hp : parts.toList.map (evQ (St.mk s.n s.env H)) = parts.toList.map (evQ s) := List.map_congr_left fun p _ => he p.2
    have h' := isDr_of h
    simp only [hop, rdE, hp, h', if_true]
    exact opBuild_heap _ _ _ _ (zip_all h)
  · rename_i c hop
    split at h
    case h_2 => cases h
    rename_i f hc
    have hz := zargs_heap A.T s.n s.n s.env H s.heap c.args.toList c.argTypes.toList
    have hd : (zargs A.T s c.args.toList c.argTypes.toList ++ []).all isDa = true := by rw [List.append_nil]; exact zargs_d h
    obtain ⟨b1, b2⟩ := borLE_d (H := H) (H' := s.heap) hd
    simp only [hop, hc, St.ev]
    have hz' : zargs A.T ⟨s.n, s.env, H⟩ c.args.toList c.argTypes.toList = zargs A.T s c.args.toList c.argTypes.toList := hz
    rw [hz']
    cases A.S f with
    | none => rfl
    | some sm =>
      cases sm with
      | own F => simp only [b1]
      | shared F => simp only [b1, b2]
      | _ => rfl
  · cases h
/-- The row that is looked at, no more. -/
def keyE : AV → Option Nat
  | .e k _ _ => some k
  | _ => none
def hKey (o : Oper) (s : St) : Option Nat := match o.guard with
  | some _ => none
  | none => match o.op with
    | .load _ x => keyE (s.ev x)
    | _ => none
theorem qGE_key {A : Env} {ops : List Oper} {o : Oper} {s : St} {k : Nat} (h : hKey o s = some k) {H : Nat → Option Ob} (hk : s.heap k = H k) : qGE A ops o { n := s.n, env := s.env, heap := H } = qGE A ops o s := by
  unfold hKey at h
  split at h
  · cases h
  rename_i hg
  split at h
  case h_2 => cases h
  rename_i ty x hop
  have he : ∀ x, (St.mk s.n s.env H).ev x = s.ev x := ev_heap s.n s.n s.env H s.heap
  unfold qGE
  rw [hg]
  simp only
  unfold qE
  simp only [hop, rdE, he]
  unfold keyE at h
  split at h
  · rename_i k0 i0 o0 e
    cases h
    simp only [ldE, e, loadE, hk]
  · cases h
/-- The row of which a place is taken. -/
def keyR : AV → Option Nat
  | .r k => some k
  | _ => none
def hRow (o : Oper) (s : St) : Option Nat := match o.guard with
  | some _ => none
  | none => match o.op with
    | .indexAddr _ x _ => keyR (s.ev x)
    | _ => none
def rowSame : Option Ob → Option Ob → Prop
  | some (.row sz xs _ _ _), some (.row sz' xs' _ _ _) => sz = sz' ∧ xs'.length = xs.length
  | _, _ => False
theorem getI_len {α β γ : Type} {xs : List α} {ys : List β} (h : ys.length = xs.length) (n : Int) (c : Option γ) : ((getI xs n).bind fun _ => c) = (getI ys n).bind fun _ => c := by
  unfold getI
  split
  · by_cases hn : n.toNat < xs.length
    · rw [List.getElem?_eq_getElem hn, List.getElem?_eq_getElem (h ▸ hn)]; rfl
    · rw [List.getElem?_eq_none (by omega), List.getElem?_eq_none (by omega)]; rfl
  · rfl
theorem qGE_row {A : Env} {ops : List Oper} {o : Oper} {s : St} {k : Nat} (h : hRow o s = some k) {H : Nat → Option Ob} (hk : rowSame (s.heap k) (H k)) : qGE A ops o { n := s.n, env := s.env, heap := H } = qGE A ops o s := by
  unfold hRow at h
  split at h
  · cases h
  rename_i hg
  split at h
  case h_2 => cases h
  rename_i ty x i hop
  have he : ∀ x, (St.mk s.n s.env H).ev x = s.ev x := ev_heap s.n s.n s.env H s.heap
  unfold qGE
  rw [hg]
  simp only
  unfold qE
  simp only [hop, rdE, he]
  unfold keyR at h
  split at h
  case h_2 => cases h
  rename_i k0 e
  cases h
  unfold rowSame at hk
  split at hk
  case h_2 => exact hk.elim
  rename_i sz xs dp fz ve sz' xs' dp' fz' ve' e1 e2
  obtain ⟨rfl, hl⟩ := hk
  simp only [e]
  unfold ixE
  cases A.T.ti ty with
  | none => rfl
  | some ti =>
    simp only [Option.bind_some]
    cases ti.kind with
    | slice e =>
      simp only
      cases A.T.ti e with
      | none => rfl
      | some te =>
        simp only [Option.bind_some]
        cases s.ev i with
        | d x =>
          cases x with
          | i kk n =>
            simp only [e1, e2]
            split
            · exact (getI_len hl n _).symm
            · rfl
          | _ => rfl
        | _ => rfl
    | arr len e => simp only
    | _ => rfl
/-- The checks: this operation, looked at from its own place but over that heap, has the same value. -/
def chkZ (A : Env) (ops : List Oper) (o : Oper) (s s1 sk : St) : Prop := match o.dst with
  | some d => match hInd o s with
    | true => True
    | false => match hKey o s with
      | some k => s.heap k = sk.heap k
      | none => match hRow o s with
        | some k => rowSame (s.heap k) (sk.heap k)
        | none => qGE A ops o { n := s.n, env := s.env, heap := sk.heap } = some (s1.env d)
  | none => False
theorem chkZ_mk (A : Env) (ops : List Oper) (dst : Option Nat) (op : Op) (ty : TypeId) (pos : String) (after : Array Edge) (guard : Option (Nat × Bool)) (n : Nat) (E : Nat → AV) (H : Nat → Option Ob) (s1 sk : St) :
    chkZ A ops ⟨dst, op, ty, pos, after, guard⟩ ⟨n, E, H⟩ s1 sk = match dst with
      | some d => match hInd ⟨dst, op, ty, pos, after, guard⟩ ⟨n, E, H⟩ with
        | true => True
        | false => match hKey ⟨dst, op, ty, pos, after, guard⟩ ⟨n, E, H⟩ with
          | some k => H k = sk.heap k
          | none => match hRow ⟨dst, op, ty, pos, after, guard⟩ ⟨n, E, H⟩ with
            | some k => rowSame (H k) (sk.heap k)
            | none => qGE A ops ⟨dst, op, ty, pos, after, guard⟩ ⟨n, E, sk.heap⟩ = some (s1.env d)
      | none => False := rfl
def chkY (A : Env) (ops : Array Oper) (L : List St) (p : Nat × Nat) : Prop := match (ops.toList[p.1]? : Option Oper), L[p.1]?, L[p.1 + 1]?, L[p.2]? with
  | some o, some s, some s1, some sk => chkZ A ops.toList o s s1 sk
  | _, _, _, _ => False
end Go.Fs
namespace Go.Fs
open Go.RowKit
def putS (s : St) (dst : Option Nat) (av : AV) (H : Nat → Option Ob) : St := match dst with
  | some d => { n := s.n, env := upd s.env d av, heap := H }
  | none => { n := s.n, env := s.env, heap := H }
def Fr (dst : Option Nat) (s s' : St) (x x' : Option St) : Prop := ∀ s1, x = some s1 → ∃ av H, s1 = putS s dst av H ∧ x' = some (putS s' dst av H)
theorem oPut_fr {s s' : St} (hn : s.n = s'.n) (dst : Option Nat) (av : AV) (H : Nat → Option Ob) : Fr dst s s' (oPut s dst av H) (oPut s' dst av H) := by
  intro s1 h
  unfold oPut at h ⊢
  cases dst with
  | none => cases h; exact ⟨av, H, rfl, rfl⟩
  | some d =>
    simp only at h ⊢
    obtain ⟨h1, h⟩ := ite_inv h
    cases h
    exact ⟨av, H, rfl, by rw [if_pos (by rw [← hn]; exact h1)]; rfl⟩
theorem Fr.bind {α : Type} {dst : Option Nat} {s s' : St} {o : Option α} {f g : α → Option St} (h : ∀ a, Fr dst s s' (f a) (g a)) : Fr dst s s' (o.bind f) (o.bind g) := by
  intro s1 h1
  obtain ⟨a, e, h2⟩ := bind_inv h1
  obtain ⟨av, H, h3, h4⟩ := h a s1 h2
  exact ⟨av, H, h3, by rw [e, Option.bind_some, h4]⟩
theorem Fr.ite {dst : Option Nat} {s s' : St} {c : Prop} [Decidable c] {x y : Option St} (h : Fr dst s s' x y) : Fr dst s s' (if c then x else none) (if c then y else none) := by
  intro s1 h1
  obtain ⟨hc, h2⟩ := ite_inv h1
  obtain ⟨av, H, h3, h4⟩ := h s1 h2
  exact ⟨av, H, h3, by rw [if_pos hc, h4]⟩
theorem Fr.none {dst : Option Nat} {s s' : St} {y : Option St} : Fr dst s s' Option.none y := fun s1 h => by cases h
theorem mk_fr {s s' : St} (H : Nat → Option Ob) : Fr Option.none s s' (some { n := s.n, env := s.env, heap := H }) (some { n := s'.n, env := s'.env, heap := H }) := fun s1 h => by
  cases h
  exact ⟨.x, H, rfl, rfl⟩
section
variable {A : Env} {s s' : St}
theorem callE_fr (hn : s.n = s'.n) (hh : s.heap = s'.heap) (dst : Option Nat) (f : FuncId) (args : List AV) : Fr dst s s' (callE A s dst f args) (callE A s' dst f args) := by
  unfold callE
  rw [← hh]
  split
  · exact .none
  · refine .bind fun ds => .bind fun r => ?_
    unfold ownE
    rw [← hh]
    exact .ite (oPut_fr hn _ _ _)
  · refine .bind fun H1 => ?_
    unfold sharedE
    rw [← hh]
    exact .ite (.bind fun ds => .bind fun r => oPut_fr hn _ _ _)
  · split
    · exact .none
    · split
      · refine .ite (.bind fun cs => ?_)
        unfold nestC
        rw [← hh]
        refine .bind fun x => .bind fun ds => .bind fun r => ?_
        unfold nestE
        rw [← hh]
        exact .ite (.ite (oPut_fr hn _ _ _))
      · exact .none
    · refine .bind fun x => .bind fun ds => .bind fun r => ?_
      unfold ioE2
      rw [← hh]
      refine .ite (.ite (.bind fun os => ?_))
      unfold ioE3
      rw [← hh]
      exact .ite (oPut_fr hn _ _ _)
  · refine .bind fun y => ?_
    unfold eatE
    rw [← hh]
    exact oPut_fr hn _ _ _
  · refine .bind fun y => ?_
    unfold eatE
    rw [← hh]
    exact oPut_fr hn _ _ _
  · refine .bind fun y => ?_
    unfold eatE
    rw [← hh]
    exact oPut_fr hn _ _ _
theorem opE_fr {ops : Array Oper} {o : Oper} (h : Agree ops o s s') (hn : s.n = s'.n) : Fr o.dst s s' (opE A o s) (opE A o s') := by
  have hh := h.1
  have he : ∀ x ∈ o.op.operands.toList, s.ev x = s'.ev x := fun x hx => h.ev hx
  have val : Fr o.dst s s' (valE A o s) (valE A o s') := by
    unfold valE
    rw [valOp_congr h]
    exact .bind fun y => oPut_fr hn _ _ _
  unfold opE
  split
  · rename_i c x y hop
    have h1 := he c (by simp [hop, Op.operands])
    have h2 := he x (by simp [hop, Op.operands])
    have h3 := he y (by simp [hop, Op.operands])
    rw [← h1, ← hh]
    split
    · rename_i v hv
      have e1 := litS_ok (s := s) (x := c) hv
      have e2 := litS_ok (s := s') (x := c) (h1 ▸ hv)
      cases v with
      | true => simp only [if_true, e1, e2, ← h2]; exact oPut_fr hn _ _ _
      | false => simp only [Bool.false_eq_true, if_false, e1, e2, ← h3]; exact oPut_fr hn _ _ _
    · exact .none
  · rename_i ty ad v hop
    have h1 := he ad (by simp [hop, Op.operands])
    have h2 := he v (by simp [hop, Op.operands])
    split
    · rename_i hd
      unfold storeE
      rw [← h1, ← h2, ← hh, hd]
      split
      · exact .bind fun H => mk_fr H
      · exact .bind fun m => .bind fun H => mk_fr H
    · exact .none
  · rename_i c hop
    split
    · rename_i f hc
      have h1 := he f (by simp [hop, Op.operands, Call.operands, hc])
      have h2 := zargs_congr (T := A.T) (s := s) (s' := s') c.args.toList c.argTypes.toList fun x hx => he x (by simp [hop, Op.operands, Call.operands, hc]; exact .inr (by simpa using hx))
      rw [← h1, ← h2]
      split
      · exact callE_fr hn hh _ _ _
      · exact .ite (callE_fr hn hh _ _ _)
      · exact .none
    · exact val
  · rename_i src dst x hop
    have h1 := he x (by simp [hop, Op.operands])
    split
    · rw [← h1, ← hh]
      exact .bind fun av => oPut_fr hn _ _ _
    · exact val
  · rename_i op ty x y yt hop
    have h1 := he x (by simp [hop, Op.operands])
    split
    · rw [← h1, ← hh]
      refine .bind fun d => ?_
      split
      · exact oPut_fr hn _ _ _
      · exact .none
    · exact val
  · rw [← hh]; exact .bind fun y => oPut_fr hn _ _ _
  · rename_i ty m k ok hop
    have h1 := he m (by simp [hop, Op.operands])
    have h2 := he k (by simp [hop, Op.operands])
    rw [← h1, ← h2, ← hh]
    exact .bind fun av => oPut_fr hn _ _ _
  · rename_i ty m k x hop
    have h1 := he m (by simp [hop, Op.operands])
    have h2 := he k (by simp [hop, Op.operands])
    have h3 := he x (by simp [hop, Op.operands])
    split
    · rename_i hd
      rw [← h1, ← h2, ← h3, ← hh, hd]
      exact .bind fun H => mk_fr H
    · exact .none
  · rename_i ty x hop
    have h1 := he x (by simp [hop, Op.operands])
    rw [← h1, ← hh]
    exact .bind fun av => oPut_fr hn _ _ _
  · rename_i ty x i hop
    have h1 := he x (by simp [hop, Op.operands])
    have h2 := he i (by simp [hop, Op.operands])
    rw [← h1, ← h2, ← hh]
    exact .bind fun y => .bind fun av => oPut_fr hn _ _ _
  · exact val
theorem opG_fr {ops : Array Oper} {o : Oper} (h : Agree ops o s s') (hn : s.n = s'.n) : Fr o.dst s s' (opG A ops.toList o s) (opG A ops.toList o s') := by
  have hh := h.1
  unfold opG
  split
  · exact opE_fr h hn
  · rename_i j want hg
    split
    · rw [← hh]; exact oPut_fr hn _ _ _
    · rename_i t ht
      have h1 : s.env t = s'.env t := h.2 t (by
        unfold dstAt at ht
        rw [Array.getElem?_toList] at ht
        simp only [Oper.looksAt, hg]
        simp
        right
        cases e : ops[j]? with
        | none => rw [e] at ht; cases ht
        | some p => rw [e] at ht; simpa using ht)
      rw [← h1, ← hh]
      split
      · rename_i v hv
        have e1 := litS_ok (s := s) (x := .tmp t) hv
        have e2 := litS_ok (s := s') (x := .tmp t) (h1 ▸ hv)
        cases v with
        | true =>
          simp only [if_true, e1, e2]
          cases want with
          | true => exact opE_fr h hn
          | false => exact oPut_fr hn _ _ _
        | false =>
          simp only [Bool.false_eq_true, if_false, e1, e2]
          cases want with
          | true => exact oPut_fr hn _ _ _
          | false => exact opE_fr h hn
      · exact oPut_fr hn _ _ _
      · exact .none
end
end Go.Fs
