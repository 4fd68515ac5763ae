/- A part of the proof: an evaluator of the program's code over plain data, proved sound; the equations of its functions; what they compute. No conditions beyond those in the theorems. -/
import Derived.Orders
import Derived.Deep.LoopGhost
import Derived.Test.YthabefiddflefaaGreatDoorP1
set_option linter.unusedVariables false
set_option linter.unusedSimpArgs false
set_option linter.constructorNameAsVariable false
set_option linter.unusedSectionVars false
set_option linter.defProp false
namespace Go.Fs
open Go.RowKit
def OkO {α : Type} (o : Option α) (K : α → Prop) : Prop := match o with
 | some a => K a
 | none => False
def splitB (v : Bool) (X Y : Prop) : Prop := match v with
 | true => X
 | false => Y
def envL (L : List (Nat × AV)) : Nat → AV := L.foldr (fun x f => upd f x.1 x.2) fun _ => .x
def obL (L : List (Nat × Option Ob)) : Nat → Option Ob := L.foldr (fun x f => upd f x.1 x.2) fun _ => none
def updL (L : List (Nat × Ob)) (H : Nat → Option Ob) : Nat → Option Ob := L.foldr (fun x f => upd f x.1 (some x.2)) H
def wkS (live : List Nat) (ren : List (Nat × Nat)) (s : St) : St :=
 { n := s.n, env := envL (live.map fun t => (t, mapA ren (s.env t))), heap := obL (ren.map fun x => (x.2, match s.heap x.1 with | some o => some (mapOb ren o) | none => none)) }
theorem wkS_eq (live : List Nat) (ren : List (Nat × Nat)) (s : St) : wkS live ren s = wk live ren s := by
 have e1 : ∀ (f : Nat → AV) (t : Nat), envL (live.map fun t => (t, f t)) t = if live.contains t then f t else .x := by
  intro f t
  induction live with
  | nil => rfl
  | cons x xs ih =>
   simp only [envL, List.map_cons, List.foldr_cons, upd, List.contains_cons] at ih ⊢
   by_cases e : t = x
   ·subst e; simp
   ·simp [e]; simpa using ih
 have e2 : ∀ (f : Nat → Option Ob) (k : Nat), obL (ren.map fun x => (x.2, f x.1)) k = match oldK ren k with | some k0 => f k0 | none => none := by
  intro f k
  induction ren with
  | nil => rfl
  | cons x xs ih =>
   simp only [obL, oldK, List.map_cons, List.foldr_cons, upd, List.lookup_cons] at ih ⊢
   by_cases e : k = x.2
   ·subst e; simp
   ·have e' : (k == x.2) = false := by simpa using e
    rw [if_neg e, e']
    exact ih
 unfold wkS wk
 congr 1
 ·funext t; exact e1 _ t
 ·funext k
  have := e2 (fun k => match s.heap k with | some o => some (mapOb ren o) | none => none) k
  exact this
theorem updL_eq (L : List (Nat × Ob)) (H : Nat → Option Ob) : updL L H = ovr L H := by
 funext k
 induction L with
 | nil => rfl
 | cons x xs ih =>
  obtain ⟨j, o⟩ := x
  simp only [updL, ovr, List.foldr_cons, upd, List.lookup_cons] at ih ⊢
  by_cases e : k = j
  ·subst e; simp
  ·have e' : (k == j) = false := by simpa using e
   rw [if_neg e, e']
   exact ih
inductive Summ where
 | own (F : List D → Option D)
 | shared (F : List D → Option D)
 | io (F : D → List D → Option (D × D))
 | eat (F : D → List D → Option D)
 | box (F : D → List D → Option (D × D))
 | bld (F : ByteArray → List D → Option (D × Option ByteArray))
 | pbx (F : D → List D → Option (D × D))
def SumOK (P : Program) (S : Nat → Option Summ) : Prop := ∀ f s, S f = some s → match s with
 | .own F => ∀ ds r, F ds = some r → FnOK P f (ds.map .d) { ret := r }
 | .shared F => ∀ ds r, F ds = some r → FnOK P f (ds.map .d) { ret := r, deep := false }
 | .io F => ∀ x ds r, F x ds = some r → FnOK P f (.io x :: ds.map .d) { ret := r.1, io := some r.2 }
 | .eat F => ∀ x ds r, F x ds = some r → FnOK P f (.io x :: ds.map .d) { ret := r }
 | .box F => ∀ x ds r, F x ds = some r → FnOK P f (.io x :: ds.map .d) { ret := r.1, io := some r.2 }
 | .bld F => ∀ s ds r, F s ds = some r → BdOK P f s ds r
 | .pbx F => ∀ x ds r, F x ds = some r → PbOK P f (.io x :: ds.map .d) r
structure Env where
 T : Tab
 S : Nat → Option Summ
 aa : AV
 pn : Nat → List Int → Prop
def noPn (te : Nat) (ns : List Int) : Prop := False
def putK (s : St) (dst : Option Nat) (av : AV) (H : Nat → Option Ob) (K : St → Prop) : Prop := match dst with
 | some d => d < s.n ∧ K { n := s.n, env := upd s.env d av, heap := H }
 | none => K { n := s.n, env := s.env, heap := H }
def keyOf (dst : Option Nat) : Nat := match dst with
 | some d => 100000 + 100 * d
 | none => 99000
def freeAll (H : Nat → Option Ob) : List (Nat × Ob) → Bool
 | [] => true
 | x :: xs => (match H x.1 with | none => true | some _ => false) && freeAll H xs
def apart (ks js : List Nat) : Bool := ks.all fun k => !js.contains k
def thenF {α β : Type} (F : α → Option β) (K : β → Prop) (a : α) : Prop := OkO (F a) K
def ownK (s : St) (dst : Option Nat) (K : St → Prop) (r : D) : Prop := freeAll s.heap (adObs (keyOf dst) (partsD r)) = true ∧
 putK s dst (retAV r (adCells (keyOf dst) (partsD r))) (updL (adObs (keyOf dst) (partsD r)) s.heap) K
def sharedK2 (s : St) (dst : Option Nat) (H1 : Nat → Option Ob) (K : St → Prop) (r : D) : Prop := putK s dst (retAV r ((partsD r).map .d)) H1 K
def sharedK (s : St) (dst : Option Nat) (F : List D → Option D) (args : List AV) (K : St → Prop) (H1 : Nat → Option Ob) : Prop := args.flatMap (keyA H1) = args.flatMap (keyA s.heap) ∧ OkO (borL H1 args) (thenF F (sharedK2 s dst H1 K))
def nestK (s : St) (dst : Option Nat) (k i o sz ve : Nat) (xs : List (List D)) (rest : List AV) (K : St → Prop) (r : D × D) : Prop := apart [k] (rest.flatMap (keyA s.heap)) = true ∧
 freeAll s.heap (adObs (keyOf dst) (partsD r.1)) = true ∧
 putK s dst (retAV r.1 (adCells (keyOf dst) (partsD r.1))) (updL ((k, .row sz (setCell xs i o r.2) true false (ve + 1)) :: adObs (keyOf dst) (partsD r.1)) s.heap) K
def ioK3 (s : St) (dst : Option Nat) (r : D × D) (K : St → Prop) (os : List (Nat × Ob)) : Prop := freeAll s.heap (adObs (keyOf dst) (partsD r.1)) = true ∧
 putK s dst (retAV r.1 (adCells (keyOf dst) (partsD r.1))) (updL (os ++ adObs (keyOf dst) (partsD r.1)) s.heap) K
def ioK2 (s : St) (dst : Option Nat) (io : AV) (ks : List Nat) (rest : List AV) (K : St → Prop) (r : D × D) : Prop := nodupB ks = true ∧ apart ks (rest.flatMap (keyA s.heap)) = true ∧
 OkO (ioObs s.heap (cellsA io) (cellsD r.2)) (ioK3 s dst r K)
def ioK (s : St) (dst : Option Nat) (F : D → List D → Option (D × D)) (io : AV) (rest : List AV) (K : St → Prop) (x : List D × List Nat) : Prop := OkO (borL s.heap rest) (thenF (F (ioD io x.1)) (ioK2 s dst io x.2 rest K))
def eatR (H : Nat → Option Ob) (dst : Option Nat) (ks : List Nat) (rest : List AV) (r : D) : Option (AV × List (Nat × Ob)) :=
 if nodupB ks = true then if apart ks (rest.flatMap (keyA H)) = true then if freeAll H (adObs (keyOf dst) (partsD r)) = true then
  some (retAV r (adCells (keyOf dst) (partsD r)), ks.map (fun k => (k, Ob.dead)) ++ adObs (keyOf dst) (partsD r)) else none else none else none
def eatC (H : Nat → Option Ob) (dst : Option Nat) (F : D → List D → Option D) : List AV → Option (AV × List (Nat × Ob))
 | [] => none
 | io :: rest => (ioCs H (cellsA io)).bind fun x => (borL H rest).bind fun ds => (F (ioD io x.1) ds).bind (eatR H dst x.2 rest)
theorem eatC_inv {H : Nat → Option Ob} {dst : Option Nat} {F : D → List D → Option D} {args : List AV} {y : AV × List (Nat × Ob)} (h : eatC H dst F args = some y) :
 ∃ x ds r, F x ds = some r ∧ ∀ F' : D → List D → Option D, F' x ds = some r → eatC H dst F' args = some y := by
 unfold eatC at h
 split at h
 ·cases h
 rename_i io rest
 obtain ⟨x, hx, h⟩ := Option.bind_eq_some_iff.1 h
 obtain ⟨ds, hb, h⟩ := Option.bind_eq_some_iff.1 h
 obtain ⟨r, hr, h⟩ := Option.bind_eq_some_iff.1 h
 refine ⟨_, _, r, hr, fun F' hr' => ?_⟩
 simp only [eatC, hx, Option.bind_some, hb, hr', h]
def bxR (H : Nat → Option Ob) (dst : Option Nat) (k : Nat) (ks : List Nat) (rest : List AV) (r : D × D) : Option (AV × List (Nat × Ob)) := match r.2 with
 | .p y => if nodupB (k :: ks) = true then if apart (k :: ks) (rest.flatMap (keyA H)) = true then
  if freeAll H (adObs (keyOf dst + 50) y ++ adObs (keyOf dst) (partsD r.1)) = true then
  if apart ((adObs (keyOf dst + 50) y).map (·.1)) ((adObs (keyOf dst) (partsD r.1)).map (·.1)) = true then
   some (retAV r.1 (adCells (keyOf dst) (partsD r.1)), bxObs k ks (keyOf dst + 50) y (keyOf dst) r.1) else none else none else none else none
 | _ => none
def bxC (H : Nat → Option Ob) (dst : Option Nat) (F : D → List D → Option (D × D)) : List AV → Option (AV × List (Nat × Ob))
 | .a k 0 :: rest => match H k with
  | some (.box cs) => (ioCs H cs).bind fun x => (borL H rest).bind fun ds => (F (.p x.1) ds).bind (bxR H dst k x.2 rest)
  | _ => none
 | _ => none
theorem bxC_inv {H : Nat → Option Ob} {dst : Option Nat} {F : D → List D → Option (D × D)} {args : List AV} {y : AV × List (Nat × Ob)} (h : bxC H dst F args = some y) :
 ∃ x ds r, F x ds = some r ∧ ∀ F' : D → List D → Option (D × D), F' x ds = some r → bxC H dst F' args = some y := by
 unfold bxC at h
 split at h
 case h_2 => cases h
 rename_i k rest
 split at h
 case h_2 => cases h
 rename_i cs hk
 obtain ⟨x, hx, h⟩ := Option.bind_eq_some_iff.1 h
 obtain ⟨ds, hb, h⟩ := Option.bind_eq_some_iff.1 h
 obtain ⟨r, hr, h⟩ := Option.bind_eq_some_iff.1 h
 refine ⟨_, _, r, hr, fun F' hr' => ?_⟩
 simp only [bxC, hk, hx, Option.bind_some, hb, hr', h]
def bdR (k : Nat) (r : D × Option ByteArray) : Option (AV × List (Nat × Ob)) := some (retAV r.1 ((partsD r.1).map .d), [(k, bdOb r.2)])
def bdC (H : Nat → Option Ob) (F : ByteArray → List D → Option (D × Option ByteArray)) : List AV → Option (AV × List (Nat × Ob))
 | .bp k :: rest => match H k with
  | some (.bld s) => (borL H rest).bind fun ds => (F s ds).bind (bdR k)
  | _ => none
 | _ => none
theorem bdC_inv {H : Nat → Option Ob} {F : ByteArray → List D → Option (D × Option ByteArray)} {args : List AV} {y : AV × List (Nat × Ob)} (h : bdC H F args = some y) :
 ∃ x ds r, F x ds = some r ∧ ∀ F' : ByteArray → List D → Option (D × Option ByteArray), F' x ds = some r → bdC H F' args = some y := by
 unfold bdC at h
 split at h
 case h_2 => cases h
 rename_i k rest
 split at h
 case h_2 => cases h
 rename_i s hk
 obtain ⟨ds, hb, h⟩ := Option.bind_eq_some_iff.1 h
 obtain ⟨r, hr, h⟩ := Option.bind_eq_some_iff.1 h
 refine ⟨_, _, r, hr, fun F' hr' => ?_⟩
 simp only [bdC, hk, Option.bind_some, hb, hr', h]
def pxR (H : Nat → Option Ob) (dst : Option Nat) (k : Nat) (ks : List Nat) (rest : List AV) (r : D × D) : Option ((AV × List (Nat × Ob)) ⊕ (Nat × List Int)) := match r.1 with
 | .p [q] => (bxR H dst k ks rest (q, r.2)).map .inl
 | .f te ds => if nodupB (k :: ks) = true then if apart (k :: ks) (rest.flatMap (keyA H)) = true then (intsD ds).map fun ns => .inr (te, ns) else none else none
 | _ => none
def pxC (H : Nat → Option Ob) (dst : Option Nat) (F : D → List D → Option (D × D)) : List AV → Option ((AV × List (Nat × Ob)) ⊕ (Nat × List Int))
 | .a k 0 :: rest => match H k with
  | some (.box cs) => (ioCs H cs).bind fun x => (borL H rest).bind fun ds => (F (.p x.1) ds).bind (pxR H dst k x.2 rest)
  | _ => none
 | _ => none
theorem pxC_inv {H : Nat → Option Ob} {dst : Option Nat} {F : D → List D → Option (D × D)} {args : List AV} {y : (AV × List (Nat × Ob)) ⊕ (Nat × List Int)} (h : pxC H dst F args = some y) :
 ∃ x ds r, F x ds = some r ∧ ∀ F' : D → List D → Option (D × D), F' x ds = some r → pxC H dst F' args = some y := by
 unfold pxC at h
 split at h
 case h_2 => cases h
 rename_i k rest
 split at h
 case h_2 => cases h
 rename_i cs hk
 obtain ⟨x, hx, h⟩ := Option.bind_eq_some_iff.1 h
 obtain ⟨ds, hb, h⟩ := Option.bind_eq_some_iff.1 h
 obtain ⟨r, hr, h⟩ := Option.bind_eq_some_iff.1 h
 refine ⟨_, _, r, hr, fun F' hr' => ?_⟩
 simp only [pxC, hk, hx, Option.bind_some, hb, hr', h]
def eatK (s : St) (dst : Option Nat) (K : St → Prop) (y : AV × List (Nat × Ob)) : Prop := putK s dst y.1 (updL y.2 s.heap) K
def callW (A : Env) (s : St) (dst : Option Nat) (f : FuncId) (args : List AV) (K : St → Prop) : Prop := match A.S f with
 | none => False
 | some (.own F) => OkO (borL s.heap args) (thenF F (ownK s dst K))
 | some (.shared F) => OkO (frzL s.heap (args.flatMap (keyA s.heap))) (sharedK s dst F args K)
 | some (.io F) => match args with
  | [] => False
  | .m k ve i o :: rest => match s.heap k with
   | some (.row sz xs true false ve') => (ve' = ve ∧ i < xs.length ∧ o < sz) ∧ OkO (borL s.heap rest) (thenF (F ((xs.getD i []).getD o .u)) (nestK s dst k i o sz ve' xs rest K))
   | _ => False
  | io :: rest => OkO (ioCs s.heap (cellsA io)) (ioK s dst F io rest K)
 | some (.eat F) => OkO (eatC s.heap dst F args) (eatK s dst K)
 | some (.box F) => OkO (bxC s.heap dst F args) (eatK s dst K)
 | some (.bld F) => OkO (bdC s.heap F args) (eatK s dst K)
 | some (.pbx F) => ∃ y, pxC s.heap dst F args = some (.inl y) ∧ eatK s dst K y
def panW (A : Env) (s : St) (dst : Option Nat) (f : FuncId) (args : List AV) : Prop := ∃ F te ns, A.S f = some (.pbx F) ∧ pxC s.heap dst F args = some (.inr (te, ns)) ∧ A.pn te ns
def capsOK : List D → Bool
 | [] => true
 | .g _ :: _ => false
 | .t _ :: _ => false
 | _ :: ds => capsOK ds
theorem tr_one {w : World} {own : Bool} {v : Value} {d : D} {S : List Nat} (h : Tr w own v d S) (h1 : ∀ cs, d ≠ .g cs) (h2 : ∀ vs, d ≠ .t vs) : v.oneCell' = true := by
 cases h with
 | g cs ds S h => exact absurd rfl (h1 _)
 | t vs ds S h => exact absurd rfl (h2 _)
 | _ => rfl
theorem caps_avrl {w : World} {G : Nat → GI} {H : Nat → Option Ob} {Av : Nat → Prop} : ∀ {vs : List Value} {ds : List D} {S : List Nat}, TrL w false vs ds S → capsOK ds = true → (∀ b ∈ S, ¬ Av b) → AVRL w G H Av vs (ds.map .d)
 | _, _, _, .nil, _, _ => .nil
 | _, _, _, .cons v d S vs ds Ss h hs, hc, hS => by
  have h1 : (∀ cs, d ≠ .g cs) ∧ (∀ vs, d ≠ .t vs) ∧ capsOK ds = true := by
   cases d <;> simp_all [capsOK]
  exact .cons _ _ _ _ (.d v d S (tr_one h h1.1 h1.2.1) h fun b hb => hS b (by simp [hb])) (caps_avrl hs h1.2.2 fun b hb => hS b (by simp [hb]))
def zargs (T : Tab) (s : St) : List Operand → List TypeId → List AV
 | [], _ => []
 | x :: xs, [] => s.ev x :: zargs T s xs []
 | x :: xs, t :: ts => fixZ T t (s.ev x) :: zargs T s xs ts
def litS (s : St) (x : Operand) (b : Bool) : St := match x with
 | .tmp t => { n := s.n, env := upd s.env t (.d (.b b)), heap := s.heap }
 | _ => s
def valK (s : St) (dst : Option Nat) (K : St → Prop) (y : AV × (Nat → Option Ob)) : Prop := putK s dst y.1 y.2 K
def putH (s : St) (dst : Option Nat) (H : Nat → Option Ob) (K : St → Prop) (y : AV) : Prop := putK s dst y H K
def heapK (s : St) (K : St → Prop) (H : Nat → Option Ob) : Prop := K { n := s.n, env := s.env, heap := H }
def storeK (T : Tab) (s : St) (ty : TypeId) (ad : Operand) (K : St → Prop) (m : AV × (Nat → Option Ob)) : Prop := OkO (opStore T m.2 ty (s.ev ad) m.1) (heapK s K)
def storeW (T : Tab) (s : St) (ty : TypeId) (ad v : Operand) (K : St → Prop) : Prop := match s.ev ad with
 | .a _ _ => OkO (opStore T s.heap ty (s.ev ad) (s.ev v)) (heapK s K)
 | _ => OkO (demote s.heap (s.ev v)) (storeK T s ty ad K)
def nilK (s : St) (dst : Option Nat) (neg : Bool) (K : St → Prop) (d : D) : Prop := match d with
 | .l _ xs => ∀ b : Bool, (b = true → xs = []) → putK s dst (.d (.b (if neg then !b else b))) s.heap K
 | _ => False
def valW (A : Env) (o : Oper) (s : St) (K : St → Prop) : Prop := OkO (valOp A.T s o) (valK s o.dst K)
def awpOp (A : Env) (o : Oper) (s : St) (K : St → Prop) : Prop := match o.op with
 | .pick c x y => match s.ev c with
  | .d (.b v) => splitB v (putK (litS s c true) o.dst (fixZ A.T o.type ((litS s c true).ev x)) s.heap K) (putK (litS s c false) o.dst (fixZ A.T o.type ((litS s c false).ev y)) s.heap K)
  | _ => False
 | .store ty ad v => match o.dst with
  | none => storeW A.T s ty ad v K
  | some _ => False
 | .call c => match c.callee with
  | .value f => match s.ev f with
   | .f fn caps => callW A s o.dst fn (zargs A.T s c.args.toList c.argTypes.toList ++ caps) K ∨ panW A s o.dst fn (zargs A.T s c.args.toList c.argTypes.toList ++ caps)
   | .d (.f fn caps) => capsOK caps = true ∧ callW A s o.dst fn (zargs A.T s c.args.toList c.argTypes.toList ++ caps.map .d) K
   | _ => False
  | _ => valW A o s K
 | .convert src dst x => match A.T.kd src with
  | some (.slice _) => OkO (opB2S A.T s.heap src dst (s.ev x)) (putH s o.dst s.heap K)
  | _ => valW A o s K
 | .binOp op ty x y _ => match nilCmp A.T op ty y with
  | some neg => OkO (borC s.heap (s.ev x)) (nilK s o.dst neg K)
  | none => valW A o s K
 | .makeMap ty none => OkO (opMkMap A.T s.heap (o.dst.getD 0) ty) (valK s o.dst K)
 | .lookup ty m k ok => OkO (opMapGet A.T s.heap ty (s.ev m) (s.ev k) ok) (putH s o.dst s.heap K)
 | .mapUpdate ty m k x => match o.dst with
  | none => OkO (opMapSet A.T s.heap ty (s.ev m) (s.ev k) (s.ev x)) (heapK s K)
  | some _ => False
 | _ => valW A o s K
def dstAt (ops : List Oper) (j : Nat) : Option Nat := match ops[j]? with
 | some o => o.dst
 | none => none
def awpG (A : Env) (ops : List Oper) (o : Oper) (s : St) (K : St → Prop) : Prop := match o.guard with
 | none => awpOp A o s K
 | some (j, want) => match dstAt ops j with
  | none => putK s o.dst (.t []) s.heap K
  | some t => match s.env t with
   | .d (.b v) => splitB v (match want with | true => awpOp A o (litS s (.tmp t) true) K | false => putK (litS s (.tmp t) true) o.dst (.t []) s.heap K)
    (match want with | true => putK (litS s (.tmp t) false) o.dst (.t []) s.heap K | false => awpOp A o (litS s (.tmp t) false) K)
   | .t [] => putK s o.dst (.t []) s.heap K
   | _ => False
def awpOps (A : Env) (ops : List Oper) (K : St → Prop) : List Oper → St → Prop
 | [], s => K s
 | o :: os, s => awpG A ops o s (awpOps A ops K os)
def awpAny (A : Env) (ops : Array Oper) (K : St → Prop) : Nat → Array Bool → St → Prop
 | 0, listed, s => Region.ready .any ops listed = [] ∧ K s
 | n + 1, listed, s => (Region.ready .any ops listed = [] → K s) ∧ ∀ i ∈ Region.ready .any ops listed, match ops.toList[i]? with
  | some o => awpG A ops.toList o s (awpAny A ops K n (listed.setIfInBounds i true))
  | none => False
def fixA (ren : List (Nat × Nat)) : AV → Bool
 | .d _ => true
 | .z _ => true
 | .r k => (match ren.lookup k with | some j => j == k | none => false)
 | .a k _ => (match ren.lookup k with | some j => j == k | none => false)
 | .x => true
 | _ => false
def fixAA (ren : List (Nat × Nat)) : AV → Bool
 | .g cs => cs.all (fixA ren)
 | av => fixA ren av
theorem fixA_ok {ren : List (Nat × Nat)} {av : AV} (h : fixA ren av = true) : mapA ren av = av := by
 cases av <;> simp only [fixA, mapA] at h ⊢ <;> try (cases h; done)
 all_goals
  split at h
  ·rename_i j hj; simp at h; subst h; rw [hj]
  ·cases h
theorem fixAA_ok {ren : List (Nat × Nat)} {av : AV} (h : fixAA ren av = true) : mapA ren av = av := by
 cases av <;> simp only [fixAA] at h <;> try exact fixA_ok h
 rename_i cs
 simp only [mapA]
 congr 1
 induction cs with
 | nil => rfl
 | cons x xs ih =>
  simp only [List.all_cons, Bool.and_eq_true] at h
  simp only [mapL]
  rw [fixA_ok h.1, ih h.2]
def Sem (aa : AV) (s s' : St) : Prop := ∀ (B : Ctx) (G : Nat → GI) (a : Act) (w : World), B.aa = aa → RelG B G s a w → ∃ G', RelG B G' s' a w
theorem Sem.refl (aa : AV) (s : St) : Sem aa s s := fun B G a w _ h => ⟨G, h⟩
theorem Sem.trans {aa : AV} {s s' s'' : St} (h : Sem aa s s') (h' : Sem aa s' s'') : Sem aa s s'' := fun B G a w hB hr => by
 obtain ⟨G', hr'⟩ := h B G a w hB hr
 exact h' B G' a w hB hr'
theorem sem_wk {aa : AV} {s : St} (live : List Nat) {ren : List (Nat × Nat)} (h1 : renOK ren = true) (h2 : fixAA ren aa = true) : Sem aa s (wkS live ren s) := fun B G a w hB hr => by
 rw [wkS_eq]
 exact ⟨_, hr.wk live h1 (by rw [hB]; exact fixAA_ok h2)⟩
def Via (A : Env) (J : St → Prop) (s : St) : Prop := ∃ s', Sem A.aa s s' ∧ J s'
def thenS (K : St → Prop) (Q : Exit → St → Prop) : Exit → St → Prop
 | .normal, s => K s
 | e, s => Q e s
def blkS (id : Nat) (Q : Exit → St → Prop) : Exit → St → Prop
 | .exit id', s => if id' = id then Q .normal s else Q (.exit id') s
 | e, s => Q e s
def awp (A : Env) : Code → (Exit → St → Prop) → St → Prop
 | .skip, Q, s => Q .normal s
 | .region _ ops false, Q, s => awpOps A ops.toList (Q .normal) ops.toList s
 | .region _ ops true, Q, s => awpAny A ops (Q .normal) ops.size (Array.replicate ops.size false) s
 | .seq x y, Q, s => awp A x (thenS (awp A y Q) Q) s
 | .cond c x y, Q, s => match s.ev c with
  | .d (.b v) => splitB v (awp A x Q (litS s c true)) (awp A y Q (litS s c false))
  | _ => False
 | .block id b, Q, s => awp A b (blkS id Q) s
 | .loop b, Q, s => ∃ I : Nat → St → Prop, (∃ n, Via A (I n) s) ∧ ∀ n s, I n s → awp A b (thenS (fun s' => ∃ m, m < n ∧ Via A (I m) s') Q) s
 | .exit id, Q, s => Q (.exit id) s
 | .label _, Q, s => Q .normal s
 | .goto l, Q, s => Q (.goto l) s
 | .ret, Q, s => Q .ret s
 | _, _, _ => False
theorem putK_mono {s : St} {dst : Option Nat} {av : AV} {H : Nat → Option Ob} {K K' : St → Prop} (hk : ∀ s, K s → K' s) (h : putK s dst av H K) : putK s dst av H K' := by
 cases dst with
 | none => exact hk _ h
 | some d => exact ⟨h.1, hk _ h.2⟩
theorem OkO_mono {α : Type} {o : Option α} {K K' : α → Prop} (hk : ∀ a, K a → K' a) (h : OkO o K) : OkO o K' := by
 cases o with
 | none => exact h
 | some a => exact hk a h
theorem splitB_mono {v : Bool} {X X' Y Y' : Prop} (hx : X → X') (hy : Y → Y') (h : splitB v X Y) : splitB v X' Y' := by
 cases v
 ·exact hy h
 ·exact hx h
theorem callW_mono {A : Env} {s : St} {dst : Option Nat} {f : FuncId} {args : List AV} {K K' : St → Prop} (hk : ∀ s, K s → K' s) (h : callW A s dst f args K) : callW A s dst f args K' := by
 unfold callW at h ⊢
 split at h
 ·exact h
 ·exact OkO_mono (fun ds h => OkO_mono (fun r h => ⟨h.1, putK_mono hk h.2⟩) h) h
 ·exact OkO_mono (fun H1 h => ⟨h.1, OkO_mono (fun ds h => OkO_mono (fun r h => putK_mono hk h) h) h.2⟩) h
 ·split at h
  ·exact h
  ·split at h
   ·exact ⟨h.1, OkO_mono (fun ds h => OkO_mono (fun r h => ⟨h.1, h.2.1, putK_mono hk h.2.2⟩) h) h.2⟩
   ·exact h
  ·exact OkO_mono (fun x h => OkO_mono (fun ds h => OkO_mono (fun r h => ⟨h.1, h.2.1, OkO_mono (fun os h => ⟨h.1, putK_mono hk h.2⟩) h.2.2⟩) h) h) h
 ·exact OkO_mono (fun y h => putK_mono hk h) h
 ·exact OkO_mono (fun y h => putK_mono hk h) h
 ·exact OkO_mono (fun y h => putK_mono hk h) h
 ·obtain ⟨y, h1, h2⟩ := h
  exact ⟨y, h1, putK_mono hk h2⟩
theorem awpOp_mono {A : Env} {o : Oper} {s : St} {K K' : St → Prop} (hk : ∀ s, K s → K' s) (h : awpOp A o s K) : awpOp A o s K' := by
 have val : valW A o s K → valW A o s K' := OkO_mono fun y h => putK_mono hk h
 unfold awpOp at h ⊢
 split at h
 ·split at h
  ·exact splitB_mono (putK_mono hk) (putK_mono hk) h
  ·exact h
 ·split at h
  ·unfold storeW at h ⊢
   split at h
   ·exact OkO_mono (fun H h => hk _ h) h
   ·exact OkO_mono (fun m h => OkO_mono (fun H h => hk _ h) h) h
  ·exact h
 ·split at h
  ·split at h
   ·exact h.imp (callW_mono hk) id
   ·exact ⟨h.1, callW_mono hk h.2⟩
   ·exact h
  ·exact val h
 ·split at h
  ·exact OkO_mono (fun y h => putK_mono hk h) h
  ·exact val h
 ·split at h
  ·refine OkO_mono (fun d h => ?_) h
   unfold nilK at h ⊢
   split at h
   ·exact fun b hb => putK_mono hk (h b hb)
   ·exact h
  ·exact val h
 ·exact OkO_mono (fun y h => putK_mono hk h) h
 ·exact OkO_mono (fun y h => putK_mono hk h) h
 ·split at h
  ·exact OkO_mono (fun H h => hk _ h) h
  ·exact h
 ·exact val h
theorem awpG_mono {A : Env} {ops : List Oper} {o : Oper} {s : St} {K K' : St → Prop} (hk : ∀ s, K s → K' s) (h : awpG A ops o s K) : awpG A ops o s K' := by
 unfold awpG at h ⊢
 split at h
 ·exact awpOp_mono hk h
 ·split at h
  ·exact putK_mono hk h
  ·split at h
   ·refine splitB_mono (fun h => ?_) (fun h => ?_) h
    ·split at h
     ·exact awpOp_mono hk h
     ·exact putK_mono hk h
    ·split at h
     ·exact putK_mono hk h
     ·exact awpOp_mono hk h
   ·exact putK_mono hk h
   ·exact h
section rel
variable {P : Program} {A : Env} {B : Ctx}
theorem OkO_inv {α : Type} {o : Option α} {K : α → Prop} (h : OkO o K) : ∃ a, o = some a ∧ K a := by
 cases o with
 | none => exact h.elim
 | some a => exact ⟨a, rfl, h⟩
def Say (B : Ctx) (K : St → Prop) (K' : Act → World → Prop) : Prop := ∀ G s a w, RelG B G s a w → K s → K' a w
theorem putK_ok {G : Nat → GI} {s : St} {a : Act} {w : World} {H : Nat → Option Ob} (h : RelG B G { s with heap := H } a w) {v : Value} {av : AV} (hv : AVR w G H (Ban B.F G H) v av) {dst : Option Nat} {K : St → Prop} {K' : Act → World → Prop} (hK : Say B K K')
 (hp : putK s dst av H K) : K' (a.put dst v) w := by
 cases dst with
 | none => exact hK _ _ _ _ h hp
 | some d =>
  obtain ⟨hd, hp⟩ := hp
  exact hK _ _ _ _ (h.put d hd hv) hp
theorem litS_ok {s : St} {x : Operand} {v : Bool} (h : s.ev x = .d (.b v)) : litS s x v = s := by
 cases x with
 | tmp t =>
  have h : s.env t = .d (.b v) := h
  have : upd s.env t (.d (.b v)) = s.env := by
   funext i
   by_cases e : i = t
   ·subst e; simp [upd, h]
   ·simp [upd, e]
  simp [litS, this]
 | _ => rfl
theorem splitB_inv {v : Bool} {X Y : Prop} (h : splitB v X Y) : (v = true → X) ∧ (v = false → Y) := by
 cases v
 ·exact ⟨fun e => (by cases e), fun _ => h⟩
 ·exact ⟨fun _ => h, fun e => (by cases e)⟩
theorem zargs_ok {T : Tab} {G : Nat → GI} {s : St} {a : Act} {w : World} (h : RelG B G s a w) : ∀ (xs : List Operand) (ts : List TypeId), AVRL w G s.heap (Ban B.F G s.heap) (xs.map a.eval) (zargs T s xs ts)
 | [], _ => .nil
 | x :: xs, [] => .cons _ _ _ _ (h.ev x) (zargs_ok h xs [])
 | x :: xs, t :: ts => .cons _ _ _ _ (fixZ_ok t (h.ev x)) (zargs_ok h xs ts)
theorem freeAll_ok {H : Nat → Option Ob} : ∀ {L : List (Nat × Ob)}, freeAll H L = true → ∀ x ∈ L, H x.1 = none
 | [], _, x, hx => by cases hx
 | y :: L, h, x, hx => by
  simp only [freeAll, Bool.and_eq_true] at h
  rcases List.mem_cons.1 hx with rfl | hx
  ·cases e : H x.1 with
   | none => rfl
   | some o => rw [e] at h; simp at h
  ·exact freeAll_ok h.2 x hx
theorem does_wp {o : Oper} {a : Act} {w : World} {f : FuncId} {args : Array Value} {K : Act → World → Prop} {Q : Exit → Act → World → Prop} (he : execOp a.eval o = callFunc f args) (h : Does P f args w fun v w' => K (a.put o.dst v) w') : o.wp P a w K Q := by
 unfold Oper.wp
 rw [he]
 rcases h with ⟨h1, h2⟩ | ⟨v, w', h1, h2⟩
 ·rw [h1]
  exact h2.mono fun e w' he => by
   cases e with
   | returned v => exact he
   | panicked c => exact he.elim
   | outgrown => exact he.elim
 ·rw [h1]; exact h2
theorem callW_ok (hS : SumOK P A.S) {G : Nat → GI} {s : St} {a : Act} {w : World} (h : RelG B G s a w) {dst : Option Nat} {f : FuncId} {vs : List Value} {args : List AV} (hargs : AVRL w G s.heap (Ban B.F G s.heap) vs args) {K : St → Prop} {K' : Act → World → Prop} (hK : Say B K K')
 (hc : callW A s dst f args K) : Does P f vs.toArray w fun v w' => K' (a.put dst v) w' := by
 unfold callW at hc
 split at hc
 ·exact hc.elim
 ·rename_i F hF
  obtain ⟨ds, hb, hc⟩ := OkO_inv hc
  obtain ⟨r, hr, hfree, hc⟩ := OkO_inv hc
  have hSf := hS f _ hF ds r hr
  have := call_own h (io := none) (iov := none) (by simp) (fun _ => rfl) hargs (ds0 := []) (ks := []) rfl hb List.nodup_nil (by simp) (out := { ret := r }) (by simpa [ioIn] using hSf) rfl rfl (key := keyOf dst)
   (freeAll_ok hfree) (os := []) rfl
  refine Does.mono (by simpa using this) fun v w' hv => ?_
  obtain ⟨G', h1, h2⟩ := hv
  rw [← updL_eq] at h1 h2
  exact putK_ok h1 h2 hK hc
 ·rename_i F hF
  obtain ⟨H1, hf, hks, hc⟩ := OkO_inv hc
  obtain ⟨ds, hb, hc⟩ := OkO_inv hc
  obtain ⟨r, hr, hc⟩ := OkO_inv hc
  have := call_shared h hargs hf hks hb (out := { ret := r, deep := false }) (hS f _ hF ds r hr) rfl
  exact this.mono fun v w' hv => putK_ok hv.1 hv.2 hK hc
 ·rename_i F hF
  split at hc
  ·exact hc.elim
  ·rename_i k ve i o rest
   split at hc
   case h_2 => exact hc.elim
   rename_i sz xs ve' hk
   obtain ⟨⟨rfl, hi, ho⟩, hc⟩ := hc
   obtain ⟨ds, hb, hc⟩ := OkO_inv hc
   obtain ⟨r, hr, hap, hfree, hc⟩ := OkO_inv hc
   cases hargs with
   | cons v _ vs _ hv hvs =>
    have := call_nest h hk hi ho hv hvs hb (by simpa [apart] using hap) (hS f _ hF _ ds r hr) (key := keyOf dst) (freeAll_ok hfree)
    refine Does.mono this fun v w' hv => ?_
    obtain ⟨G', h1, h2⟩ := hv
    rw [← updL_eq] at h1 h2
    exact putK_ok h1 h2 hK hc
  ·rename_i io rest _
   obtain ⟨x, hx, hc⟩ := OkO_inv hc
   obtain ⟨ds, hb, hc⟩ := OkO_inv hc
   obtain ⟨r, hr, hn, hap, hc⟩ := OkO_inv hc
   obtain ⟨os, hos, hfree, hc⟩ := OkO_inv hc
   cases hargs with
   | cons v _ vs _ hv hvs =>
    have := call_own h (io := some io) (iov := some v) (fun av e => ⟨v, rfl, by cases e; exact hv⟩) (by simp) hvs (ds0 := x.1) (ks := x.2) hx hb (nodupB_ok hn) (fun k hk => by
     have := List.all_eq_true.1 hap k hk
     simpa using this) (out := { ret := r.1, io := some r.2 }) (hS f _ hF _ ds r hr) rfl rfl (key := keyOf dst) (freeAll_ok hfree) (os := os) hos
    refine Does.mono (by simpa using this) fun v w' hv => ?_
    obtain ⟨G', h1, h2⟩ := hv
    rw [← updL_eq] at h1 h2
    exact putK_ok h1 h2 hK hc
 ·rename_i F hF
  obtain ⟨y, hy, hc⟩ := OkO_inv hc
  unfold eatC at hy
  split at hy
  ·cases hy
  rename_i io rest
  obtain ⟨x, hx, hy⟩ := Option.bind_eq_some_iff.1 hy
  obtain ⟨ds, hb, hy⟩ := Option.bind_eq_some_iff.1 hy
  obtain ⟨r, hr, hy⟩ := Option.bind_eq_some_iff.1 hy
  unfold eatR at hy
  split at hy
  case isFalse => cases hy
  rename_i hn
  split at hy
  case isFalse => cases hy
  rename_i hap
  split at hy
  case isFalse => cases hy
  rename_i hfree
  cases hy
  cases hargs with
  | cons v _ vs _ hv hvs =>
   have := call_eat h hv hvs (ds0 := x.1) (ks := x.2) hx hb (nodupB_ok hn) (fun k hk => by
    have := List.all_eq_true.1 hap k hk
    simpa using this) (hS f _ hF _ ds r hr) (key := keyOf dst) (freeAll_ok hfree)
   refine Does.mono this fun v w' hv => ?_
   obtain ⟨G', h1, h2⟩ := hv
   rw [← updL_eq] at h1 h2
   exact putK_ok h1 h2 hK hc
 ·rename_i F hF
  obtain ⟨y, hy, hc⟩ := OkO_inv hc
  unfold bxC at hy
  split at hy
  case h_2 => cases hy
  rename_i k rest
  split at hy
  case h_2 => cases hy
  rename_i cs hk
  obtain ⟨x, hx, hy⟩ := Option.bind_eq_some_iff.1 hy
  obtain ⟨ds, hb, hy⟩ := Option.bind_eq_some_iff.1 hy
  obtain ⟨r, hr, hy⟩ := Option.bind_eq_some_iff.1 hy
  obtain ⟨r1, r2⟩ := r
  unfold bxR at hy
  split at hy
  case h_2 => cases hy
  rename_i y0 e
  have e : r2 = .p y0 := e
  subst e
  split at hy
  case isFalse => cases hy
  rename_i hn
  split at hy
  case isFalse => cases hy
  rename_i hap
  split at hy
  case isFalse => cases hy
  rename_i hfree
  split at hy
  case isFalse => cases hy
  rename_i hap2
  cases hy
  cases hargs with
  | cons v _ vs _ hv hvs =>
   have := call_box h hk hv hvs (ds0 := x.1) (ks := x.2) hx hb (nodupB_ok hn) (fun k hk => by
    have := List.all_eq_true.1 hap k hk
    simpa using this) (hS f _ hF _ ds _ hr) (key := keyOf dst) (keyb := keyOf dst + 50) (freeAll_ok hfree) (fun x hx z hz e => by
    have := List.all_eq_true.1 hap2 x.1 (List.mem_map.2 ⟨x, hx, rfl⟩)
    simp only [Bool.not_eq_true', List.contains_eq_mem, decide_eq_false_iff_not] at this
    exact this (List.mem_map.2 ⟨z, hz, e.symm⟩))
   refine Does.mono this fun v w' hv => ?_
   obtain ⟨G', h1, h2⟩ := hv
   rw [← updL_eq] at h1 h2
   exact putK_ok h1 h2 hK hc
 ·rename_i F hF
  obtain ⟨y, hy, hc⟩ := OkO_inv hc
  unfold bdC at hy
  split at hy
  case h_2 => cases hy
  rename_i k rest
  split at hy
  case h_2 => cases hy
  rename_i t hk
  obtain ⟨ds, hb, hy⟩ := Option.bind_eq_some_iff.1 hy
  obtain ⟨r, hr, hy⟩ := Option.bind_eq_some_iff.1 hy
  cases hy
  cases hargs with
  | cons v _ vs _ hv hvs =>
   refine Does.mono (call_bld h hk hv hvs hb (hS f _ hF _ ds _ hr)) fun v w' hv => ?_
   obtain ⟨G', h1, h2⟩ := hv
   rw [← updL_eq] at h1 h2
   exact putK_ok h1 h2 hK hc
 ·rename_i F hF
  obtain ⟨y, hy, hc⟩ := hc
  unfold pxC at hy
  split at hy
  case h_2 => cases hy
  rename_i k rest
  split at hy
  case h_2 => cases hy
  rename_i cs hk
  obtain ⟨x, hx, hy⟩ := Option.bind_eq_some_iff.1 hy
  obtain ⟨ds, hb, hy⟩ := Option.bind_eq_some_iff.1 hy
  obtain ⟨r, hr, hy⟩ := Option.bind_eq_some_iff.1 hy
  obtain ⟨r1, r2⟩ := r
  unfold pxR at hy
  split at hy
  case h_2 =>
   split at hy
   case isFalse => cases hy
   split at hy
   case isFalse => cases hy
   obtain ⟨ns, _, hy⟩ := Option.map_eq_some_iff.1 hy
   cases hy
  case h_3 => cases hy
  rename_i q eq
  have eq : r1 = .p [q] := eq
  subst eq
  obtain ⟨y1, hy, e9⟩ := Option.map_eq_some_iff.1 hy
  cases e9
  have hf : PbOK P f (.io (.p x.1) :: ds.map .d) (.p [q], r2) := hS f _ hF _ ds _ hr
  have hf : FnOK P f (.io (.p x.1) :: ds.map .d) { ret := q, io := some r2 } := hf
  unfold bxR at hy
  split at hy
  case h_2 => cases hy
  rename_i y0 e
  have e : r2 = .p y0 := e
  subst e
  split at hy
  case isFalse => cases hy
  rename_i hn
  split at hy
  case isFalse => cases hy
  rename_i hap
  split at hy
  case isFalse => cases hy
  rename_i hfree
  split at hy
  case isFalse => cases hy
  rename_i hap2
  cases hy
  cases hargs with
  | cons v _ vs _ hv hvs =>
   have := call_box h hk hv hvs (ds0 := x.1) (ks := x.2) hx hb (nodupB_ok hn) (fun k hk => by
    have := List.all_eq_true.1 hap k hk
    simpa using this) hf (key := keyOf dst) (keyb := keyOf dst + 50) (freeAll_ok hfree) (fun x hx z hz e => by
    have := List.all_eq_true.1 hap2 x.1 (List.mem_map.2 ⟨x, hx, rfl⟩)
    simp only [Bool.not_eq_true', List.contains_eq_mem, decide_eq_false_iff_not] at this
    exact this (List.mem_map.2 ⟨z, hz, e.symm⟩))
   refine Does.mono this fun v w' hv => ?_
   obtain ⟨G', h1, h2⟩ := hv
   rw [← updL_eq] at h1 h2
   exact putK_ok h1 h2 hK hc
def PanS (B : Ctx) (A : Env) (Q : Exit → Act → World → Prop) : Prop := ∀ te ns, A.pn te ns → ∀ (G : Nat → GI) (n : Nat) (a : Act) (w : World), RelG B G (deadS n) a w → Q (.panic (panE te ns)) a w
theorem PanS.no {A : Env} {Q : Exit → Act → World → Prop} (h : ∀ te ns, ¬ A.pn te ns) : PanS B A Q := fun te ns hp => absurd hp (h te ns)
theorem panW_ok (hS : SumOK P A.S) {G : Nat → GI} {s : St} {a : Act} {w : World} (h : RelG B G s a w) {dst : Option Nat} {f : FuncId} {args : List AV} {vs : List Value} (hargs : AVRL w G s.heap (Ban B.F G s.heap) vs args)
 {Q : Exit → Act → World → Prop} (hp : PanS B A Q) (hc : panW A s dst f args) :
 (callFunc f vs.toArray).run P w = .ok (.enter f vs.toArray) w ∧ Calls P f vs.toArray w fun e w' => ∃ ch, e = .panicked ch ∧ Q (.panic ch) a w' := by
 obtain ⟨F, te, ns, hF, hy, hpn⟩ := hc
 unfold pxC at hy
 split at hy
 case h_2 => cases hy
 rename_i k rest
 split at hy
 case h_2 => cases hy
 rename_i cs hk
 obtain ⟨x, hx, hy⟩ := Option.bind_eq_some_iff.1 hy
 obtain ⟨ds, hb, hy⟩ := Option.bind_eq_some_iff.1 hy
 obtain ⟨r, hr, hy⟩ := Option.bind_eq_some_iff.1 hy
 obtain ⟨r1, r2⟩ := r
 unfold pxR at hy
 split at hy
 case h_1 =>
  obtain ⟨_, _, hy⟩ := Option.map_eq_some_iff.1 hy
  cases hy
 case h_3 => cases hy
 rename_i te' ds' eq
 have eq : r1 = .f te' ds' := eq
 subst eq
 split at hy
 case isFalse => cases hy
 rename_i hn
 split at hy
 case isFalse => cases hy
 rename_i hap
 obtain ⟨ns', hns, hy⟩ := Option.map_eq_some_iff.1 hy
 cases hy
 have hf : PbOK P f (.io (.p x.1) :: ds.map .d) (.f te ds', r2) := hS f _ hF _ ds _ hr
 obtain ⟨ns2, e2, hf⟩ : ∃ ns, intsD ds' = some ns ∧ PnOK P f (.io (.p x.1) :: ds.map .d) te ns := hf
 rw [hns] at e2
 cases e2
 cases hargs with
 | cons v _ vs _ hv hvs =>
  obtain ⟨q1, q2⟩ := call_pan h hk hv hvs (ds0 := x.1) (ks := x.2) hx hb (nodupB_ok hn) (fun k hk => by
   have := List.all_eq_true.1 hap k hk
   simpa using this) hf
  refine ⟨q1, q2.mono fun e w' he => ?_⟩
  exact ⟨_, he.1, hp te ns hpn G _ a w' he.2⟩
theorem awpOp_ok (hT : A.T.ok P = true) (hS : SumOK P A.S) {G : Nat → GI} {s : St} {a : Act} {w : World} (h : RelG B G s a w) {o : Oper} {K : St → Prop} {K' : Act → World → Prop} {Q : Exit → Act → World → Prop} (hp : PanS B A Q) (hK : Say B K K') (hw : awpOp A o s K) : o.wp P a w K' Q := by
 have val : valW A o s K → o.wp P a w K' Q := by
  intro hv
  obtain ⟨y, hm, hp⟩ := OkO_inv hv
  obtain ⟨v, w', G', hr, h1, h2⟩ := valOp_ok hT h hm
  unfold Oper.wp
  rw [hr]
  exact putK_ok h1 h2 hK hp
 unfold awpOp at hw
 split at hw
 ·rename_i c x y hop
  split at hw
  case h_2 => exact hw.elim
  rename_i v hev
  obtain ⟨h1, h2⟩ := splitB_inv hw
  have hb : a.eval c = .bool v := by have := h.ev c; rw [hev] at this; exact this.inv_bool
  unfold Oper.wp
  obtain ⟨dst, op, type, pos, after, guard⟩ := o
  simp only at hop
  subst hop
  have hrun : ∀ u, (if v then a.eval x else a.eval y) = u → (execOp a.eval ⟨dst, .pick c x y, type, pos, after, guard⟩).run P w = .ok (.value u) w := by
   intro u e
   simp only [execOp, hb, asBool, pure_bind, e]
   rfl
  cases v with
  | true =>
   have h1 := h1 rfl
   rw [litS_ok hev] at h1
   rw [hrun _ rfl]
   exact putK_ok h (fixZ_ok type (h.ev x)) hK h1
  | false =>
   have h2 := h2 rfl
   rw [litS_ok hev] at h2
   rw [hrun _ rfl]
   exact putK_ok h (fixZ_ok type (h.ev y)) hK h2
 ·rename_i ty ad v hop
  split at hw
  case h_2 => exact hw.elim
  rename_i hd
  obtain ⟨H, w', G', hr, h1, hw⟩ : ∃ H w' G', (Instr.storeAt ty (a.eval ad) (a.eval v)).run P w = .ok () w' ∧ RelG B G' { s with heap := H } a w' ∧ K { s with heap := H } := by
   unfold storeW at hw
   split at hw
   ·obtain ⟨H, m2, hw⟩ := OkO_inv hw
    obtain ⟨w', G', hr, h1⟩ := opStore_ok hT h (h.ev ad) (h.ev v) m2
    exact ⟨H, w', G', hr, h1, hw⟩
   ·obtain ⟨m, m1, hw⟩ := OkO_inv hw
    obtain ⟨H, m2, hw⟩ := OkO_inv hw
    obtain ⟨e1, v1⟩ := demote_ok h (h.ev v) m1
    obtain ⟨w', G', hr, h1⟩ := opStore_ok (s := { s with heap := m.2 }) hT e1.rel (e1.avr (h.ev ad)) v1 m2
    exact ⟨H, w', G', hr, h1, hw⟩
  unfold Oper.wp
  obtain ⟨dst, op, type, pos, after, guard⟩ := o
  simp only at hop hd
  subst hop hd
  have : (execOp a.eval ⟨none, .store ty ad v, type, pos, after, guard⟩).run P w = .ok .skip w' := by
   simp only [execOp, Sem.run_bind, hr, Result.andThen_ok]
   rfl
  rw [this]
  exact hK _ _ _ _ h1 hw
 ·rename_i c hop
  split at hw
  case h_2 => exact val hw
  rename_i f hf
  have goP : ∀ {fn : FuncId} {cs : Array Value} {caps : List AV}, a.eval f = .func (.func fn) #[] cs → AVRL w G s.heap (Ban B.F G s.heap) cs.toList caps → panW A s o.dst fn (zargs A.T s c.args.toList c.argTypes.toList ++ caps) → o.wp P a w K' Q := by
   intro fn cs caps hfe hcs hw
   obtain ⟨q1, q2⟩ := panW_ok hS h ((zargs_ok h _ _).append hcs) hp hw
   unfold Oper.wp
   have hrun : (execOp a.eval o).run P w = .ok (.enter fn (c.args.toList.map a.eval ++ cs.toList).toArray) w := by
    rw [← q1]
    obtain ⟨dst, op, type, pos, after, guard⟩ := o
    simp only at hop
    subst hop
    obtain ⟨callee, args, argTypes⟩ := c
    simp only at hf
    subst hf
    simp only [execOp, resolve, hfe, Deferred.ofValue, pure_bind, invoke]
    congr 2
    apply Array.ext'
    simp
   rw [hrun, Oper.upon_enter]
   refine q2.mono fun e w' he => ?_
   obtain ⟨ch, rfl, hq⟩ := he
   exact hq
  have go : ∀ {fn : FuncId} {cs : Array Value} {caps : List AV}, a.eval f = .func (.func fn) #[] cs → AVRL w G s.heap (Ban B.F G s.heap) cs.toList caps → callW A s o.dst fn (zargs A.T s c.args.toList c.argTypes.toList ++ caps) K → o.wp P a w K' Q := by
   intro fn cs caps hfe hcs hw
   refine does_wp (f := fn) (args := (c.args.toList.map a.eval ++ cs.toList).toArray) ?_ (callW_ok hS h ((zargs_ok h _ _).append hcs) hK hw)
   obtain ⟨dst, op, type, pos, after, guard⟩ := o
   simp only at hop
   subst hop
   obtain ⟨callee, args, argTypes⟩ := c
   simp only at hf
   subst hf
   simp only [execOp, resolve, hfe, Deferred.ofValue, pure_bind, invoke]
   congr 1
   apply Array.ext'
   simp
  split at hw
  ·rename_i fn caps hev
   have hfv := h.ev f
   rw [hev] at hfv
   generalize hfe : a.eval f = fv at hfv
   cases hfv with
   | f _ cs _ hcs => exact hw.elim (go hfe hcs) (goP hfe hcs)
  ·rename_i fn caps hev
   have hfv := h.ev f
   rw [hev] at hfv
   generalize hfe : a.eval f = fv at hfv
   cases hfv with
   | d _ _ S h1 ht hS' =>
    cases ht with
    | f _ cs _ _ hcs => exact go hfe (caps_avrl hcs hw.1 hS') hw.2
  ·exact hw.elim
 ·rename_i src dst' x hop
  split at hw
  case h_2 => exact val hw
  obtain ⟨y, hm, hp⟩ := OkO_inv hw
  obtain ⟨v, hr, h2⟩ := opB2S_ok hT h (h.ev x) hm
  unfold Oper.wp
  obtain ⟨dst, op, type, pos, after, guard⟩ := o
  simp only at hop
  subst hop
  have : (execOp a.eval ⟨dst, .convert src dst' x, type, pos, after, guard⟩).run P w = .ok (.value v) w := by
   simp only [execOp, Sem.run_bind, hr, Result.andThen_ok]
   rfl
  rw [this]
  exact putK_ok h h2 hK hp
 ·rename_i op ty x y yt hop
  split at hw
  case h_2 => exact val hw
  rename_i neg hc
  obtain ⟨d, hb, hw⟩ := OkO_inv hw
  unfold nilK at hw
  split at hw
  case h_2 => exact hw.elim
  rename_i sz xs
  obtain ⟨b, hb1, hr⟩ := nilCmp_ok hT h hc hb
  unfold Oper.wp
  obtain ⟨dst, op', type, pos, after, guard⟩ := o
  simp only at hop
  subst hop
  have : (execOp a.eval ⟨dst, .binOp op ty x y yt, type, pos, after, guard⟩).run P w = .ok (.value (.bool (if neg then !b else b))) w := by
   simp only [execOp] at hr ⊢
   rw [Sem.run_bind, hr, Result.andThen_ok]
   rfl
  rw [this]
  exact putK_ok h (.sc rfl (.b _)) hK (hw b hb1)
 ·rename_i ty hop
  obtain ⟨y, hm, hp⟩ := OkO_inv hw
  obtain ⟨v, w', G', hr, h1, h2⟩ := opMkMap_ok (P := P) h hm
  unfold Oper.wp
  obtain ⟨dst, op, type, pos, after, guard⟩ := o
  simp only at hop
  subst hop
  have : (execOp a.eval ⟨dst, .makeMap ty none, type, pos, after, guard⟩).run P w = .ok (.value v) w' := by
   simp only [execOp, Option.map_none, Sem.run_bind, hr, Result.andThen_ok]
   rfl
  rw [this]
  exact putK_ok h1 h2 hK hp
 ·rename_i ty m k ok hop
  obtain ⟨y, hm, hp⟩ := OkO_inv hw
  obtain ⟨v, hr, h2⟩ := opMapGet_ok hT h (h.ev m) (h.ev k) hm
  unfold Oper.wp
  obtain ⟨dst, op, type, pos, after, guard⟩ := o
  simp only at hop
  subst hop
  have : (execOp a.eval ⟨dst, .lookup ty m k ok, type, pos, after, guard⟩).run P w = .ok (.value v) w := by
   simp only [execOp, Sem.run_bind, hr, Result.andThen_ok]
   rfl
  rw [this]
  exact putK_ok h h2 hK hp
 ·rename_i ty m k x hop
  split at hw
  case h_2 => exact hw.elim
  rename_i hd
  obtain ⟨H, m2, hw⟩ := OkO_inv hw
  obtain ⟨w', G', hr, h1⟩ := opMapSet_ok hT h (h.ev m) (h.ev k) (h.ev x) m2
  unfold Oper.wp
  obtain ⟨dst, op, type, pos, after, guard⟩ := o
  simp only at hop hd
  subst hop hd
  have : (execOp a.eval ⟨none, .mapUpdate ty m k x, type, pos, after, guard⟩).run P w = .ok .skip w' := by
   simp only [execOp, Sem.run_bind, hr, Result.andThen_ok]
   rfl
  rw [this]
  exact hK _ _ _ _ h1 hw
 ·exact val hw
theorem awpG_ok (hT : A.T.ok P = true) (hS : SumOK P A.S) {G : Nat → GI} {s : St} {a : Act} {w : World} (h : RelG B G s a w) {ops : Array Oper} {i : Nat} {o : Oper} (ho : ops[i]? = some o) {K : St → Prop} {K' : Act → World → Prop} {Q : Exit → Act → World → Prop} (hp : PanS B A Q) (hK : Say B K K') (hw : awpG A ops.toList o s K) :
 wpOp P ops Q i K' a w := by
 have run : Region.wanted o (yielded ops a.tmps) = true → awpOp A o s K → wpOp P ops Q i K' a w := by
  intro h1 h2
  unfold wpOp
  rw [ho]
  simp only [h1, if_true]
  exact .inl (awpOp_ok hT hS h hp hK h2)
 have leave : Region.wanted o (yielded ops a.tmps) = false → putK s o.dst (.t []) s.heap K → wpOp P ops Q i K' a w := by
  intro h1 h2
  unfold wpOp
  rw [ho]
  simp only [h1]
  exact putK_ok h (.t #[] [] .nil) hK h2
 unfold awpG at hw
 split at hw
 ·rename_i hg
  exact run (by simp [Region.wanted, hg]) hw
 ·rename_i j want hg
  have hy : ∀ t, dstAt ops.toList j = some t → yielded ops a.tmps j = match a.tmps[t]? with | some (.bool b) => some b | _ => none := by
   intro t ht
   unfold dstAt at ht
   rw [Array.getElem?_toList] at ht
   unfold yielded
   cases e : ops[j]? with
   | none => rw [e] at ht; cases ht
   | some o' =>
    rw [e] at ht
    simp only at ht
    simp only [Option.bind_some, ht]
    cases a.tmps[t]? with
    | none => rfl
    | some u => cases u <;> rfl
  split at hw
  ·rename_i hd
   refine leave ?_ hw
   unfold dstAt at hd
   rw [Array.getElem?_toList] at hd
   have : yielded ops a.tmps j = none := by
    unfold yielded
    cases e : ops[j]? with
    | none => rfl
    | some o' => rw [e] at hd; simp only at hd; simp [hd]
   simp [Region.wanted, hg, this]
  ·rename_i t ht
   have hy := hy t ht
   split at hw
   ·rename_i v hv
    have hb := h.env t
    rw [hv] at hb
    have hb : a.tmps.getD t undef = .bool v := hb.inv_bool
    have ht : a.tmps[t]? = some (.bool v) := by
     cases e : a.tmps[t]? with
     | none => rw [Array.getD_eq_getD_getElem?, e] at hb; cases hb
     | some u => rw [Array.getD_eq_getD_getElem?, e] at hb; simp at hb; rw [hb]
    rw [ht] at hy
    have hwant : Region.wanted o (yielded ops a.tmps) = (v == want) := by
     simp only [Region.wanted, hg, hy]
     cases v <;> cases want <;> rfl
    obtain ⟨h1, h2⟩ := splitB_inv hw
    have hl : litS s (.tmp t) v = s := litS_ok (x := .tmp t) hv
    cases v with
    | true =>
     have h1 := h1 rfl
     rw [hl] at h1
     cases want with
     | true => exact run hwant h1
     | false => exact leave hwant h1
    | false =>
     have h2 := h2 rfl
     rw [hl] at h2
     cases want with
     | true => exact leave hwant h2
     | false => exact run hwant h2
   ·rename_i hv
    have hb := h.env t
    rw [hv] at hb
    refine leave ?_ hw
    have hn : yielded ops a.tmps j = none := by
     rw [hy]
     cases e : a.tmps[t]? with
     | none => rfl
     | some u =>
      rw [Array.getD_eq_getD_getElem?, e] at hb
      simp only [Option.getD_some] at hb
      cases hb with
      | t vs _ h => rfl
    simp [Region.wanted, hg, hn]
   ·exact hw.elim
theorem awpOps_ok (hT : A.T.ok P = true) (hS : SumOK P A.S) {ops : Array Oper} {K : St → Prop} {Q : Exit → Act → World → Prop} (hp : PanS B A Q) (hK : Say B K (Q .normal)) :
 ∀ (os pre : List Oper), ops.toList = pre ++ os → Say B (awpOps A ops.toList K os) (wpOps P ops Q (List.range' pre.length os.length))
 | [], pre, _ => fun G s a w h hw => hK G s a w h hw
 | o :: os, pre, e => fun G s a w h hw => by
  have ih := awpOps_ok hT hS (ops := ops) hp hK os (pre ++ [o]) (by rw [e]; simp)
  have ho : ops[pre.length]? = some o := by rw [← Array.getElem?_toList, e]; simp
  show wpOps P ops Q (List.range' pre.length (os.length + 1)) a w
  rw [List.range'_succ, wpOps_cons]
  have hl : (pre ++ [o]).length = pre.length + 1 := by simp
  rw [hl] at ih
  exact awpG_ok hT hS h ho hp ih hw
theorem awpAny_ok (hT : A.T.ok P = true) (hS : SumOK P A.S) {ops : Array Oper} {K : St → Prop} {Q : Exit → Act → World → Prop} (hp : PanS B A Q) (hK : Say B K (Q .normal)) :
 ∀ (n : Nat) (listed : Array Bool), Say B (awpAny A ops K n listed) (wpAny P .any ops Q n listed)
 | 0, listed => fun G s a w h hw => ⟨hw.1, hK G s a w h hw.2⟩
 | n + 1, listed => fun G s a w h hw => by
  refine ⟨fun e => hK G s a w h (hw.1 e), fun i hi => ?_⟩
  have := hw.2 i hi
  split at this
  case h_2 => exact this.elim
  rename_i o ho
  exact awpG_ok hT hS h (by rw [← Array.getElem?_toList]; exact ho) hp (awpAny_ok hT hS hp hK n _) this
theorem Via_ok (hA : B.aa = A.aa) {J : St → Prop} {J' : Act → World → Prop} (hJ : Say B J J') : Say B (Via A J) J' := by
 rintro G s a w h ⟨s', h1, h3⟩
 obtain ⟨G', h2⟩ := h1 _ G a w hA h
 exact hJ _ _ _ _ h2 h3
theorem drawn_rel {G : Nat → GI} {s : St} {a : Act} {w : World} (h : RelG B G s a w) (n : Nat) : RelG B G s a { w with drawn := n } := by
 refine h.grow ⟨rfl, rfl, rfl, Nat.le_refl _⟩ fun b hb => rfl
theorem awp_ok (hT : A.T.ok P = true) (hS : SumOK P A.S) (hm : P.follows .mixedOrders = true) (hA : B.aa = A.aa) :
 ∀ (c : Code) {Q : Exit → St → Prop} {Q' : Exit → Act → World → Prop}, PanS B A Q' → (∀ e, Say B (Q e) (Q' e)) → Say B (awp A c Q) (c.wp P Q') := by
 intro c
 induction c with
 | skip => exact fun hp hQ G s a w h hw => wp_skip (hQ _ _ _ _ _ h hw)
 | label l => exact fun hp hQ G s a w h hw => wp_label (hQ _ _ _ _ _ h hw)
 | exit id => exact fun hp hQ G s a w h hw => wp_exit (hQ _ _ _ _ _ h hw)
 | goto l => exact fun hp hQ G s a w h hw => wp_goto (hQ _ _ _ _ _ h hw)
 | ret => exact fun hp hQ G s a w h hw => wp_ret (hQ _ _ _ _ _ h hw)
 | rangeFunc f ps x y => exact fun hp hQ G s a w h hw => hw.elim
 | scope b => exact fun hp hQ G s a w h hw => hw.elim
 | refuse why => exact fun hp hQ G s a w h hw => hw.elim
 | region id ops dr =>
  intro Q Q' hp hQ G s a w h hw
  cases dr with
  | false =>
   have := awpOps_ok hT hS (ops := ops) hp (hQ .normal) ops.toList [] rfl G s a w h hw
   refine wp_region ?_
   rw [List.range_eq_range']
   simpa using this
  | true => exact wp_region_any hm (awpAny_ok hT hS hp (hQ .normal) _ _ G s a _ (drawn_rel h _) hw)
 | seq x y ihx ihy =>
  intro Q Q' hp hQ G s a w h hw
  refine wp_seq (ihx (Q := thenS (awp A y Q) Q) (by intro te ns h; exact hp te ns h) (fun e => ?_) G s a w h hw)
  cases e with
  | normal => exact ihy hp hQ
  | exit id => exact hQ (.exit id)
  | goto l => exact hQ (.goto l)
  | ret => exact hQ .ret
  | panic ch => exact hQ (.panic ch)
  | outgrown => exact hQ .outgrown
 | cond c x y ihx ihy =>
  intro Q Q' hp hQ G s a w h hw
  simp only [awp] at hw
  split at hw
  case h_2 => exact hw.elim
  rename_i v hev
  have hb : a.eval c = .bool v := by have := h.ev c; rw [hev] at this; exact this.inv_bool
  obtain ⟨h1, h2⟩ := splitB_inv hw
  cases v with
  | true =>
   have h1 := h1 rfl
   rw [litS_ok hev] at h1
   exact wp_cond_true hb (ihx hp hQ G s a w h h1)
  | false =>
   have h2 := h2 rfl
   rw [litS_ok hev] at h2
   exact wp_cond_false hb (ihy hp hQ G s a w h h2)
 | block id b ih =>
  intro Q Q' hp hQ G s a w h hw
  refine wp_block (ih (Q := blkS id Q) (by intro te ns h; exact hp te ns h) (fun e => ?_) G s a w h hw)
  cases e with
  | exit id' =>
   intro G s a w h hw
   simp only [blkS] at hw
   simp only [Exit.inBlock]
   split
   ·rename_i e; rw [if_pos e] at hw; exact hQ .normal _ _ _ _ h hw
   ·rename_i e; rw [if_neg e] at hw; exact hQ (.exit id') _ _ _ _ h hw
  | normal => exact hQ .normal
  | goto l => exact hQ (.goto l)
  | ret => exact hQ .ret
  | panic ch => exact hQ (.panic ch)
  | outgrown => exact hQ .outgrown
 | loop b ih =>
  intro Q Q' hp hQ G s a w h hw
  obtain ⟨I, ⟨n, hs⟩, hI⟩ := hw
  refine wp_loop_ghost (fun n a w => ∃ G s, RelG B G s a w ∧ I n s) n (Via_ok hA (J := I n) (J' := fun a w => ∃ G s, RelG B G s a w ∧ I n s) (fun G s a w h hi => ⟨G, s, h, hi⟩) G s a w h hs) ?_
  rintro n a w ⟨G, s, h, hi⟩
  refine ih (Q := thenS (fun s' => ∃ m, m < n ∧ Via A (I m) s') Q) (by intro te ns h; exact hp te ns h) (fun e => ?_) G s a w h (hI n s hi)
  cases e with
  | normal =>
   rintro G s a w h ⟨m, hm, hv⟩
   exact ⟨m, hm, Via_ok hA (J := I m) (J' := fun a w => ∃ G s, RelG B G s a w ∧ I m s) (fun G s a w h hi => ⟨G, s, h, hi⟩) G s a w h hv⟩
  | exit id => exact hQ (.exit id)
  | goto l => exact hQ (.goto l)
  | ret => exact hQ .ret
  | panic ch => exact hQ (.panic ch)
  | outgrown => exact hQ .outgrown
end rel
end Go.Fs
namespace Go.Fs
theorem OkO_some {α : Type} (a : α) (K : α → Prop) : OkO (some a) K = K a := rfl
theorem upd_at {α : Type} (f : Nat → α) (k : Nat) (x : α) (i : Nat) : upd f k x i = if i = k then x else f i := rfl
def insL : Nat → List In → Nat → AV
 | _, [] => fun _ => .x
 | i, x :: xs => upd (insL (i + 1) xs) i (inAV x)
theorem insL_at : ∀ (ins : List In) (i t : Nat), insL i ins t = if i ≤ t then (ins.map inAV).getD (t - i) .x else .x
 | [], i, t => by simp [insL]
 | x :: xs, i, t => by
  rw [insL, upd]
  by_cases h : t = i
  ·subst h; simp
  ·rw [if_neg h, insL_at xs (i + 1) t]
   by_cases h2 : i ≤ t
   ·have : t - i = t - (i + 1) + 1 := by omega
    rw [if_pos (by omega), if_pos h2, this]
    simp
   ·rw [if_neg (by omega), if_neg h2]
theorem inSt_eq (n : Nat) (ins : List In) : inSt n ins = ⟨n, insL 0 ins, inHeap ins⟩ := by
 unfold inSt
 congr 1
 funext t
 rw [insL_at]
 simp
theorem constAV_i (k : IntKind) (n : Int) : constAV (.int k n) = .d (.i k n) := rfl
theorem constAV_b (b : Bool) : constAV (.bool b) = .d (.b b) := rfl
theorem constAV_z : constAV (.slice none 0 0) = .z 0 := rfl
theorem constAV_n : constAV (.pointer none) = .d .n := rfl
theorem constAV_s (b : ByteArray) : constAV (.string b) = .d (.s b) := rfl
def stL (n : Nat) (L : List (Nat × AV)) (K : List (Nat × Option Ob)) : St := ⟨n, envL L, obL K⟩
def obM (ren : List (Nat × Nat)) : Option Ob → Option Ob
 | some o => some (mapOb ren o)
 | none => none
def keysC : AV → List Nat
 | .r k => [k]
 | .a k _ => [k]
 | .e k _ _ => [k]
 | .m k _ _ _ => [k]
 | .mp k => [k]
 | .bp k => [k]
 | _ => []
def keysA : AV → List Nat
 | .g cs => cs.flatMap keysC
 | .f _ caps => caps.flatMap keysC
 | .t vs => vs.flatMap keysC
 | av => keysC av
def keysO : Option Ob → List Nat
 | some (.box cs) => cs.flatMap keysC
 | _ => []
def canonGo : List Nat → Nat → List (Nat × Nat) → List (Nat × Nat)
 | [], _, ren => ren
 | k :: ks, n, ren => if ren.any (fun x => x.1 == k) then canonGo ks n ren else canonGo ks (n + 1) (ren ++ [(k, 500000 + n)])
def canon2 (H : Nat → Option Ob) (ks fx : List Nat) : List (Nat × Nat) := canonGo (ks ++ ks.flatMap fun k => keysO (H k)) 0 (fx.map fun k => (k, k))
def canon (aa : AV) (live : List Nat) (s : St) : List (Nat × Nat) := canon2 s.heap (keysA aa ++ live.flatMap fun t => keysA (s.env t)) (keysA aa)
theorem stL_n (n : Nat) (L : List (Nat × AV)) (K : List (Nat × Option Ob)) : (stL n L K).n = n := rfl
theorem stL_env (n : Nat) (L : List (Nat × AV)) (K : List (Nat × Option Ob)) : (stL n L K).env = envL L := rfl
theorem stL_heap (n : Nat) (L : List (Nat × AV)) (K : List (Nat × Option Ob)) : (stL n L K).heap = obL K := rfl
theorem envL_cons (x : Nat × AV) (L : List (Nat × AV)) : envL (x :: L) = upd (envL L) x.1 x.2 := rfl
theorem envL_nil : envL [] = fun _ => .x := rfl
theorem obL_cons (x : Nat × Option Ob) (L : List (Nat × Option Ob)) : obL (x :: L) = upd (obL L) x.1 x.2 := rfl
theorem obL_nil : obL [] = fun _ => none := rfl
theorem keyIn_eq : keyIn = 900000 := rfl
theorem ovr_eq (L : List (Nat × Ob)) (H : Nat → Option Ob) : ovr L H = updL L H := (updL_eq L H).symm
end Go.Fs
namespace Go.Fs
mutual
def wt : D → Nat
 | .s t => t.size
 | .l _ xs => xs.length + wtLL xs
 | .g cs => wtL cs
 | _ => 0
def wtL : List D → Nat
 | [] => 0
 | d :: ds => wt d + wtL ds
def wtLL : List (List D) → Nat
 | [] => 0
 | x :: xs => wtL x + wtLL xs
end
def maxD : Nat := 140737488355328
mutual
def okD : D → Bool
 | .s t => decide (t.size ≤ maxD)
 | .i k n => decide (k.wrap n = n)
 | .l _ xs => decide (xs.length ≤ maxD) && okLL xs
 | .g cs => okL cs
 | _ => true
def okL : List D → Bool
 | [] => true
 | d :: ds => okD d && okL ds
def okLL : List (List D) → Bool
 | [] => true
 | x :: xs => okL x && okLL xs
end
theorem wrap64 {n : Int} (h1 : -9223372036854775808 ≤ n) (h2 : n < 9223372036854775808) : IntKind.i64.wrap n = n := by
 have e : (2 ^ IntKind.i64.bits : Int) = 18446744073709551616 := by decide
 have e2 : (2 ^ (IntKind.i64.bits - 1) : Int) = 9223372036854775808 := by decide
 have e3 : IntKind.i64.signed = true := rfl
 unfold IntKind.wrap
 rw [e, e2, e3]
 simp only [Bool.true_and, decide_eq_true_eq, ge_iff_le]
 split <;> omega
theorem okD_s (t : ByteArray) : (okD (.s t) = true) = (t.size ≤ 140737488355328) := propext ⟨fun h => of_decide_eq_true h, fun h => decide_eq_true h⟩
theorem okD_i (n : Int) : (okD (.i .i64 n) = true) = (-9223372036854775808 ≤ n ∧ n < 9223372036854775808) := by
 apply propext
 constructor
 ·intro h
  simp only [okD, decide_eq_true_eq] at h
  have e : (2 ^ IntKind.i64.bits : Int) = 18446744073709551616 := by decide
  have e2 : (2 ^ (IntKind.i64.bits - 1) : Int) = 9223372036854775808 := by decide
  have e3 : IntKind.i64.signed = true := rfl
  unfold IntKind.wrap at h
  rw [e, e2, e3] at h
  simp only [Bool.true_and, decide_eq_true_eq, ge_iff_le] at h
  split at h <;> omega
 ·intro h
  simp only [okD, decide_eq_true_eq]
  exact wrap64 h.1 h.2
theorem okD_b (b : Bool) : (okD (.b b) = true) = True := by simp [okD]
theorem okD_l (sz : Nat) (xs : List (List D)) : (okD (.l sz xs) = true) = (xs.length ≤ 140737488355328 ∧ okLL xs = true) := by
 apply propext
 show (decide (xs.length ≤ maxD) && okLL xs) = true ↔ _
 rw [Bool.and_eq_true]
 exact and_congr_left fun _ => ⟨fun h => of_decide_eq_true h, fun h => decide_eq_true h⟩
theorem okL_nil : (okL [] = true) = True := by simp [okL]
theorem okL_cons (d : D) (ds : List D) : (okL (d :: ds) = true) = (okD d = true ∧ okL ds = true) := by simp [okL]
theorem okLL_cons (x : List D) (xs : List (List D)) : (okLL (x :: xs) = true) = (okL x = true ∧ okLL xs = true) := by simp [okLL]
end Go.Fs
namespace Go.Fs
def qK (H : Nat → Option Ob) (K : AV → Prop) (y : AV × (Nat → Option Ob)) : Prop := y.2 = H ∧ K y.1
def qD (K : AV → Prop) (r : D) : Prop := scal r = true ∧ K (.d r)
def qS (K : AV → Prop) (r : D) : Prop := K (retAV r ((partsD r).map .d))
def qOp (A : Env) (o : Oper) (s : St) (K : AV → Prop) : Prop := match o.op with
 | .pick c x y => match s.ev c with
  | .d (.b v) => splitB v (K (fixZ A.T o.type ((litS s c true).ev x))) (K (fixZ A.T o.type ((litS s c false).ev y)))
  | _ => False
 | .store _ _ _ => False
 | .call c => match c.callee with
  | .value f => match s.ev f with
   | .f fn caps => match A.S fn with
    | some (.own F) => OkO (borL s.heap (zargs A.T s c.args.toList c.argTypes.toList ++ caps)) (thenF F (qD K))
    | some (.shared F) => (zargs A.T s c.args.toList c.argTypes.toList ++ caps).flatMap (keyA s.heap) = [] ∧ OkO (borL s.heap (zargs A.T s c.args.toList c.argTypes.toList ++ caps)) (thenF F (qS K))
    | _ => False
   | _ => False
  | _ => OkO (valOp A.T s o) (qK s.heap K)
 | .convert src dst x => match A.T.kd src with
  | some (.slice _) => OkO (opB2S A.T s.heap src dst (s.ev x)) K
  | _ => OkO (valOp A.T s o) (qK s.heap K)
 | .binOp op ty x y _ => match nilCmp A.T op ty y with
  | some _ => False
  | none => OkO (valOp A.T s o) (qK s.heap K)
 | .makeMap _ none => False
 | .lookup ty m k ok => OkO (opMapGet A.T s.heap ty (s.ev m) (s.ev k) ok) K
 | .mapUpdate _ _ _ _ => False
 | _ => OkO (valOp A.T s o) (qK s.heap K)
def qG (A : Env) (ops : List Oper) (o : Oper) (s : St) (K : AV → Prop) : Prop := match o.guard with
 | none => qOp A o s K
 | some (j, want) => match dstAt ops j with
  | none => K (.t [])
  | some t => match s.env t with
   | .d (.b v) => splitB v (match want with | true => qOp A o (litS s (.tmp t) true) K | false => K (.t []))
    (match want with | true => K (.t []) | false => qOp A o (litS s (.tmp t) false) K)
   | .t [] => K (.t [])
   | _ => False
def contQ (N : St → Prop) (s : St) (d : Nat) (av : AV) : Prop := N { n := s.n, env := upd s.env d av, heap := s.heap }
def awpQs (A : Env) (ops : List Oper) (K : St → Prop) : List Oper → St → Prop
 | [], s => K s
 | o :: os, s => match o.dst with
  | some d => d < s.n ∧ qG A ops o s (contQ (awpQs A ops K os) s d)
  | none => False
theorem qOp_det {A : Env} {o : Oper} {s : St} {K : AV → Prop} (h : qOp A o s K) : ∃ av, K av ∧ ∀ K' : AV → Prop, K' av → qOp A o s K' := by
 have val : ∀ {K : AV → Prop}, OkO (valOp A.T s o) (fun y => y.2 = s.heap ∧ K y.1) → ∃ av, K av ∧ ∀ K' : AV → Prop, K' av → OkO (valOp A.T s o) (fun y => y.2 = s.heap ∧ K' y.1) := by
  intro K h
  obtain ⟨y, e, h1, h2⟩ := OkO_inv h
  exact ⟨y.1, h2, fun K' hk => by rw [e]; exact ⟨h1, hk⟩⟩
 unfold qOp at h ⊢
 split at h
 ·split at h
  ·rename_i v hv
   obtain ⟨h1, h2⟩ := splitB_inv h
   cases v with
   | true => exact ⟨_, h1 rfl, fun K' hk => hk⟩
   | false => exact ⟨_, h2 rfl, fun K' hk => hk⟩
  ·exact h.elim
 ·exact h.elim
 ·split at h
  ·split at h
   ·split at h
    ·obtain ⟨ds, e1, h⟩ := OkO_inv h
     obtain ⟨r, e2, h3, h4⟩ := OkO_inv h
     exact ⟨_, h4, fun K' hk => by rw [e1, OkO_some]; unfold thenF; rw [e2]; exact ⟨h3, hk⟩⟩
    ·obtain ⟨h0, h⟩ := h
     obtain ⟨ds, e1, h⟩ := OkO_inv h
     obtain ⟨r, e2, h4⟩ := OkO_inv h
     exact ⟨_, h4, fun K' hk => ⟨h0, by rw [e1, OkO_some]; unfold thenF; rw [e2]; exact hk⟩⟩
    ·exact h.elim
   ·exact h.elim
  ·exact val h
 ·split at h
  ·obtain ⟨y, e, h1⟩ := OkO_inv h
   exact ⟨y, h1, fun K' hk => by rw [e]; exact hk⟩
  ·exact val h
 ·split at h
  ·exact h.elim
  ·exact val h
 ·exact h.elim
 ·obtain ⟨y, e, h1⟩ := OkO_inv h
  exact ⟨y, h1, fun K' hk => by rw [e]; exact hk⟩
 ·exact h.elim
 ·exact val h
theorem qG_det {A : Env} {ops : List Oper} {o : Oper} {s : St} {K : AV → Prop} (h : qG A ops o s K) : ∃ av, K av ∧ ∀ K' : AV → Prop, K' av → qG A ops o s K' := by
 unfold qG at h ⊢
 split at h
 ·exact qOp_det h
 ·split at h
  ·exact ⟨_, h, fun K' hk => hk⟩
  ·split at h
   ·rename_i v hv
    obtain ⟨h1, h2⟩ := splitB_inv h
    cases v with
    | true =>
     have h1 := h1 rfl
     split at h1
     ·exact qOp_det h1
     ·exact ⟨_, h1, fun K' hk => hk⟩
    | false =>
     have h2 := h2 rfl
     split at h2
     ·exact ⟨_, h2, fun K' hk => hk⟩
     ·exact qOp_det h2
   ·exact ⟨_, h, fun K' hk => hk⟩
   ·exact h.elim
def Agree (ops : Array Oper) (o : Oper) (s s' : St) : Prop := s.heap = s'.heap ∧ ∀ t ∈ o.looksAt ops, s.env t = s'.env t
theorem Agree.ev {ops : Array Oper} {o : Oper} {s s' : St} (h : Agree ops o s s') {x : Operand} (hx : x ∈ o.op.operands.toList) : s.ev x = s'.ev x := by
 cases x with
 | tmp t => exact h.2 t (List.mem_append_left _ (List.mem_filterMap.2 ⟨.tmp t, hx, rfl⟩))
 | _ => rfl
theorem litS_ev (s : St) (c x : Operand) (v : Bool) (h : s.ev c = .d (.b v)) : (litS s c v).ev x = s.ev x := by rw [litS_ok h]
theorem valOp_congr {T : Tab} {ops : Array Oper} {o : Oper} {s s' : St} (h : Agree ops o s s') : valOp T s o = valOp T s' o := by
 have hh := h.1
 have he : ∀ x ∈ o.op.operands.toList, s.ev x = s'.ev x := fun x hx => h.ev hx
 obtain ⟨dst, op, type, pos, after, guard⟩ := o
 have maps : ∀ (xs : List Operand), (∀ x ∈ xs, s.ev x = s'.ev x) → xs.map s.ev = xs.map s'.ev := fun xs hx => List.map_congr_left hx
 have pairs : ∀ (ps : List (Nat × Operand)), (∀ x ∈ ps.map (·.2), s.ev x = s'.ev x) → (ps.map fun p => s.ev p.2) = ps.map fun p => s'.ev p.2 := fun ps hx => List.map_congr_left fun p hp => hx _ (List.mem_map.2 ⟨p, hp, rfl⟩)
 cases op <;> simp only [Op.operands] at he <;> simp only [valOp, hh]
 case build t ps => rw [pairs ps.toList fun x hx => he x (by simpa using hx)]
 case buildSlice t n ps => rw [pairs ps.toList fun x hx => he x (by simpa using hx)]
 case makeFunc fn first captured =>
  cases fn <;> simp only [] <;> try rfl
  rw [maps captured.toList fun x hx => he x (by simp at hx ⊢; exact .inr hx)]
 case call c =>
  unfold callB
  cases hc : c.callee with
  | value f => rfl
  | invoke r m => rfl
  | builtin b =>
   have hargs : ∀ x ∈ c.args.toList, s.ev x = s'.ev x := fun x hx => he x (by simp [Call.operands, hc]; simpa using hx)
   cases b <;> simp only [] <;> try rfl
   all_goals
    split
    ·first
      | (rename_i h1 h2
         rw [h1] at hargs
         simp only [List.mem_cons, List.not_mem_nil, or_false, forall_eq, forall_eq_or_imp] at hargs
         first
          | rw [hargs, hh]
          | rw [hargs.1, hargs.2, hh])
      | (rename_i h1
         rw [h1] at hargs
         simp only [List.mem_cons, List.not_mem_nil, or_false, forall_eq, forall_eq_or_imp] at hargs
         rw [hargs.1, hargs.2, hh])
    ·rfl
 case slice t x lo hi mx =>
  cases mx with
  | none =>
   have h1 := he x (by simp)
   have h2 : lo.map s.ev = lo.map s'.ev := by cases lo with | none => rfl | some y => simp only [Option.map_some]; rw [he y (by simp)]
   have h3 : hi.map s.ev = hi.map s'.ev := by cases hi with | none => rfl | some y => simp only [Option.map_some]; rw [he y (by simp)]
   simp only [h1, h2, h3]
  | some m => rfl
 case binOp op ty x y t2 =>
  have h1 := he x (by simp)
  have h2 := he y (by simp)
  have h3 : s.ev2 y = s'.ev2 y := by
   unfold St.ev2
   split
   ·rfl
   ·exact h2
  rw [h1, h3]
 all_goals (first | rfl | (simp_all; done))
theorem zargs_congr {T : Tab} {s s' : St} : ∀ (xs : List Operand) (ts : List TypeId), (∀ x ∈ xs, s.ev x = s'.ev x) → zargs T s xs ts = zargs T s' xs ts
 | [], _, _ => rfl
 | x :: xs, [], h => by rw [zargs, zargs, h x (by simp), zargs_congr xs [] fun y hy => h y (by simp [hy])]
 | x :: xs, t :: ts, h => by rw [zargs, zargs, h x (by simp), zargs_congr xs ts fun y hy => h y (by simp [hy])]
theorem splitB_same {v : Bool} {X X' Y Y' : Prop} (h1 : v = true → X → X') (h2 : v = false → Y → Y') (h : splitB v X Y) : splitB v X' Y' := by
 cases v
 ·exact h2 rfl h
 ·exact h1 rfl h
theorem qOp_congr {A : Env} {ops : Array Oper} {o : Oper} {s s' : St} (h : Agree ops o s s') {K : AV → Prop} (hq : qOp A o s K) : qOp A o s' K := by
 have val : OkO (valOp A.T s o) (fun y => y.2 = s.heap ∧ K y.1) → OkO (valOp A.T s' o) (fun y => y.2 = s'.heap ∧ K y.1) := by
  rw [valOp_congr h, h.1]; exact id
 unfold qOp at hq ⊢
 split at hq
 ·rename_i c x y hop
  have e1 := h.ev (x := c) (by rw [hop]; simp [Op.operands])
  have e2 := h.ev (x := x) (by rw [hop]; simp [Op.operands])
  have e3 := h.ev (x := y) (by rw [hop]; simp [Op.operands])
  rw [← e1]
  split at hq
  ·rename_i v hv
   have hv' : s'.ev c = .d (.b v) := by rw [← e1]; exact hv
   refine splitB_same (fun e h => ?_) (fun e h => ?_) hq
   ·subst e; rw [litS_ev _ _ _ _ hv] at h; rw [litS_ev _ _ _ _ hv', ← e2]; exact h
   ·subst e; rw [litS_ev _ _ _ _ hv] at h; rw [litS_ev _ _ _ _ hv', ← e3]; exact h
  ·exact hq
 ·exact hq
 ·rename_i c hop
  split at hq
  ·rename_i f hf
   have e1 := h.ev (x := f) (by rw [hop]; simp [Op.operands, Call.operands, hf])
   rw [← e1]
   split at hq
   ·rw [← zargs_congr (s := s) (s' := s') c.args.toList c.argTypes.toList fun x hx => h.ev (x := x) (by rw [hop]; simp [Op.operands, Call.operands, hf]; exact .inr (by simpa using hx)), ← h.1]
    exact hq
   ·exact hq
  ·exact val hq
 ·rename_i src dst x hop
  have e1 := h.ev (x := x) (by rw [hop]; simp [Op.operands])
  split at hq
  ·rw [← e1, ← h.1]; exact hq
  ·exact val hq
 ·split at hq
  ·exact hq
  ·exact val hq
 ·exact hq
 ·rename_i ty m k ok hop
  have e1 := h.ev (x := m) (by rw [hop]; simp [Op.operands])
  have e2 := h.ev (x := k) (by rw [hop]; simp [Op.operands])
  rw [← e1, ← e2, ← h.1]; exact hq
 ·exact hq
 ·exact val hq
theorem Agree.lit {ops : Array Oper} {o : Oper} {s s' : St} (h : Agree ops o s s') {x : Operand} {v : Bool} (h1 : s.ev x = .d (.b v)) (h2 : s'.ev x = .d (.b v)) : Agree ops o (litS s x v) (litS s' x v) := by
 rw [litS_ok h1, litS_ok h2]; exact h
theorem qG_congr {A : Env} {ops : Array Oper} {o : Oper} {s s' : St} (h : Agree ops o s s') {K : AV → Prop} (hq : qG A ops.toList o s K) : qG A ops.toList o s' K := by
 unfold qG at hq ⊢
 split at hq
 ·exact qOp_congr h hq
 ·rename_i j want hg
  split at hq
  ·exact hq
  ·rename_i t ht
   have e1 : s.env t = s'.env t := h.2 t (List.mem_append_right _ (by
    unfold dstAt at ht
    rw [Array.getElem?_toList] at ht
    cases e : ops[j]? with
    | none => rw [e] at ht; cases ht
    | some o' => rw [e] at ht; simp only at ht; simp [hg, e, ht]))
   rw [← e1]
   split at hq
   ·rename_i v hv
    have hv' : s'.env t = .d (.b v) := by rw [← e1]; exact hv
    refine splitB_same (fun e hq => ?_) (fun e hq => ?_) hq
    ·subst e
     split at hq
     ·exact qOp_congr (h.lit (x := .tmp t) hv hv') hq
     ·exact hq
    ·subst e
     split at hq
     ·exact hq
     ·exact qOp_congr (h.lit (x := .tmp t) hv hv') hq
   ·exact hq
   ·exact hq
theorem qOp_awp {A : Env} {o : Oper} {s : St} {d : Nat} (hd : o.dst = some d) (hlt : d < s.n) {K : St → Prop} (h : qOp A o s fun av => K { n := s.n, env := upd s.env d av, heap := s.heap }) : awpOp A o s K := by
 have put : ∀ {av : AV}, K { n := s.n, env := upd s.env d av, heap := s.heap } → putK s o.dst av s.heap K := fun {av} h => by rw [hd]; exact ⟨hlt, h⟩
 have val : OkO (valOp A.T s o) (fun y => y.2 = s.heap ∧ K { n := s.n, env := upd s.env d y.1, heap := s.heap }) → valW A o s K := OkO_mono fun y h => by unfold valK; rw [h.1]; exact put h.2
 obtain ⟨dst, op, type, pos, after, guard⟩ := o
 cases op <;> simp only [qOp] at h <;> simp only [awpOp] <;> try exact h.elim
 case pick c x y =>
  generalize hq : s.ev c = q at h ⊢
  split at h
  ·rename_i v
   have hv := hq
   refine splitB_same (fun e h => ?_) (fun e h => ?_) h
   ·subst e; rw [litS_ok hv] at h ⊢; exact put h
   ·subst e; rw [litS_ok hv] at h ⊢; exact put h
  ·exact h.elim
 case call c =>
  cases hc : c.callee with
  | value f =>
   rw [hc] at h
   simp only at h ⊢
   cases hf : s.ev f <;> rw [hf] at h <;> simp only at h ⊢ <;> try exact h.elim
   rename_i fn caps
   unfold callW
   cases hF : A.S fn with
   | none => rw [hF] at h; exact h.elim
   | some q =>
    rw [hF] at h
    cases q with
    | own F =>
     simp only at h ⊢
     refine .inl (OkO_mono (fun ds h => OkO_mono (fun r h => ?_) h) h)
     obtain ⟨hs, hk⟩ := h
     have e1 : partsD r = [r] := by cases r <;> simp_all [scal, partsD, cellsD]
     have e2 : ∀ k, adObs k [r] = [] := fun k => by cases r <;> simp_all [scal, adObs]
     have e3 : ∀ k, adCells k [r] = [.d r] := fun k => by cases r <;> simp_all [scal, adCells]
     have e4 : retAV r [.d r] = .d r := by cases r <;> simp_all [scal, retAV, oneAV]
     unfold ownK
     rw [e1, e2, e3, e4]
     exact ⟨rfl, put hk⟩
    | shared F =>
     simp only at h ⊢
     obtain ⟨h0, h⟩ := h
     rw [h0]
     exact .inl ⟨rfl, OkO_mono (fun ds h => OkO_mono (fun r h => put h) h) h⟩
    | _ => exact h.elim
  | invoke r m => rw [hc] at h; exact val h
  | builtin b => rw [hc] at h; exact val h
 case convert src dst' x =>
  generalize A.T.kd src = q at h ⊢
  cases q with
  | none => exact val h
  | some q => cases q <;> first | exact OkO_mono (fun y h => put h) h | exact val h
 case binOp op ty x y yt =>
  generalize nilCmp A.T op ty y = q at h ⊢
  cases q with
  | none => exact val h
  | some q => exact h.elim
 case makeMap ty r =>
  cases r with
  | none => exact h.elim
  | some x => exact val h
 case lookup ty m k ok => exact OkO_mono (fun y h => put h) h
 all_goals exact val h
theorem qG_awp {A : Env} {ops : List Oper} {o : Oper} {s : St} {d : Nat} (hd : o.dst = some d) (hlt : d < s.n) {K : St → Prop} (h : qG A ops o s fun av => K { n := s.n, env := upd s.env d av, heap := s.heap }) : awpG A ops o s K := by
 have put : ∀ {av : AV}, K { n := s.n, env := upd s.env d av, heap := s.heap } → putK s o.dst av s.heap K := fun {av} h => by rw [hd]; exact ⟨hlt, h⟩
 unfold qG at h
 unfold awpG
 cases hg : o.guard with
 | none => rw [hg] at h; exact qOp_awp hd hlt h
 | some jw =>
  obtain ⟨j, want⟩ := jw
  rw [hg] at h
  simp only at h ⊢
  cases ht : dstAt ops j with
  | none => rw [ht] at h; exact put h
  | some t =>
   rw [ht] at h
   simp only at h ⊢
   generalize hq : s.env t = q at h ⊢
   split at h
   ·rename_i v
    have hv := hq
    have hl := litS_ok (s := s) (x := .tmp t) hv
    refine splitB_same (fun e h => ?_) (fun e h => ?_) h
    ·subst e
     rw [hl] at h ⊢
     cases want with
     | true => exact qOp_awp hd hlt h
     | false => exact put h
    ·subst e
     rw [hl] at h ⊢
     cases want with
     | true => exact put h
     | false => exact qOp_awp hd hlt h
   ·exact put h
   ·exact h.elim
def onB (o : Oper) (i : Nat) : Bool := o.after.toList.any fun e => Region.binds .any e && e.on == i
def quietB (ops : Array Oper) : Bool :=
 (List.range ops.size).all fun i => match (ops[i]? : Option Oper) with
   | some o => o.dst.isSome && o.after.toList.all (fun e => !Region.binds .any e || decide (e.on < i)) &&
    (List.range ops.size).all fun j => i == j || match (ops[j]? : Option Oper) with
      | some p => (p.dst != o.dst) && (match p.dst with | some t => !(o.looksAt ops).contains t || onB o j || onB p i | none => true)
      | none => true
   | none => true
structure Quiet (ops : Array Oper) : Prop where
 dst : ∀ (i : Nat) (o : Oper), ops[i]? = some o → ∃ d, o.dst = some d
 back : ∀ (i : Nat) (o : Oper), ops[i]? = some o → ∀ e ∈ o.after, Region.binds .any e = true → e.on < i
 ne : ∀ (i j : Nat) (o p : Oper), ops[i]? = some o → ops[j]? = some p → i ≠ j → p.dst ≠ o.dst
 look : ∀ (i j : Nat) (o p : Oper) (t : Nat), ops[i]? = some o → ops[j]? = some p → i ≠ j → p.dst = some t → t ∈ o.looksAt ops → onB o j = true ∨ onB p i = true
theorem lt_of_some {ops : Array Oper} {i : Nat} {o : Oper} (h : ops[i]? = some o) : i < ops.size := (Array.getElem?_eq_some_iff.1 h).1
theorem quietB_ok {ops : Array Oper} (h : quietB ops = true) : Quiet ops := by
 simp only [quietB, List.all_eq_true, List.mem_range] at h
 have at1 : ∀ (i : Nat) (o : Oper), ops[i]? = some o → (o.dst.isSome = true ∧ (∀ e ∈ o.after.toList, (!Region.binds .any e || decide (e.on < i)) = true)) ∧ ∀ j, j < ops.size → (i == j || match (ops[j]? : Option Oper) with
  | some p => (p.dst != o.dst) && (match p.dst with | some t => !(o.looksAt ops).contains t || onB o j || onB p i | none => true)
  | none => true) = true := by
  intro i o ho
  have := h i (lt_of_some ho)
  rw [ho] at this
  simp only [Bool.and_eq_true, List.all_eq_true, List.mem_range] at this
  exact this
 have at2 : ∀ (i j : Nat) (o p : Oper), ops[i]? = some o → ops[j]? = some p → i ≠ j → (p.dst != o.dst) = true ∧ (match p.dst with | some t => !(o.looksAt ops).contains t || onB o j || onB p i | none => true) = true := by
  intro i j o p ho hp hne
  have := (at1 i o ho).2 j (lt_of_some hp)
  rw [hp] at this
  simp only [Bool.or_eq_true, beq_iff_eq, hne, false_or, Bool.and_eq_true] at this
  exact this
 refine ⟨fun i o ho => Option.isSome_iff_exists.1 (at1 i o ho).1.1, fun i o ho e he hb => ?_, fun i j o p ho hp hne e => ?_, fun i j o p t ho hp hne ht hm => ?_⟩
 ·have := (at1 i o ho).1.2 e (by simpa using he)
  simp only [hb, Bool.not_true, Bool.false_or, decide_eq_true_eq] at this
  exact this
 ·have := (at2 i j o p ho hp hne).1
  simp [e] at this
 ·have := (at2 i j o p ho hp hne).2
  rw [ht] at this
  simp only [Bool.or_eq_true, Bool.not_eq_true', List.contains_eq_mem, decide_eq_false_iff_not] at this
  rcases this with (h1 | h1) | h1
  ·exact absurd hm h1
  ·exact .inl h1
  ·exact .inr h1
theorem onB_spec {o : Oper} {i : Nat} (h : onB o i = true) : ∃ e ∈ o.after, Region.binds .any e = true ∧ e.on = i := by
 simp only [onB, List.any_eq_true, Bool.and_eq_true, beq_iff_eq] at h
 obtain ⟨e, he, h1, h2⟩ := h
 exact ⟨e, by simpa using he, h1, h2⟩
structure Half (ops : Array Oper) (s : St) (vals : Nat → AV) (L : Nat → Prop) (s' : St) : Prop where
 n : s'.n = s.n
 heap : s'.heap = s.heap
 done : ∀ (j : Nat) (o : Oper) (d : Nat), L j → ops[j]? = some o → o.dst = some d → s'.env d = vals j
 rest : ∀ (t : Nat), (∀ (j : Nat) (o : Oper), L j → ops[j]? = some o → o.dst ≠ some t) → s'.env t = s.env t
theorem Half.put {ops : Array Oper} {s s' : St} {vals : Nat → AV} {L : Nat → Prop} (hq : Quiet ops) (h : Half ops s vals L s') {i d : Nat} {o : Oper} (ho : ops[i]? = some o) (hd : o.dst = some d) (hn : ¬ L i) :
 Half ops s vals (fun j => L j ∨ j = i) { n := s'.n, env := upd s'.env d (vals i), heap := s'.heap } := by
 refine ⟨h.n, h.heap, fun j p d' hj hp hd' => ?_, fun t ht => ?_⟩
 ·by_cases e : j = i
  ·subst e
   rw [ho] at hp; cases hp
   rw [hd] at hd'; cases hd'
   simp [upd]
  ·have hj := hj.resolve_right e
   have : d' ≠ d := fun e2 => hq.ne i j o p ho hp (Ne.symm e) (by rw [hd', hd, e2])
   simp only [upd, if_neg this]
   exact h.done j p d' hj hp hd'
 ·have : t ≠ d := fun e => ht i o (.inr rfl) ho (by rw [hd, e])
  simp only [upd, if_neg this]
  exact h.rest t fun j p hj hp => ht j p (.inl hj) hp
theorem seq_vals {A : Env} {ops : Array Oper} (hq : Quiet ops) {s : St} {K : St → Prop} : ∀ (os pre : List Oper) (s' : St) (vals : Nat → AV), ops.toList = pre ++ os → Half ops s vals (fun j => j < pre.length) s' → awpQs A ops.toList K os s' →
 (∀ (j : Nat) (o : Oper), j < pre.length → ops[j]? = some o → ∃ d sj, o.dst = some d ∧ d < s.n ∧ Half ops s vals (fun i => i < j) sj ∧ ∀ K' : AV → Prop, K' (vals j) → qG A ops.toList o sj K') →
 ∃ vals' s'', (∀ j, j < pre.length → vals' j = vals j) ∧ Half ops s vals' (fun j => j < ops.size) s'' ∧ K s'' ∧ ∀ (j : Nat) (o : Oper), ops[j]? = some o → ∃ d sj, o.dst = some d ∧ d < s.n ∧ Half ops s vals' (fun i => i < j) sj ∧ ∀ K' : AV → Prop, K' (vals' j) → qG A ops.toList o sj K'
 | [], pre, s', vals, he, hh, hk, hd => by
  have hl : pre.length = ops.size := by rw [← Array.length_toList, he]; simp
  refine ⟨vals, s', fun _ _ => rfl, by rw [← hl]; exact hh, hk, fun j o ho => hd j o (by rw [hl]; exact lt_of_some ho) ho⟩
 | o :: os, pre, s', vals, he, hh, hk, hdone => by
  have ho : ops[pre.length]? = some o := by rw [← Array.getElem?_toList, he]; simp
  obtain ⟨d, hd⟩ := hq.dst _ o ho
  simp only [awpQs, hd] at hk
  obtain ⟨hlt, hk⟩ := hk
  obtain ⟨av, hk1, hk2⟩ := qG_det hk
  have keepH : ∀ {j sj}, j ≤ pre.length → Half ops s vals (fun i => i < j) sj → Half ops s (fun k => if k = pre.length then av else vals k) (fun i => i < j) sj := by
   intro j sj hj h
   refine ⟨h.n, h.heap, fun k p d' hk hp hd' => ?_, h.rest⟩
   have hk : k < j := hk
   rw [if_neg (by omega)]
   exact h.done k p d' hk hp hd'
  have h2 := (keepH (Nat.le_refl _) hh).put hq ho hd (Nat.lt_irrefl _)
  simp only [if_true] at h2
  have h3 : Half ops s (fun k => if k = pre.length then av else vals k) (fun j => j < (pre ++ [o]).length) { n := s'.n, env := upd s'.env d av, heap := s'.heap } := by
   refine ⟨h2.n, h2.heap, fun j p d' hj hp hd' => h2.done j p d' ?_ hp hd', fun t ht => h2.rest t fun j p hj hp => ht j p ?_ hp⟩
   ·have hj : j < (pre ++ [o]).length := hj
    simp only [List.length_append, List.length_cons, List.length_nil] at hj
    show j < pre.length ∨ j = pre.length
    omega
   ·show j < (pre ++ [o]).length
    simp only [List.length_append, List.length_cons, List.length_nil]
    rcases hj with hj | hj
    ·have hj : j < pre.length := hj; omega
    ·omega
  obtain ⟨vals', s'', e1, e2, e3, e4⟩ := seq_vals hq os (pre ++ [o]) _ _ (by rw [he]; simp) h3 hk1 (fun j p hj hp => by
   simp only [List.length_append, List.length_cons, List.length_nil] at hj
   by_cases e : j = pre.length
   ·subst e
    rw [ho] at hp; cases hp
    refine ⟨d, s', hd, by rw [← hh.n]; exact hlt, keepH (Nat.le_refl _) hh, fun K' hk' => hk2 K' (by simpa using hk')⟩
   ·obtain ⟨d', sj, q1, q2, q3, q4⟩ := hdone j p (by omega) hp
    exact ⟨d', sj, q1, q2, keepH (by omega) q3, fun K' hk' => q4 K' (by rw [if_neg e] at hk'; exact hk')⟩)
  refine ⟨vals', s'', fun j hj => ?_, e2, e3, e4⟩
  rw [e1 j (by simp only [List.length_append, List.length_cons, List.length_nil]; omega), if_neg (by omega)]
theorem Half.same {ops : Array Oper} {s s1 s2 : St} {vals : Nat → AV} {L L' : Nat → Prop} (h1 : Half ops s vals L s1) (h2 : Half ops s vals L' s2) (hL : ∀ (j : Nat) (o : Oper), ops[j]? = some o → (L j ↔ L' j)) : s1 = s2 := by
 obtain ⟨n1, e1, k1⟩ := s1
 obtain ⟨n2, e2, k2⟩ := s2
 have hn : n1 = n2 := h1.n.trans h2.n.symm
 have hk : k1 = k2 := h1.heap.trans h2.heap.symm
 have he : e1 = e2 := by
  funext t
  by_cases h : ∃ (j : Nat) (o : Oper), L j ∧ ops[j]? = some o ∧ o.dst = some t
  ·obtain ⟨j, o, hj, ho, hd⟩ := h
   have a1 := h1.done j o t hj ho hd
   have a2 := h2.done j o t ((hL j o ho).1 hj) ho hd
   exact a1.trans a2.symm
  ·have a1 := h1.rest t fun j o hj ho hd => h ⟨j, o, hj, ho, hd⟩
   have a2 := h2.rest t fun j o hj ho hd => h ⟨j, o, (hL j o ho).2 hj, ho, hd⟩
   exact a1.trans a2.symm
 rw [hn, hk, he]
theorem Half.iff {ops : Array Oper} {s s1 : St} {vals : Nat → AV} {L L' : Nat → Prop} (h1 : Half ops s vals L s1) (hL : ∀ (j : Nat) (o : Oper), ops[j]? = some o → (L j ↔ L' j)) : Half ops s vals L' s1 :=
 ⟨h1.n, h1.heap, fun j o d hj ho hd => h1.done j o d ((hL j o ho).2 hj) ho hd, fun t ht => h1.rest t fun j o hj ho => ht j o ((hL j o ho).1 hj) ho⟩
theorem countP_lt {α : Type} {p q : α → Bool} : ∀ {l : List α}, (∀ x ∈ l, p x = true → q x = true) → (∃ x ∈ l, q x = true ∧ p x = false) → l.countP p < l.countP q
 | [], _, ⟨x, hx, _⟩ => by cases hx
 | y :: l, h, ⟨x, hx, h1, h2⟩ => by
  have hle : l.countP p ≤ l.countP q := List.countP_mono_left fun z hz => h z (by simp [hz])
  rw [List.countP_cons, List.countP_cons]
  rcases List.mem_cons.1 hx with rfl | hx
  ·simp [h1, h2]; omega
  ·have := countP_lt (fun z hz => h z (by simp [hz])) ⟨x, hx, h1, h2⟩
   have h3 := h y (by simp)
   cases hp : p y <;> cases hq : q y <;> simp_all <;> omega
theorem any_quiet {A : Env} {ops : Array Oper} (hq : Quiet ops) {s s'' : St} {vals : Nat → AV} {K : St → Prop} (hfin : Half ops s vals (fun j => j < ops.size) s'') (hK : K s'')
 (hops : ∀ (j : Nat) (o : Oper), ops[j]? = some o → ∃ d sj, o.dst = some d ∧ d < s.n ∧ Half ops s vals (fun i => i < j) sj ∧ ∀ K' : AV → Prop, K' (vals j) → qG A ops.toList o sj K') :
 ∀ (n : Nat) (listed : Array Bool) (s' : St), listed.size = ops.size → Half ops s vals (fun j => listed.getD j false = true) s' → (∀ (j : Nat) (o : Oper), ops[j]? = some o → listed.getD j false = true → ∀ e ∈ o.after, Region.binds .any e = true → listed.getD e.on false = true) →
  (List.range ops.size).countP (fun j => !listed.getD j false) ≤ n → awpAny A ops K n listed s' := by
 -- where nothing is ready, all is done
 have full : ∀ (listed : Array Bool), listed.size = ops.size → Region.ready .any ops listed = [] → ∀ j, j < ops.size → listed.getD j false = true := by
  intro listed hl hr j
  induction j using Nat.strongRecOn with
  | _ j ih =>
   intro hj
   cases hb : listed.getD j false with
   | true => rfl
   | false =>
    exfalso
    have ho : ops[j]? = some ops[j] := Array.getElem?_eq_getElem hj
    have hm : j ∈ Region.ready .any ops listed := mem_ready.2 ⟨by
     have : j < listed.size := by omega
     simp [this] at hb ⊢; exact hb, ops[j], ho, fun e he hbd => by
     have := hq.back j _ ho e he hbd
     exact ih e.on this (by omega)⟩
    rw [hr] at hm
    cases hm
 have last : ∀ (listed : Array Bool) (s' : St), listed.size = ops.size → Half ops s vals (fun j => listed.getD j false = true) s' → Region.ready .any ops listed = [] → K s' := by
  intro listed s' hl hh hr
  have := hh.same hfin fun j o ho => ⟨fun _ => lt_of_some ho, fun hj => full listed hl hr j hj⟩
  rw [this]; exact hK
 intro n
 induction n with
 | zero =>
  intro listed s' hl hh hc hn
  have hr : Region.ready .any ops listed = [] := by
   refine List.eq_nil_iff_forall_not_mem.2 fun j hj => ?_
   obtain ⟨h1, o, ho, _⟩ := mem_ready.1 hj
   have hz : (List.range ops.size).countP (fun j => !listed.getD j false) = 0 := by omega
   rw [List.countP_eq_zero] at hz
   have := hz j (List.mem_range.2 (lt_of_some ho))
   have hlt : j < listed.size := by rw [hl]; exact lt_of_some ho
   simp [hlt] at this h1
   rw [h1] at this; cases this
  exact ⟨hr, last listed s' hl hh hr⟩
 | succ n ih =>
  intro listed s' hl hh hc hn
  refine ⟨last listed s' hl hh, fun i hi => ?_⟩
  obtain ⟨hun, o, ho, hall⟩ := mem_ready.1 hi
  have hil : i < listed.size := by rw [hl]; exact lt_of_some ho
  have hun' : listed.getD i false = false := by simp [hil] at hun ⊢; exact hun
  have ho' : ops.toList[i]? = some o := by rw [Array.getElem?_toList]; exact ho
  rw [ho']
  obtain ⟨d, sj, hd, hlt, hsj, hqg⟩ := hops i o ho
  have hag : Agree ops o sj s' := by
   refine ⟨hsj.heap.trans hh.heap.symm, fun t ht => ?_⟩
   by_cases hw : ∃ (j : Nat) (p : Oper), ops[j]? = some p ∧ p.dst = some t
   ·obtain ⟨j, p, hp, hdp⟩ := hw
    have uniq : ∀ (k : Nat) (r : Oper), ops[k]? = some r → r.dst = some t → k = j := fun k r hr hdr => by
     by_cases e : k = j
     ·exact e
     ·exact absurd (hdr.trans hdp.symm) (hq.ne j k p r hp hr (Ne.symm e))
    by_cases e : i = j
    ·subst e
     have a1 := hsj.rest t fun k r hk hr hdr => by have := uniq k r hr hdr; have hk : k < i := hk; omega
     have a2 := hh.rest t fun k r hk hr hdr => by
      have := uniq k r hr hdr
      subst this
      have hk : listed.getD k false = true := hk
      rw [hun'] at hk; cases hk
     exact a1.trans a2.symm
    ·rcases hq.look i j o p t ho hp e hdp ht with h1 | h1
     ·obtain ⟨ed, he, hb, rfl⟩ := onB_spec h1
      have b1 := hq.back i o ho ed he hb
      have a1 := hsj.done ed.on p t b1 hp hdp
      have a2 := hh.done ed.on p t (hall ed he hb) hp hdp
      exact a1.trans a2.symm
     ·obtain ⟨ed, he, hb, rfl⟩ := onB_spec h1
      have b1 := hq.back j p hp ed he hb
      have a1 := hsj.rest t fun k r hk hr hdr => by have := uniq k r hr hdr; have hk : k < ed.on := hk; omega
      have a2 := hh.rest t fun k r hk hr hdr => by
       have := uniq k r hr hdr
       subst this
       have := hc k p hp hk ed he hb
       rw [hun'] at this; cases this
      exact a1.trans a2.symm
   ·have a1 := hsj.rest t fun k r _ hr hdr => hw ⟨k, r, hr, hdr⟩
    have a2 := hh.rest t fun k r _ hr hdr => hw ⟨k, r, hr, hdr⟩
    exact a1.trans a2.symm
  have hput := hh.put hq ho hd (by show ¬ (listed.getD i false = true); rw [hun']; simp)
  have hget : ∀ j, (listed.setIfInBounds i true).getD j false = true ↔ (listed.getD j false = true ∨ j = i) := fun j => by
   by_cases e : j = i
   ·subst e; simp [hil]
   ·rw [getD_set_ne false (Ne.symm e)]; simp [e]
  refine qG_awp hd (by rw [hh.n]; exact hlt) (qG_congr hag (hqg _ ?_))
  refine ih (listed.setIfInBounds i true) _ (by simpa using hl) (hput.iff fun j p hp => (hget j).symm) (fun j p hp hj e he hb => ?_) ?_
  ·rw [hget] at hj ⊢
   rcases hj with hj | rfl
   ·exact .inl (hc j p hp hj e he hb)
   ·rw [ho] at hp; cases hp
    exact .inl (hall e he hb)
  ·have := countP_lt (p := fun j => !(listed.setIfInBounds i true).getD j false) (q := fun j => !listed.getD j false) (l := List.range ops.size) (fun j _ hj => by
    cases hb : listed.getD j false with
    | false => rfl
    | true => have := (hget j).2 (.inl hb); simp only [this] at hj; cases hj) ⟨i, List.mem_range.2 (lt_of_some ho), by simp only [hun']; rfl, by
    have := (hget i).2 (.inr rfl); simp only [this]; rfl⟩
   omega
theorem awp_quiet {A : Env} {id : Nat} {ops : Array Oper} {Q : Exit → St → Prop} {s : St} (hq : quietB ops = true) (h : awpQs A ops.toList (Q .normal) ops.toList s) : awp A (.region id ops true) Q s := by
 have hQ := quietB_ok hq
 obtain ⟨vals, s'', _, e2, e3, e4⟩ := seq_vals hQ ops.toList [] s (fun _ => .x) rfl ⟨rfl, rfl, fun j o d hj => absurd hj (Nat.not_lt_zero _), fun t _ => rfl⟩ h (fun j o hj => absurd hj (Nat.not_lt_zero _))
 show awpAny A ops (Q .normal) ops.size (Array.replicate ops.size false) s
 have hrep : ∀ j, (Array.replicate ops.size false).getD j false = false := fun j => by
  by_cases hj : j < ops.size <;> simp [hj]
 refine any_quiet hQ e2 e3 e4 _ _ _ (by simp) ⟨rfl, rfl, fun j o d hj => ?_, fun t _ => rfl⟩ (fun j o ho hj => ?_) (Nat.le_trans List.countP_le_length (by simp))
 ·have hj : (Array.replicate ops.size false).getD j false = true := hj
  rw [hrep] at hj; cases hj
 ·rw [hrep] at hj; cases hj
end Go.Fs
namespace Go.Fs
theorem awp_any {A : Env} {id : Nat} {ops : Array Oper} {Q : Exit → St → Prop} {s : St} (h : awpAny A ops (Q .normal) ops.size (Array.replicate ops.size false) s) : awp A (.region id ops true) Q s := by
 simp only [awp]; exact h
end Go.Fs
namespace Go.Fs
def Ext (H H' : Nat → Option Ob) : Prop := ∀ k o, H k = some o → H' k = some o
theorem Ext.refl (H : Nat → Option Ob) : Ext H H := fun _ _ h => h
theorem opLoad_ext {T : Tab} {H H' : Nat → Option Ob} (he : Ext H H') {ty : TypeId} {p av : AV} (h : opLoad T H ty p = some av) : opLoad T H' ty p = some av := by
 unfold opLoad at h ⊢
 obtain ⟨ti, h1, h⟩ := Option.bind_eq_some_iff.1 h
 obtain ⟨ag, h2, h⟩ := Option.bind_eq_some_iff.1 h
 rw [h1, Option.bind_some, h2, Option.bind_some]
 split at h
 case isFalse => cases h
 rename_i hc
 rw [if_pos hc]
 split at h
 ·split at h
  ·rename_i hk; simp only [he _ _ hk]; exact h
  ·cases h
 ·exact h
 ·exact h
 ·split at h
  ·rename_i hk; simp only [he _ _ hk]; exact h
  ·cases h
 ·cases h
theorem opField_ext {T : Tab} {H H' : Nat → Option Ob} (he : Ext H H') {ty : TypeId} {p av : AV} {f : Nat} (h : opField T H ty p f = some av) : opField T H' ty p f = some av := by
 unfold opField at h ⊢
 obtain ⟨ti, h1, h⟩ := Option.bind_eq_some_iff.1 h
 rw [h1, Option.bind_some]
 split at h
 case h_2 => cases h
 rename_i fs hk
 try rw [hk]
 obtain ⟨x, h2, h⟩ := Option.bind_eq_some_iff.1 h
 simp only [h2, Option.bind_some]
 split at h
 ·split at h
  ·rename_i hk; simp only [he _ _ hk]; exact h
  ·cases h
 ·split at h
  ·rename_i hk; simp only [he _ _ hk]; exact h
  ·cases h
 ·exact h
 ·exact h
 ·cases h
theorem opIndex_ext {T : Tab} {H H' : Nat → Option Ob} (he : Ext H H') {ty : TypeId} {x ix av : AV} (h : opIndex T H ty x ix = some av) : opIndex T H' ty x ix = some av := by
 unfold opIndex at h ⊢
 obtain ⟨ti, h1, h⟩ := Option.bind_eq_some_iff.1 h
 rw [h1, Option.bind_some]
 split at h
 ·rename_i e hk
  try rw [hk]
  obtain ⟨te, h2, h⟩ := Option.bind_eq_some_iff.1 h
  simp only [h2, Option.bind_some]
  split at h
  case h_2 => cases h
  split at h
  ·split at h
   ·rename_i hk; simp only [he _ _ hk]; exact h
   ·cases h
  ·exact h
  ·cases h
 ·exact h
 ·cases h
def rdB (o : Oper) : Bool := o.guard.isNone && match o.op with
 | .move _ => true
 | .assign _ => true
 | .load _ _ => true
 | .fieldAddr _ _ _ => true
 | .indexAddr _ _ _ => true
 | _ => false
def frB (o : Oper) : Bool := o.guard.isNone && match o.op with
 | .move _ => true
 | .assign _ => true
 | .load _ _ => true
 | .fieldAddr _ _ _ => true
 | .indexAddr _ _ _ => true
 | .alloc _ => true
 | .box _ _ => true
 | .build _ _ => true
 | .buildSlice _ _ _ => true
 | .unOp _ _ _ => true
 | .call c => match c.callee with
  | .value _ => true
  | .builtin _ => true
  | _ => false
 | _ => false
theorem putK_frame {s s' : St} {d : Nat} {av : AV} {H : Nat → Option Ob} {K K' : St → Prop} (hn : s.n = s'.n) (hk : ∀ av H, K ⟨s.n, upd s.env d av, H⟩ → K' ⟨s'.n, upd s'.env d av, H⟩) (h : putK s (some d) av H K) : putK s' (some d) av H K' :=
 ⟨by rw [← hn]; exact h.1, hk _ _ h.2⟩
theorem callW_frame {A : Env} {s s' : St} {d : Nat} {f : FuncId} {args : List AV} {K K' : St → Prop} (hn : s.n = s'.n) (hh : s.heap = s'.heap) (hk : ∀ av H, K ⟨s.n, upd s.env d av, H⟩ → K' ⟨s'.n, upd s'.env d av, H⟩) (h : callW A s (some d) f args K) : callW A s' (some d) f args K' := by
 unfold callW at h ⊢
 rw [← hh]
 split at h
 ·exact h
 ·exact OkO_mono (fun ds h => OkO_mono (fun r h => ⟨by rw [← hh]; exact h.1, by rw [← hh]; exact putK_frame hn hk h.2⟩) h) h
 ·exact OkO_mono (fun H1 h => ⟨by rw [← hh]; exact h.1, OkO_mono (fun ds h => OkO_mono (fun r h => putK_frame hn hk h) h) h.2⟩) h
 ·split at h
  ·exact h
  ·split at h
   ·exact ⟨h.1, OkO_mono (fun ds h => OkO_mono (fun r h => ⟨by rw [← hh]; exact h.1, by rw [← hh]; exact h.2.1, by rw [← hh]; exact putK_frame hn hk h.2.2⟩) h) h.2⟩
   ·exact h
  ·refine OkO_mono (fun x h => ?_) h
   unfold ioK at h ⊢
   rw [← hh]
   refine OkO_mono (fun ds h => OkO_mono (fun r h => ?_) h) h
   unfold ioK2 at h ⊢
   rw [← hh]
   exact ⟨h.1, h.2.1, OkO_mono (fun os h => ⟨by rw [← hh]; exact h.1, by rw [← hh]; exact putK_frame hn hk h.2⟩) h.2.2⟩
 ·refine OkO_mono (fun y h => ?_) h
  unfold eatK at h ⊢
  rw [← hh]
  exact putK_frame hn hk h
 ·refine OkO_mono (fun y h => ?_) h
  unfold eatK at h ⊢
  rw [← hh]
  exact putK_frame hn hk h
 ·refine OkO_mono (fun y h => ?_) h
  unfold eatK at h ⊢
  rw [← hh]
  exact putK_frame hn hk h
 ·obtain ⟨y, h1, h⟩ := h
  refine ⟨y, h1, ?_⟩
  unfold eatK at h ⊢
  rw [← hh]
  exact putK_frame hn hk h
theorem panW_frame {A : Env} {s s' : St} {dst : Option Nat} {f : FuncId} {args : List AV} (hh : s.heap = s'.heap) (h : panW A s dst f args) : panW A s' dst f args := by
 unfold panW at h ⊢
 rw [← hh]
 exact h
theorem awpG_frame {A : Env} {ops : Array Oper} {o : Oper} {s s' : St} {d : Nat} (hf : frB o = true) (hd : o.dst = some d) (ha : Agree ops o s s') (hn : s.n = s'.n) {K K' : St → Prop} (hk : ∀ av H, K ⟨s.n, upd s.env d av, H⟩ → K' ⟨s'.n, upd s'.env d av, H⟩) (h : awpG A ops.toList o s K) : awpG A ops.toList o s' K' := by
 simp only [frB, Bool.and_eq_true, Option.isNone_iff_eq_none] at hf
 obtain ⟨hg, hf⟩ := hf
 unfold awpG at h ⊢
 rw [hg] at h ⊢
 simp only at h ⊢
 have val : valW A o s K → valW A o s' K' := fun h => by
  unfold valW at h ⊢
  rw [← valOp_congr ha]
  refine OkO_mono (fun y h => ?_) h
  unfold valK at h ⊢
  rw [hd] at h ⊢
  exact putK_frame hn hk h
 unfold awpOp at h ⊢
 split at hf <;> rename_i hop <;> simp only [hop] at h ⊢ <;> try exact val h
 ·rename_i c
  cases hc : c.callee with
  | invoke r m => rw [hc] at hf; cases hf
  | builtin b => rw [hc] at h; simp only at h ⊢; exact val h
  | value f =>
   rw [hc] at h
   simp only at h ⊢
   have e1 := ha.ev (x := f) (by rw [hop]; simp [Op.operands, Call.operands, hc])
   have e2 := zargs_congr (T := A.T) (s := s) (s' := s') c.args.toList c.argTypes.toList fun x hx => ha.ev (x := x) (by rw [hop]; simp [Op.operands, Call.operands, hc]; exact .inr (by simpa using hx))
   rw [← e1, ← e2]
   rw [hd] at h ⊢
   split at h
   ·exact h.imp (callW_frame hn ha.1 hk) (panW_frame ha.1)
   ·exact ⟨h.1, callW_frame hn ha.1 hk h.2⟩
   ·exact h
 ·cases hf
theorem rd_det {A : Env} {ops : Array Oper} {o : Oper} {s : St} {d : Nat} (hr : rdB o = true) (hd : o.dst = some d) {N : St → Prop} (h : awpG A ops.toList o s fun s' => s'.heap = s.heap ∧ N s') :
 ∃ av, d < s.n ∧ N ⟨s.n, upd s.env d av, s.heap⟩ ∧ ∀ (s' : St), s'.n = s.n → (∀ t ∈ o.looksAt ops, s.env t = s'.env t) → Ext s.heap s'.heap → ∀ N' : St → Prop, N' ⟨s'.n, upd s'.env d av, s'.heap⟩ → awpG A ops.toList o s' fun s'' => s''.heap = s'.heap ∧ N' s'' := by
 simp only [rdB, Bool.and_eq_true, Option.isNone_iff_eq_none] at hr
 obtain ⟨hg, hr⟩ := hr
 unfold awpG at h ⊢
 rw [hg] at h ⊢
 simp only at h ⊢
 have key : ∀ {v : Option (AV × (Nat → Option Ob))} (e : valOp A.T s o = v), OkO v (valK s o.dst fun s' => s'.heap = s.heap ∧ N s') →
  (∀ (av : AV) (s' : St), v = some (av, s.heap) → s'.n = s.n → (∀ t ∈ o.looksAt ops, s.env t = s'.env t) → Ext s.heap s'.heap → valOp A.T s' o = some (av, s'.heap)) →
  ∃ av, d < s.n ∧ N ⟨s.n, upd s.env d av, s.heap⟩ ∧ ∀ (s' : St), s'.n = s.n → (∀ t ∈ o.looksAt ops, s.env t = s'.env t) → Ext s.heap s'.heap → ∀ N' : St → Prop, N' ⟨s'.n, upd s'.env d av, s'.heap⟩ → valW A o s' fun s'' => s''.heap = s'.heap ∧ N' s'' := by
  intro v e h hst
  obtain ⟨⟨av, H1⟩, rfl, h⟩ := OkO_inv h
  unfold valK at h
  rw [hd] at h
  obtain ⟨h1, h2, h3⟩ := h
  simp only at h1 h2 h3
  subst h2
  refine ⟨av, h1, h3, fun s' hn ha he N' hN => ?_⟩
  unfold valW
  rw [hst av s' rfl hn ha he, OkO_some]
  unfold valK
  rw [hd]
  exact ⟨by rw [hn]; exact h1, rfl, hN⟩
 have ev : ∀ {s' : St} (ha : ∀ t ∈ o.looksAt ops, s.env t = s'.env t) {x : Operand}, x ∈ o.op.operands.toList → s.ev x = s'.ev x := fun {s'} ha {x} hx => by
  cases x with
  | tmp t => exact ha t (List.mem_append_left _ (List.mem_filterMap.2 ⟨.tmp t, hx, rfl⟩))
  | _ => rfl
 have map1 : ∀ {x : Option AV} {H : Nat → Option Ob} {av : AV}, x.map (·, H) = some (av, H) → x = some av := fun {x H av} h => by
  cases x with
  | none => cases h
  | some y => simp at h; rw [h]
 unfold awpOp at h ⊢
 split at hr <;> rename_i hop <;> simp only [hop] at h ⊢ <;> try (cases hr; done)
 ·refine key rfl h fun av s' hv hn ha he => ?_
  have e1 := ev ha (x := _) (by rw [hop]; simp [Op.operands]; rfl)
  simp only [valOp, hop, Option.some.injEq, Prod.mk.injEq, and_true] at hv ⊢
  rw [← e1]; exact hv
 ·refine key rfl h fun av s' hv hn ha he => ?_
  have e1 := ev ha (x := _) (by rw [hop]; simp [Op.operands]; rfl)
  simp only [valOp, hop, Option.some.injEq, Prod.mk.injEq, and_true] at hv ⊢
  rw [← e1]; exact hv
 ·refine key rfl h fun av s' hv hn ha he => ?_
  have e1 := ev ha (x := _) (by rw [hop]; simp [Op.operands]; rfl)
  simp only [valOp, hop] at hv ⊢
  rw [← e1, opLoad_ext he (map1 hv)]
  rfl
 ·refine key rfl h fun av s' hv hn ha he => ?_
  have e1 := ev ha (x := _) (by rw [hop]; simp [Op.operands]; rfl)
  simp only [valOp, hop] at hv ⊢
  rw [← e1, opField_ext he (map1 hv)]
  rfl
 ·rename_i ty x i
  refine key rfl h fun av s' hv hn ha he => ?_
  have e1 := ev ha (x := x) (by rw [hop]; simp [Op.operands])
  have e2 := ev ha (x := i) (by rw [hop]; simp [Op.operands])
  simp only [valOp, hop] at hv ⊢
  rw [← e1, ← e2]
  unfold dem1 at hv ⊢
  obtain ⟨⟨x', H'⟩, hx, hv⟩ := Option.bind_eq_some_iff.1 hv
  obtain ⟨av', h1, h2⟩ := Option.map_eq_some_iff.1 hv
  simp only [Prod.mk.injEq] at h2
  obtain ⟨rfl, rfl⟩ := h2
  simp only at h1
  have hd2 : demote s'.heap (s.ev x) = some (x', s'.heap) := by
   generalize s.ev x = q at hx
   have d1 : ∀ {q x' : AV}, demote1 s.heap q = some (x', s.heap) → demote1 s'.heap q = some (x', s'.heap) := by
    intro q x' hx
    unfold demote1 at hx ⊢
    split at hx
    ·split at hx
     ·rename_i k ve i o xo sz xs dp fz ve' hk
      rw [he _ _ hk]
      simp only
      split at hx
      ·rename_i hc
       rw [if_pos hc]
       simp only [Option.some.injEq, Prod.mk.injEq] at hx ⊢
       refine ⟨hx.1, ?_⟩
       have hx2 := hx.2
       split at hx2
       ·rename_i hdf
        have := congrFun hx2 k
        rw [upd_same, hk] at this
        simp only [Option.some.injEq, Ob.row.injEq] at this
        obtain ⟨_, _, _, hfz, _⟩ := this
        rw [← hfz] at hdf
        simp at hdf
       ·rename_i hdf; rw [if_neg hdf]
      ·cases hx
     ·cases hx
    ·simp only [Option.some.injEq, Prod.mk.injEq, and_true] at hx ⊢; exact hx
   cases q <;> simp only [demote] at hx ⊢ <;> try exact d1 hx
   rename_i cs
   obtain ⟨⟨cs', H2⟩, hc, he2⟩ := Option.map_eq_some_iff.1 hx
   simp only [Prod.mk.injEq] at he2
   obtain ⟨rfl, rfl⟩ := he2
   unfold opIndex at h1
   obtain ⟨ti, _, h1⟩ := Option.bind_eq_some_iff.1 h1
   split at h1
   ·obtain ⟨te, _, h1⟩ := Option.bind_eq_some_iff.1 h1
    split at h1 <;> cases h1
   ·obtain ⟨te, _, h1⟩ := Option.bind_eq_some_iff.1 h1
    split at h1 <;> cases h1
   ·cases h1
  rw [hd2]
  show Option.map _ (opIndex A.T s'.heap ty x' (s.ev i)) = _
  rw [opIndex_ext he h1]
  rfl
end Go.Fs
namespace Go.Fs
def ob (f : Nat) (s s' : St) : Prop := match f with
 | 0 => True
 | 1 => s'.heap = s.heap
 | _ => Ext s.heap s'.heap
def xk (f : Nat) (s : St) (N : St → Prop) (s' : St) : Prop := ob f s s' ∧ N s'
def awpXs (A : Env) (ops : Array Oper) (fl : Nat → Nat) (K : St → Prop) : List Nat → St → Prop
 | [], s => K s
 | i :: is, s => match ops.toList[i]? with
  | some o => awpG A ops.toList o s (xk (fl i) s (awpXs A ops fl K is))
  | none => False
theorem upd_comm {α : Type} (f : Nat → α) {i j : Nat} (h : i ≠ j) (a b : α) : upd (upd f i a) j b = upd (upd f j b) i a := by
 funext t
 simp only [upd]
 by_cases h1 : t = j
 ·subst h1
  rw [if_pos rfl, if_neg (fun e => h e.symm), if_pos rfl]
 ·rw [if_neg h1]
  by_cases h2 : t = i
  ·rw [if_pos h2, if_pos h2]
  ·rw [if_neg h2, if_neg h2, if_neg h1]
def apartB (ops : Array Oper) (o p : Oper) : Bool := match o.dst, p.dst with
 | some d, some e => d != e && !(o.looksAt ops).contains e && !(p.looksAt ops).contains d
 | _, _ => false
theorem swap_op {A : Env} {ops : Array Oper} {o p : Oper} {f : Nat} (hf0 : f ≠ 0) (hr : rdB o = true) (hf : frB p = true) (ha : apartB ops o p = true) {s : St} {N : St → Prop}
 (h : awpG A ops.toList o s (xk 1 s fun s1 => awpG A ops.toList p s1 (xk f s1 N))) : awpG A ops.toList p s (xk f s fun s1 => awpG A ops.toList o s1 (xk 1 s1 N)) := by
 unfold apartB at ha
 split at ha
 case h_2 => cases ha
 rename_i d e hd he
 simp only [Bool.and_eq_true, bne_iff_ne, ne_eq, Bool.not_eq_true', List.contains_eq_mem, decide_eq_false_iff_not] at ha
 obtain ⟨⟨hde, hoe⟩, hpd⟩ := ha
 obtain ⟨av, hlt, h1, hre⟩ := rd_det hr hd h
 refine awpG_frame (s := ⟨s.n, upd s.env d av, s.heap⟩) (s' := s) hf he ⟨rfl, fun t ht => ?_⟩ rfl (fun av2 H h2 => ?_) h1
 ·show upd s.env d av t = s.env t
  have : t ≠ d := fun e' => hpd (by rw [← e']; exact ht)
  simp only [upd, if_neg this]
 ·obtain ⟨h2a, h2b⟩ := h2
  have hext : Ext s.heap H := by
   match f, hf0, h2a with
   | 1, _, h => have h : H = s.heap := h; rw [h]; exact Ext.refl _
   | n + 2, _, h => exact h
  refine ⟨?_, hre ⟨s.n, upd s.env e av2, H⟩ rfl (fun t ht => ?_) hext N ?_⟩
  ·match f, hf0, h2a with
   | 1, _, h => exact h
   | n + 2, _, h => exact h
  ·have : t ≠ e := fun e' => hoe (by rw [← e']; exact ht)
   simp only [upd, if_neg this]
  ·have : upd (upd s.env e av2) d av = upd (upd s.env d av) e av2 := upd_comm _ (fun e' => hde e'.symm) _ _
   simp only
   rw [this]
   exact h2b
theorem xk_mono {f : Nat} {s s' : St} {N N' : St → Prop} (hN : ∀ s, N s → N' s) (h : xk f s N s') : xk f s N' s' := ⟨h.1, hN _ h.2⟩
def depN (ops : Array Oper) : Nat → Nat → Nat → Bool
 | 0, _, _ => false
 | n + 1, j, i => match ops.toList[i]? with
  | some o => o.after.toList.any fun e => Region.binds .any e && (e.on == j || depN ops n j e.on)
  | none => false
def okPair (ops : Array Oper) (fl : Nat → Nat) (j i : Nat) : Bool := depN ops ops.size j i || match ops.toList[j]?, ops.toList[i]? with
 | some o, some p => fl j == 1 && fl i != 0 && rdB o && frB p && apartB ops o p
 | _, _ => false
def pairsB (ops : Array Oper) (fl : Nat → Nat) : List Nat → Bool
 | [] => true
 | j :: l => l.all (okPair ops fl j) && pairsB ops fl l
def backB (ops : Array Oper) : List Nat → List Nat → Bool
 | _, [] => true
 | pre, i :: l => (match ops.toList[i]? with
  | some o => o.after.toList.all fun e => !Region.binds .any e || pre.contains e.on
  | none => false) && backB ops (i :: pre) l
def ordB (ops : Array Oper) (fl : Nat → Nat) (ord : List Nat) : Bool := pairsB ops fl ord && backB ops [] ord && decide ord.Nodup && (ord.length == ops.size)
theorem dep_listed {ops : Array Oper} {listed : Array Bool} (hc : ∀ (j : Nat) (o : Oper), ops[j]? = some o → listed.getD j false = true → ∀ e ∈ o.after, Region.binds .any e = true → listed.getD e.on false = true) :
 ∀ (n j i : Nat), depN ops n j i = true → (∀ o, ops[i]? = some o → ∀ e ∈ o.after, Region.binds .any e = true → listed.getD e.on false = true) → listed.getD j false = true
 | 0, j, i, h, _ => by cases h
 | n + 1, j, i, h, hr => by
  simp only [depN] at h
  split at h
  ·rename_i o ho
   rw [Array.getElem?_toList] at ho
   simp only [List.any_eq_true, Bool.and_eq_true, Bool.or_eq_true, beq_iff_eq] at h
   obtain ⟨e, he, hb, h⟩ := h
   have h1 := hr o ho e (by simpa using he) hb
   rcases h with rfl | h
   ·exact h1
   ·exact dep_listed hc n j e.on h fun p hp e' he' hb' => hc e.on p hp h1 e' he' hb'
  ·cases h
theorem pairs_mem {ops : Array Oper} {fl : Nat → Nat} : ∀ {l1 : List Nat} {i : Nat} {l2 : List Nat}, pairsB ops fl (l1 ++ i :: l2) = true → ∀ j ∈ l1, okPair ops fl j i = true
 | j' :: l1, i, l2, h, j, hj => by
  simp only [List.cons_append, pairsB, Bool.and_eq_true, List.all_eq_true] at h
  cases hj with
  | head => exact h.1 i (by simp)
  | tail _ hj => exact pairs_mem h.2 j hj
theorem pairs_drop {ops : Array Oper} {fl : Nat → Nat} : ∀ {l1 : List Nat} {i : Nat} {l2 : List Nat}, pairsB ops fl (l1 ++ i :: l2) = true → pairsB ops fl (l1 ++ l2) = true
 | [], i, l2, h => by simp only [List.nil_append, pairsB, Bool.and_eq_true] at h ⊢; exact h.2
 | j :: l1, i, l2, h => by
  simp only [List.cons_append, pairsB, Bool.and_eq_true, List.all_eq_true] at h ⊢
  refine ⟨fun x hx => h.1 x ?_, pairs_drop h.2⟩
  rcases List.mem_append.1 hx with hx | hx
  ·exact List.mem_append_left _ hx
  ·exact List.mem_append_right _ (.tail _ hx)
theorem to_front {A : Env} {ops : Array Oper} {fl : Nat → Nat} {K : St → Prop} {i : Nat} {l2 : List Nat} : ∀ (l1 : List Nat), (∀ j ∈ l1, okPair ops fl j i = true ∧ depN ops ops.size j i = false) → ∀ (s : St), awpXs A ops fl K (l1 ++ i :: l2) s → awpXs A ops fl K (i :: (l1 ++ l2)) s
 | [], _, s, h => h
 | j :: l1, hp, s, h => by
  obtain ⟨h1, h2⟩ := hp j (.head _)
  unfold okPair at h1
  rw [h2, Bool.false_or] at h1
  split at h1
  case h_2 => cases h1
  rename_i o p ho hpp
  simp only [Bool.and_eq_true, beq_iff_eq, bne_iff_ne, ne_eq] at h1
  obtain ⟨⟨⟨⟨a1, a2⟩, a3⟩, a4⟩, a5⟩ := h1
  simp only [List.cons_append, awpXs, ho] at h
  have h3 : awpG A ops.toList o s (xk (fl j) s (awpXs A ops fl K (i :: (l1 ++ l2)))) := awpG_mono (fun s' h => xk_mono (to_front l1 fun j' hj' => hp j' (.tail _ hj')) h) h
  rw [a1] at h3
  simp only [awpXs, hpp] at h3
  have h4 := swap_op a2 a3 a4 a5 h3
  simp only [List.cons_append, awpXs, hpp, ho, a1]
  exact h4
theorem split_at {l : List Nat} {i : Nat} (h : i ∈ l) : ∃ l1 l2, l = l1 ++ i :: l2 := List.append_of_mem h
theorem any_ord {A : Env} {ops : Array Oper} {fl : Nat → Nat} {K : St → Prop} : ∀ (n : Nat) (l : List Nat) (listed : Array Bool) (s : St), l.length = n → listed.size = ops.size → l.Nodup → (∀ j, j < ops.size → (listed.getD j false = false ↔ j ∈ l)) → (∀ j ∈ l, j < ops.size) →
 (∀ (j : Nat) (o : Oper), ops[j]? = some o → listed.getD j false = true → ∀ e ∈ o.after, Region.binds .any e = true → listed.getD e.on false = true) →
 (∀ (pre : List Nat) (i : Nat) (post : List Nat), l = pre ++ i :: post → ∀ o, ops[i]? = some o → ∀ e ∈ o.after, Region.binds .any e = true → e.on ∈ pre ∨ listed.getD e.on false = true) →
 pairsB ops fl l = true → awpXs A ops fl K l s → awpAny A ops K n listed s := by
 intro n
 induction n with
 | zero =>
  intro l listed s hn hsz hnd hmem hlt hc hb hp h
  obtain rfl := List.eq_nil_of_length_eq_zero hn
  refine ⟨List.eq_nil_iff_forall_not_mem.2 fun j hj => ?_, h⟩
  obtain ⟨h1, o, ho, _⟩ := mem_ready.1 hj
  have hj := lt_of_some ho
  have hlj : j < listed.size := by omega
  have : listed.getD j false = false := by simp [hlj] at h1 ⊢; exact h1
  exact absurd ((hmem j hj).1 this) (by simp)
 | succ n ih =>
  intro l listed s hn hsz hnd hmem hlt hc hb hp h
  refine ⟨fun he => ?_, fun i hi => ?_⟩
  ·exfalso
   cases l with
   | nil => cases hn
   | cons i l =>
    have hil := hlt i (.head _)
    have hij : listed.getD i false = false := (hmem i hil).2 (.head _)
    have : i ∈ Region.ready .any ops listed := mem_ready.2 ⟨by
     have : i < listed.size := by omega
     simp [this] at hij ⊢; exact hij, ops[i], Array.getElem?_eq_getElem hil, fun e he' hbd => by
     rcases hb [] i l rfl _ (Array.getElem?_eq_getElem hil) e he' hbd with h | h
     ·cases h
     ·exact h⟩
    rw [he] at this; cases this
  ·obtain ⟨hun, o, ho, hall⟩ := mem_ready.1 hi
   have hil := lt_of_some ho
   have hils : i < listed.size := by omega
   have hun' : listed.getD i false = false := by simp [hils] at hun ⊢; exact hun
   obtain ⟨l1, l2, rfl⟩ := split_at ((hmem i hil).1 hun')
   have hfront := to_front (A := A) (K := K) l1 (fun j hj => ⟨pairs_mem hp j hj, by
    cases hd : depN ops ops.size j i with
    | false => rfl
    | true =>
     have h1 := dep_listed hc _ _ _ hd fun p hpp => by rw [ho] at hpp; cases hpp; exact hall
     have h2 := (hmem j (hlt j (List.mem_append_left _ hj))).2 (List.mem_append_left _ hj)
     rw [h1] at h2; cases h2⟩) s h
   have ho' : ops.toList[i]? = some o := by rw [Array.getElem?_toList]; exact ho
   simp only [awpXs, ho'] at hfront
   rw [ho']
   have hnd2 := List.nodup_append.1 hnd
   have hget : ∀ j, (listed.setIfInBounds i true).getD j false = true ↔ (listed.getD j false = true ∨ j = i) := fun j => by
    by_cases e : j = i
    ·subst e; simp [hils]
    ·rw [getD_set_ne false (Ne.symm e)]; simp [e]
   have hi1 : i ∉ l1 := fun hm => hnd2.2.2 i hm i (.head _) rfl
   have hi2 : i ∉ l2 := (List.nodup_cons.1 hnd2.2.1).1
   refine awpG_mono (fun s' h' => ?_) hfront
   refine ih (l1 ++ l2) (listed.setIfInBounds i true) s' (by simp at hn ⊢; omega) (by simpa using hsz) ?_ (fun j hj => ?_) (fun j hj => ?_) (fun j p hpj hj e he hbd => ?_) (fun pre i' post heq p hpp e he hbd => ?_) (pairs_drop hp) h'.2
   ·refine List.nodup_append.2 ⟨hnd2.1, (List.nodup_cons.1 hnd2.2.1).2, fun a ha b hb => hnd2.2.2 a ha b (.tail _ hb)⟩
   ·rw [← Bool.not_eq_true, hget j]
    constructor
    ·intro hx
     have h1 : listed.getD j false = false := by cases hl : listed.getD j false with
      | false => rfl
      | true => exact absurd (.inl hl) hx
     have h2 := (hmem j hj).1 h1
     rcases List.mem_append.1 h2 with h2 | h2
     ·exact List.mem_append_left _ h2
     ·cases h2 with
      | head => exact absurd (.inr rfl) hx
      | tail _ h2 => exact List.mem_append_right _ h2
    ·intro hx hy
     rcases hy with hy | hy
     ·have : j ∈ l1 ++ i :: l2 := by
       rcases List.mem_append.1 hx with hx | hx
       ·exact List.mem_append_left _ hx
       ·exact List.mem_append_right _ (.tail _ hx)
      have := (hmem j hj).2 this
      rw [hy] at this; cases this
     ·subst hy
      rcases List.mem_append.1 hx with hx | hx
      ·exact hi1 hx
      ·exact hi2 hx
   ·rcases List.mem_append.1 hj with hj | hj
    ·exact hlt j (List.mem_append_left _ hj)
    ·exact hlt j (List.mem_append_right _ (.tail _ hj))
   ·rw [hget] at hj ⊢
    rcases hj with hj | rfl
    ·exact .inl (hc j p hpj hj e he hbd)
    ·rw [ho] at hpj; cases hpj
     exact .inl (hall e he hbd)
   ·-- what an operation waits for stands before it, or is done
    rw [hget]
    have key : ∀ (pre' post' : List Nat), l1 ++ i :: l2 = pre' ++ i' :: post' → (∀ x ∈ pre', x ∈ pre ∨ x = i) → e.on ∈ pre ∨ (listed.getD e.on false = true ∨ e.on = i) := fun pre' post' heq' hsub => by
     rcases hb pre' i' post' heq' p hpp e he hbd with h | h
     ·rcases hsub _ h with h | h
      ·exact .inl h
      ·exact .inr (.inr h)
     ·exact .inr (.inl h)
    rcases List.append_eq_append_iff.1 heq with ⟨t, h1, h2⟩ | ⟨t, h1, h2⟩
    ·-- i' stands in l2
     refine key (l1 ++ i :: t) post (by rw [List.append_assoc, List.cons_append, ← h2]) fun x hx => ?_
     rcases List.mem_append.1 hx with hx | hx
     ·exact .inl (by rw [h1]; exact List.mem_append_left _ hx)
     ·cases hx with
      | head => exact .inr rfl
      | tail _ hx => exact .inl (by rw [h1]; exact List.mem_append_right _ hx)
    ·-- i' stands in l1, or l1 is pre
     cases t with
     | nil =>
      simp only [List.append_nil] at h1
      simp only [List.nil_append] at h2
      subst h1
      refine key (l1 ++ [i]) post (by rw [List.append_assoc, h2]; rfl) fun x hx => ?_
      rcases List.mem_append.1 hx with hx | hx
      ·exact .inl hx
      ·exact .inr (List.mem_singleton.1 hx)
     | cons y t =>
      simp only [List.cons_append, List.cons.injEq] at h2
      obtain ⟨rfl, h2⟩ := h2
      refine key pre (t ++ i :: l2) (by rw [h1, List.append_assoc]; rfl) fun x hx => .inl hx
theorem back_ok {ops : Array Oper} : ∀ (l pre : List Nat), backB ops pre l = true → ∀ (p1 : List Nat) (i : Nat) (p2 : List Nat), l = p1 ++ i :: p2 → ∀ o, ops[i]? = some o → ∀ e ∈ o.after, Region.binds .any e = true → e.on ∈ p1 ∨ e.on ∈ pre
 | [], pre, _, p1, i, p2, he, _, _, _, _, _ => by cases p1 <;> cases he
 | x :: l, pre, h, p1, i, p2, heq, o, ho, e, he, hb => by
  simp only [backB, Bool.and_eq_true] at h
  cases p1 with
  | nil =>
   simp only [List.nil_append, List.cons.injEq] at heq
   obtain ⟨rfl, rfl⟩ := heq
   have h1 := h.1
   rw [Array.getElem?_toList, ho] at h1
   simp only [List.all_eq_true] at h1
   have := h1 e (by simpa using he)
   simp only [hb, Bool.not_true, Bool.false_or, List.contains_eq_mem, decide_eq_true_eq] at this
   exact .inr this
  | cons y p1 =>
   simp only [List.cons_append, List.cons.injEq] at heq
   obtain ⟨rfl, rfl⟩ := heq
   rcases back_ok _ (x :: pre) h.2 p1 i p2 rfl o ho e he hb with h1 | h1
   ·exact .inl (.tail _ h1)
   ·cases h1 with
    | head => exact .inl (.head _)
    | tail _ h1 => exact .inr h1
theorem back_lt {ops : Array Oper} : ∀ (l pre : List Nat), backB ops pre l = true → ∀ i ∈ l, i < ops.size
 | x :: l, pre, h, i, hi => by
  simp only [backB, Bool.and_eq_true] at h
  cases hi with
  | head =>
   have h1 := h.1
   split at h1
   ·rename_i o ho
    rw [Array.getElem?_toList] at ho
    exact lt_of_some ho
   ·cases h1
  | tail _ hi => exact back_lt l _ h.2 i hi
theorem len_sub : ∀ {l r : List Nat}, l.Nodup → (∀ x ∈ l, x ∈ r) → l.length ≤ r.length
 | [], r, _, _ => Nat.zero_le _
 | x :: l, r, hn, hs => by
  have hx := hs x (.head _)
  have hn2 := List.nodup_cons.1 hn
  have := len_sub (l := l) (r := r.erase x) hn2.2 fun y hy => (List.mem_erase_of_ne (fun e => hn2.1 (by rw [← e]; exact hy))).2 (hs y (.tail _ hy))
  rw [List.length_erase_of_mem hx] at this
  have : 0 < r.length := List.length_pos_of_mem hx
  simp only [List.length_cons]
  omega
theorem perm_all (n : Nat) (l : List Nat) (hnd : l.Nodup) (hl : l.length = n) (hlt : ∀ i ∈ l, i < n) (j : Nat) (hj : j < n) : j ∈ l := by
 refine Decidable.byContradiction fun hn => ?_
 have := len_sub (l := j :: l) (r := List.range n) (List.nodup_cons.2 ⟨hn, hnd⟩) fun x hx => by
  cases hx with
  | head => exact List.mem_range.2 hj
  | tail _ hx => exact List.mem_range.2 (hlt x hx)
 simp at this
 omega
theorem awp_ord {A : Env} {id : Nat} {ops : Array Oper} {Q : Exit → St → Prop} {s : St} (ord : List Nat) (fl : Nat → Nat) (hq : ordB ops fl ord = true) (h : awpXs A ops fl (Q .normal) ord s) : awp A (.region id ops true) Q s := by
 simp only [ordB, Bool.and_eq_true, decide_eq_true_eq, beq_iff_eq] at hq
 obtain ⟨⟨⟨h1, h2⟩, h3⟩, h4⟩ := hq
 refine awp_any ?_
 have hrep : ∀ j, (Array.replicate ops.size false).getD j false = false := fun j => by
  by_cases hj : j < ops.size <;> simp [hj]
 have hlt := back_lt ord [] h2
 refine any_ord ops.size ord (Array.replicate ops.size false) s h4 (by simp) h3 (fun j hj => ⟨fun _ => perm_all _ _ h3 h4 hlt j hj, fun _ => hrep j⟩) hlt (fun j o ho hj => by rw [hrep] at hj; cases hj) (fun pre i post heq o ho e he hb => ?_) h1 h
 rcases back_ok ord [] h2 pre i post heq o ho e he hb with h | h
 ·exact .inl h
 ·cases h
end Go.Fs
namespace Go.Fs
theorem RelG.nil {B : Ctx} {G : Nat → GI} {s : St} {a : Act} {w : World} (h : RelG B G s a w) {j c k' sz : Nat} {cs : List AV} (hj : s.heap j = some (.box cs)) (hc : cs[c]? = some (.z sz)) (hn : s.heap k' = none) :
 ∃ G', RelG B G' { s with heap := upd (upd s.heap k' (some (.row sz [] true false 0))) j (some (.box (cs.set c (.r k')))) } a w := by
 have hjk : j ≠ k' := fun e => by rw [e, hn] at hj; cases hj
 let gi : GI := { blk := 0, off := 0, cap := 0, vs := [], sub := [] }
 have h1 := h.new (w' := w) k' gi (.row sz [] true false 0) hn (Rest.refl w) (fun _ _ => rfl) (by simp [ownOf, gi]) (by simp [ownOf, gi]) (RowR.mkVoid w _ 0 0 sz true false)
 have hj1 : (upd s.heap k' (some (.row sz [] true false 0))) j = some (.box cs) := by rw [upd_ne _ _ hjk]; exact hj
 refine ⟨upd G k' gi, ?_⟩
 refine h1.step (w' := w) (G' := upd G k' gi) (upd (upd s.heap k' (some (.row sz [] true false 0))) j (some (.box (cs.set c (.r k'))))) (fun i => i = j) (.refl w) (fun _ _ _ => rfl) (fun i hi => ⟨upd_ne _ _ hi, rfl⟩) ?_ ?_ ?_ ?_ ?_
 ·rintro i o rfl ho
  have ho : upd s.heap k' (some (.row sz [] true false 0)) i = some o := ho
  rw [hj1] at ho
  cases ho
  exact ⟨_, upd_same .., .box _ _ rfl⟩
 ·rintro i rfl b hb
  rw [upd_same] at hb
  refine .inl ⟨i, rfl, ?_⟩
  show b ∈ ownOf (upd G k' gi i) (upd s.heap k' (some (.row sz [] true false 0)) i)
  rw [hj1]
  exact hb
 ·rintro i rfl
  rw [upd_same]
  simp [ownOf]
 ·rintro i i' rfl rfl _ _ _; rfl
 ·rintro i o rfl ho
  rw [upd_same] at ho
  cases ho
  obtain ⟨cur, e, q1, q2, q3⟩ := h1.obj i _ hj1
  refine ⟨cur, e, q1, ?_, q3⟩
  have hA : ∀ b, Ban B.F (upd G k' gi) (upd (upd s.heap k' (some (.row sz [] true false 0))) i (some (.box (cs.set c (.r k'))))) b → Ban B.F (upd G k' gi) (upd s.heap k' (some (.row sz [] true false 0))) b := by
   rintro b (⟨m, hm⟩ | hf)
   ·left
    by_cases hmi : m = i
    ·subst hmi
     rw [upd_same] at hm
     exact ⟨m, by rw [hj1]; exact hm⟩
    ·rw [upd_ne _ _ hmi] at hm
     exact ⟨m, hm⟩
   ·exact .inr hf
  have q4 := (AVR.mono_both (w := w) (w' := w) (G := upd G k' gi) (G' := upd G k' gi) (H := upd s.heap k' (some (.row sz [] true false 0))) (H' := upd (upd s.heap k' (some (.row sz [] true false 0))) i (some (.box (cs.set c (.r k')))))
   (Av := Ban B.F (upd G k' gi) (upd s.heap k' (some (.row sz [] true false 0)))) (Av' := Ban B.F (upd G k' gi) (upd (upd s.heap k' (some (.row sz [] true false 0))) i (some (.box (cs.set c (.r k')))))) (fun _ _ _ => rfl) (fun b _ hb => hA b hb) (fun m o hm => by
     by_cases hmi : m = i
     ·subst hmi
      rw [hj1] at hm
      cases hm
      exact ⟨_, upd_same .., .box _ _ rfl⟩
     ·exact ⟨o, by rw [upd_ne _ _ hmi]; exact hm, Ob.to.refl _ _⟩)).2 q2
  refine AVRL.of (by rw [List.length_set]; exact q4.length) fun m v av hv hav => ?_
  by_cases hmc : m = c
  ·subst hmc
   have hlen := (List.getElem?_eq_some_iff.1 hc).1
   rw [List.getElem?_set_self hlen] at hav
   cases hav
   have hz := q4.get hv hc
   generalize hzz : AV.z sz = zz at hz
   cases hz <;> try (cases hzz; done)
   have := AVR.r (w := w) (G := upd G k' gi) (H := upd (upd s.heap k' (some (.row sz [] true false 0))) i (some (.box (cs.set m (.r k'))))) (Av := Ban B.F (upd G k' gi) (upd (upd s.heap k' (some (.row sz [] true false 0))) i (some (.box (cs.set m (.r k')))))) k' sz [] true false 0 none (by rw [upd_ne _ _ hjk.symm, upd_same]) (by rw [upd_same]; exact fun h => absurd h (Nat.lt_irrefl 0))
   rw [upd_same] at this
   exact this
  ·rw [List.getElem?_set_ne (fun e => hmc e.symm)] at hav
   exact q4.get hv hav
theorem sem_nil {aa : AV} {s : St} (j c k' sz : Nat) {cs : List AV} (hj : s.heap j = some (.box cs)) (hc : cs[c]? = some (.z sz)) (hn : s.heap k' = none) : Sem aa s { s with heap := upd (upd s.heap k' (some (.row sz [] true false 0))) j (some (.box (cs.set c (.r k')))) } := fun B G a w hB hr => hr.nil hj hc hn
end Go.Fs
