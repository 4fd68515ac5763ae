/- A part of the proof: an evaluator of the program's code over plain data, proved sound, and walks of the program's functions by it. No conditions beyond those in the theorems. -/
import Derived.Orders
import Derived.Deep.LoopGhost
import Derived.Test.YtbgbnmghhmfihaaGreatLawMp6
import Derived.Test.YtbgbnmghhmfihaaGreatLawMp7
set_option linter.unusedVariables false
set_option linter.unusedSimpArgs false
set_option linter.constructorNameAsVariable false
set_option linter.unusedSectionVars false
set_option linter.defProp false
set_option linter.unusedVariables false
set_option linter.constructorNameAsVariable false
namespace Go.Fs
open Go.RowKit

/-! ### a walk of the mind -/
def OkO {α : Type} (o : Option α) (K : α → Prop) : Prop := match o with
  | some a => K a
  | none => False
def splitB (v : Bool) (X Y : Prop) : Prop := match v with
  | true => X
  | false => Y
def envL (L : List (Nat × AV)) : Nat → AV := L.foldr (fun x f => upd f x.1 x.2) fun _ => .x
def obL (L : List (Nat × Option Ob)) : Nat → Option Ob := L.foldr (fun x f => upd f x.1 x.2) fun _ => none
def updL (L : List (Nat × Ob)) (H : Nat → Option Ob) : Nat → Option Ob := L.foldr (fun x f => upd f x.1 (some x.2)) H
def wkS (live : List Nat) (ren : List (Nat × Nat)) (s : St) : St :=
  { n := s.n, env := envL (live.map fun t => (t, mapA ren (s.env t))), heap := obL (ren.map fun x => (x.2, match s.heap x.1 with | some o => some (mapOb ren o) | none => none)) }

theorem wkS_eq (live : List Nat) (ren : List (Nat × Nat)) (s : St) : wkS live ren s = wk live ren s := by
  have e1 : ∀ (f : Nat → AV) (t : Nat), envL (live.map fun t => (t, f t)) t = if live.contains t then f t else .x := by
    intro f t
    induction live with
    | nil => rfl
    | cons x xs ih =>
      simp only [envL, List.map_cons, List.foldr_cons, upd, List.contains_cons] at ih ⊢
      by_cases e : t = x
      · subst e; simp
      · simp [e]; simpa using ih
  have e2 : ∀ (f : Nat → Option Ob) (k : Nat), obL (ren.map fun x => (x.2, f x.1)) k = match oldK ren k with | some k0 => f k0 | none => none := by
    intro f k
    induction ren with
    | nil => rfl
    | cons x xs ih =>
      simp only [obL, oldK, List.map_cons, List.foldr_cons, upd, List.lookup_cons] at ih ⊢
      by_cases e : k = x.2
      · subst e; simp
      · have e' : (k == x.2) = false := by simpa using e
        rw [if_neg e, e']
        exact ih
  unfold wkS wk
  congr 1
  · funext t; exact e1 _ t
  · funext k
    have := e2 (fun k => match s.heap k with | some o => some (mapOb ren o) | none => none) k
    exact this

theorem updL_eq (L : List (Nat × Ob)) (H : Nat → Option Ob) : updL L H = ovr L H := by
  funext k
  induction L with
  | nil => rfl
  | cons x xs ih =>
    obtain ⟨j, o⟩ := x
    simp only [updL, ovr, List.foldr_cons, upd, List.lookup_cons] at ih ⊢
    by_cases e : k = j
    · subst e; simp
    · have e' : (k == j) = false := by simpa using e
      rw [if_neg e, e']
      exact ih

/-- What is known of a function. -/
inductive Summ where
  | own (F : List D → Option D)
  | shared (F : List D → Option D)
  | io (F : D → List D → Option (D × D))
  | eat (F : D → List D → Option D)

def SumOK (P : Program) (S : Nat → Option Summ) : Prop := ∀ f s, S f = some s → match s with
  | .own F => ∀ ds r, F ds = some r → FnOK P f (ds.map .d) { ret := r }
  | .shared F => ∀ ds r, F ds = some r → FnOK P f (ds.map .d) { ret := r, deep := false }
  | .io F => ∀ x ds r, F x ds = some r → FnOK P f (.io x :: ds.map .d) { ret := r.1, io := some r.2 }
  | .eat F => ∀ x ds r, F x ds = some r → FnOK P f (.io x :: ds.map .d) { ret := r }

structure Env where
  T : Tab
  S : Nat → Option Summ
  aa : AV

def putK (s : St) (dst : Option Nat) (av : AV) (H : Nat → Option Ob) (K : St → Prop) : Prop := match dst with
  | some d => d < s.n ∧ K { n := s.n, env := upd s.env d av, heap := H }
  | none => K { n := s.n, env := s.env, heap := H }
def keyOf (dst : Option Nat) : Nat := match dst with
  | some d => 100000 + 100 * d
  | none => 99000
def freeAll (H : Nat → Option Ob) : List (Nat × Ob) → Bool
  | [] => true
  | x :: xs => (match H x.1 with | none => true | some _ => false) && freeAll H xs
def apart (ks js : List Nat) : Bool := ks.all fun k => !js.contains k
/-! What follows stands behind names: so a walk does not look into it before it gets there. -/
def thenF {α β : Type} (F : α → Option β) (K : β → Prop) (a : α) : Prop := OkO (F a) K
def compK {α β : Type} (f : α → β) (K : β → Prop) (a : α) : Prop := K (f a)
def ownK (s : St) (dst : Option Nat) (K : St → Prop) (r : D) : Prop := freeAll s.heap (adObs (keyOf dst) (partsD r)) = true ∧
  putK s dst (retAV r (adCells (keyOf dst) (partsD r))) (updL (adObs (keyOf dst) (partsD r)) s.heap) K
def sharedK2 (s : St) (dst : Option Nat) (H1 : Nat → Option Ob) (K : St → Prop) (r : D) : Prop := putK s dst (retAV r ((partsD r).map .d)) H1 K
def sharedK (s : St) (dst : Option Nat) (F : List D → Option D) (args : List AV) (K : St → Prop) (H1 : Nat → Option Ob) : Prop := args.flatMap (keyA H1) = args.flatMap (keyA s.heap) ∧ OkO (borL H1 args) (thenF F (sharedK2 s dst H1 K))
def nestK (s : St) (dst : Option Nat) (k i o sz ve : Nat) (xs : List (List D)) (rest : List AV) (K : St → Prop) (r : D × D) : Prop := apart [k] (rest.flatMap (keyA s.heap)) = true ∧
  freeAll s.heap (adObs (keyOf dst) (partsD r.1)) = true ∧
  putK s dst (retAV r.1 (adCells (keyOf dst) (partsD r.1))) (updL ((k, .row sz (setCell xs i o r.2) true false (ve + 1)) :: adObs (keyOf dst) (partsD r.1)) s.heap) K
def ioK3 (s : St) (dst : Option Nat) (r : D × D) (K : St → Prop) (os : List (Nat × Ob)) : Prop := freeAll s.heap (adObs (keyOf dst) (partsD r.1)) = true ∧
  putK s dst (retAV r.1 (adCells (keyOf dst) (partsD r.1))) (updL (os ++ adObs (keyOf dst) (partsD r.1)) s.heap) K
def ioK2 (s : St) (dst : Option Nat) (io : AV) (ks : List Nat) (rest : List AV) (K : St → Prop) (r : D × D) : Prop := nodupB ks = true ∧ apart ks (rest.flatMap (keyA s.heap)) = true ∧
  OkO (ioObs s.heap (cellsA io) (cellsD r.2)) (ioK3 s dst r K)
def ioK (s : St) (dst : Option Nat) (F : D → List D → Option (D × D)) (io : AV) (rest : List AV) (K : St → Prop) (x : List D × List Nat) : Prop := OkO (borL s.heap rest) (thenF (F (ioD io x.1)) (ioK2 s dst io x.2 rest K))
def eatR (H : Nat → Option Ob) (dst : Option Nat) (ks : List Nat) (rest : List AV) (r : D) : Option (AV × List (Nat × Ob)) :=
  if nodupB ks = true then if apart ks (rest.flatMap (keyA H)) = true then if freeAll H (adObs (keyOf dst) (partsD r)) = true then
    some (retAV r (adCells (keyOf dst) (partsD r)), ks.map (fun k => (k, Ob.dead)) ++ adObs (keyOf dst) (partsD r)) else none else none else none
def eatC (H : Nat → Option Ob) (dst : Option Nat) (F : D → List D → Option D) : List AV → Option (AV × List (Nat × Ob))
  | [] => none
  | io :: rest => (ioCs H (cellsA io)).bind fun x => (borL H rest).bind fun ds => (F (ioD io x.1) ds).bind (eatR H dst x.2 rest)
theorem eatC_inv {H : Nat → Option Ob} {dst : Option Nat} {F : D → List D → Option D} {args : List AV} {y : AV × List (Nat × Ob)} (h : eatC H dst F args = some y) :
    ∃ x ds r, F x ds = some r ∧ ∀ F' : D → List D → Option D, F' x ds = some r → eatC H dst F' args = some y := by
  unfold eatC at h
  split at h
  · cases h
  rename_i io rest
  obtain ⟨x, hx, h⟩ := Option.bind_eq_some_iff.1 h
  obtain ⟨ds, hb, h⟩ := Option.bind_eq_some_iff.1 h
  obtain ⟨r, hr, h⟩ := Option.bind_eq_some_iff.1 h
  refine ⟨_, _, r, hr, fun F' hr' => ?_⟩
  simp only [eatC, hx, Option.bind_some, hb, hr', h]
def eatK (s : St) (dst : Option Nat) (K : St → Prop) (y : AV × List (Nat × Ob)) : Prop := putK s dst y.1 (updL y.2 s.heap) K
def callW (A : Env) (s : St) (dst : Option Nat) (f : FuncId) (args : List AV) (K : St → Prop) : Prop := match A.S f with
  | none => False
  | some (.own F) => OkO (borL s.heap args) (thenF F (ownK s dst K))
  | some (.shared F) => OkO (frzL s.heap (args.flatMap (keyA s.heap))) (sharedK s dst F args K)
  | some (.io F) => match args with
    | [] => False
    | .m k ve i o :: rest => match s.heap k with
      | some (.row sz xs true false ve') => (ve' = ve ∧ i < xs.length ∧ o < sz) ∧ OkO (borL s.heap rest) (thenF (F ((xs.getD i []).getD o .u)) (nestK s dst k i o sz ve' xs rest K))
      | _ => False
    | io :: rest => OkO (ioCs s.heap (cellsA io)) (ioK s dst F io rest K)
  | some (.eat F) => OkO (eatC s.heap dst F args) (eatK s dst K)

/-- What a function value holds is of one cell each. -/
def capsOK : List D → Bool
  | [] => true
  | .g _ :: _ => false
  | .t _ :: _ => false
  | _ :: ds => capsOK ds
theorem tr_one {w : World} {own : Bool} {v : Value} {d : D} {S : List Nat} (h : Tr w own v d S) (h1 : ∀ cs, d ≠ .g cs) (h2 : ∀ vs, d ≠ .t vs) : v.oneCell' = true := by
  cases h with
  | g cs ds S h => exact absurd rfl (h1 _)
  | t vs ds S h => exact absurd rfl (h2 _)
  | _ => rfl
theorem caps_avrl {w : World} {G : Nat → GI} {H : Nat → Option Ob} {Av : Nat → Prop} : ∀ {vs : List Value} {ds : List D} {S : List Nat}, TrL w false vs ds S → capsOK ds = true → (∀ b ∈ S, ¬ Av b) → AVRL w G H Av vs (ds.map .d)
  | _, _, _, .nil, _, _ => .nil
  | _, _, _, .cons v d S vs ds Ss h hs, hc, hS => by
    have h1 : (∀ cs, d ≠ .g cs) ∧ (∀ vs, d ≠ .t vs) ∧ capsOK ds = true := by
      cases d <;> simp_all [capsOK]
    exact .cons _ _ _ _ (.d v d S (tr_one h h1.1 h1.2.1) h fun b hb => hS b (by simp [hb])) (caps_avrl hs h1.2.2 fun b hb => hS b (by simp [hb]))

def zargs (T : Tab) (s : St) : List Operand → List TypeId → List AV
  | [], _ => []
  | x :: xs, [] => s.ev x :: zargs T s xs []
  | x :: xs, t :: ts => fixZ T t (s.ev x) :: zargs T s xs ts

def litS (s : St) (x : Operand) (b : Bool) : St := match x with
  | .tmp t => { n := s.n, env := upd s.env t (.d (.b b)), heap := s.heap }
  | _ => s

def valK (s : St) (dst : Option Nat) (K : St → Prop) (y : AV × (Nat → Option Ob)) : Prop := putK s dst y.1 y.2 K
def putH (s : St) (dst : Option Nat) (H : Nat → Option Ob) (K : St → Prop) (y : AV) : Prop := putK s dst y H K
def heapK (s : St) (K : St → Prop) (H : Nat → Option Ob) : Prop := K { n := s.n, env := s.env, heap := H }
def storeK (T : Tab) (s : St) (ty : TypeId) (ad : Operand) (K : St → Prop) (m : AV × (Nat → Option Ob)) : Prop := OkO (opStore T m.2 ty (s.ev ad) m.1) (heapK s K)
/-- A variable keeps what it is given; a row takes a copy. -/
def storeW (T : Tab) (s : St) (ty : TypeId) (ad v : Operand) (K : St → Prop) : Prop := match s.ev ad with
  | .a _ _ => OkO (opStore T s.heap ty (s.ev ad) (s.ev v)) (heapK s K)
  | _ => OkO (demote s.heap (s.ev v)) (storeK T s ty ad K)
def nilK (s : St) (dst : Option Nat) (neg : Bool) (K : St → Prop) (d : D) : Prop := match d with
  | .l _ xs => ∀ b : Bool, (b = true → xs = []) → putK s dst (.d (.b (if neg then !b else b))) s.heap K
  | _ => False
def valW (A : Env) (o : Oper) (s : St) (K : St → Prop) : Prop := OkO (valOp A.T s o) (valK s o.dst K)

def awpOp (A : Env) (o : Oper) (s : St) (K : St → Prop) : Prop := match o.op with
  | .pick c x y => match s.ev c with
    | .d (.b v) => splitB v (putK (litS s c true) o.dst (fixZ A.T o.type ((litS s c true).ev x)) s.heap K) (putK (litS s c false) o.dst (fixZ A.T o.type ((litS s c false).ev y)) s.heap K)
    | _ => False
  | .store ty ad v => match o.dst with
    | none => storeW A.T s ty ad v K
    | some _ => False
  | .call c => match c.callee with
    | .value f => match s.ev f with
      | .f fn caps => callW A s o.dst fn (zargs A.T s c.args.toList c.argTypes.toList ++ caps) K
      | .d (.f fn caps) => capsOK caps = true ∧ callW A s o.dst fn (zargs A.T s c.args.toList c.argTypes.toList ++ caps.map .d) K
      | _ => False
    | _ => valW A o s K
  | .convert src dst x => match A.T.kd src with
    | some (.slice _) => OkO (opB2S A.T s.heap src dst (s.ev x)) (putH s o.dst s.heap K)
    | _ => valW A o s K
  | .binOp op ty x y _ => match nilCmp A.T op ty y with
    | some neg => OkO (borC s.heap (s.ev x)) (nilK s o.dst neg K)
    | none => valW A o s K
  | .makeMap ty none => OkO (opMkMap A.T s.heap (o.dst.getD 0) ty) (valK s o.dst K)
  | .lookup ty m k ok => OkO (opMapGet A.T s.heap ty (s.ev m) (s.ev k) ok) (putH s o.dst s.heap K)
  | .mapUpdate ty m k x => match o.dst with
    | none => OkO (opMapSet A.T s.heap ty (s.ev m) (s.ev k) (s.ev x)) (heapK s K)
    | some _ => False
  | _ => valW A o s K

def dstAt (ops : List Oper) (j : Nat) : Option Nat := match ops[j]? with
  | some o => o.dst
  | none => none

/-- An operation that a condition may leave out. -/
def awpG (A : Env) (ops : List Oper) (o : Oper) (s : St) (K : St → Prop) : Prop := match o.guard with
  | none => awpOp A o s K
  | some (j, want) => match dstAt ops j with
    | none => putK s o.dst (.t []) s.heap K
    | some t => match s.env t with
      | .d (.b v) => splitB v (match want with | true => awpOp A o (litS s (.tmp t) true) K | false => putK (litS s (.tmp t) true) o.dst (.t []) s.heap K)
          (match want with | true => putK (litS s (.tmp t) false) o.dst (.t []) s.heap K | false => awpOp A o (litS s (.tmp t) false) K)
      | .t [] => putK s o.dst (.t []) s.heap K
      | _ => False

def awpOps (A : Env) (ops : List Oper) (K : St → Prop) : List Oper → St → Prop
  | [], s => K s
  | o :: os, s => awpG A ops o s (awpOps A ops K os)

def awpAny (A : Env) (ops : Array Oper) (K : St → Prop) : Nat → Array Bool → St → Prop
  | 0, listed, s => Region.ready .any ops listed = [] ∧ K s
  | n + 1, listed, s => (Region.ready .any ops listed = [] → K s) ∧ ∀ i ∈ Region.ready .any ops listed, match ops.toList[i]? with
    | some o => awpG A ops.toList o s (awpAny A ops K n (listed.setIfInBounds i true))
    | none => False

def fixA (ren : List (Nat × Nat)) : AV → Bool
  | .d _ => true
  | .z _ => true
  | .r k => (match ren.lookup k with | some j => j == k | none => false)
  | .a k _ => (match ren.lookup k with | some j => j == k | none => false)
  | .x => true
  | _ => false
def fixAA (ren : List (Nat × Nat)) : AV → Bool
  | .g cs => cs.all (fixA ren)
  | av => fixA ren av

theorem fixA_ok {ren : List (Nat × Nat)} {av : AV} (h : fixA ren av = true) : mapA ren av = av := by
  cases av <;> simp only [fixA, mapA] at h ⊢ <;> try (cases h; done)
  all_goals
    split at h
    · rename_i j hj; simp at h; subst h; rw [hj]
    · cases h
theorem fixAA_ok {ren : List (Nat × Nat)} {av : AV} (h : fixAA ren av = true) : mapA ren av = av := by
  cases av <;> simp only [fixAA] at h <;> try exact fixA_ok h
  rename_i cs
  simp only [mapA]
  congr 1
  induction cs with
  | nil => rfl
  | cons x xs ih =>
    simp only [List.all_cons, Bool.and_eq_true] at h
    simp only [mapL]
    rw [fixA_ok h.1, ih h.2]

/-- Whatever is known as the one may be known as the other. -/
def Sem (aa : AV) (s s' : St) : Prop := ∀ (B : Ctx) (G : Nat → GI) (a : Act) (w : World), B.aa = aa → RelG B G s a w → ∃ G', RelG B G' s' a w
theorem Sem.refl (aa : AV) (s : St) : Sem aa s s := fun B G a w _ h => ⟨G, h⟩
theorem Sem.trans {aa : AV} {s s' s'' : St} (h : Sem aa s s') (h' : Sem aa s' s'') : Sem aa s s'' := fun B G a w hB hr => by
  obtain ⟨G', hr'⟩ := h B G a w hB hr
  exact h' B G' a w hB hr'
theorem sem_wk {aa : AV} {s : St} (live : List Nat) {ren : List (Nat × Nat)} (h1 : renOK ren = true) (h2 : fixAA ren aa = true) : Sem aa s (wkS live ren s) := fun B G a w hB hr => by
  rw [wkS_eq]
  exact ⟨_, hr.wk live h1 (by rw [hB]; exact fixAA_ok h2)⟩
theorem sem_split {aa : AV} {s : St} {k ve i o k' sz z : Nat} {xs ys : List (List D)} (hk : s.heap k = some (.row sz xs true false ve)) (hi : i < xs.length) (ho : o < sz) (hy : (xs.getD i []).getD o .u = .l z ys) (hn : s.heap k' = none) (ha : spA k ve i o k' sz aa = aa) : Sem aa s (spS k ve i o k' sz xs z ys s) := fun B G a w hB hr =>
  hr.split hk hi ho hy hn (by rw [hB]; exact ha)
/-- What may be said of a state that is known less well. -/
def Via (A : Env) (J : St → Prop) (s : St) : Prop := ∃ s', Sem A.aa s s' ∧ J s'

def thenS (K : St → Prop) (Q : Exit → St → Prop) : Exit → St → Prop
  | .normal, s => K s
  | e, s => Q e s
def blkS (id : Nat) (Q : Exit → St → Prop) : Exit → St → Prop
  | .exit id', s => if id' = id then Q .normal s else Q (.exit id') s
  | e, s => Q e s

def awp (A : Env) : Code → (Exit → St → Prop) → St → Prop
  | .skip, Q, s => Q .normal s
  | .region _ ops false, Q, s => awpOps A ops.toList (Q .normal) ops.toList s
  | .region _ ops true, Q, s => awpAny A ops (Q .normal) ops.size (Array.replicate ops.size false) s
  | .seq x y, Q, s => awp A x (thenS (awp A y Q) Q) s
  | .cond c x y, Q, s => match s.ev c with
    | .d (.b v) => splitB v (awp A x Q (litS s c true)) (awp A y Q (litS s c false))
    | _ => False
  | .block id b, Q, s => awp A b (blkS id Q) s
  | .loop b, Q, s => ∃ I : Nat → St → Prop, (∃ n, Via A (I n) s) ∧ ∀ n s, I n s → awp A b (thenS (fun s' => ∃ m, m < n ∧ Via A (I m) s') Q) s
  | .exit id, Q, s => Q (.exit id) s
  | .label _, Q, s => Q .normal s
  | .goto l, Q, s => Q (.goto l) s
  | .ret, Q, s => Q .ret s
  | _, _, _ => False

/-! ### more is asked of less -/
theorem putK_mono {s : St} {dst : Option Nat} {av : AV} {H : Nat → Option Ob} {K K' : St → Prop} (hk : ∀ s, K s → K' s) (h : putK s dst av H K) : putK s dst av H K' := by
  cases dst with
  | none => exact hk _ h
  | some d => exact ⟨h.1, hk _ h.2⟩
theorem OkO_mono {α : Type} {o : Option α} {K K' : α → Prop} (hk : ∀ a, K a → K' a) (h : OkO o K) : OkO o K' := by
  cases o with
  | none => exact h
  | some a => exact hk a h
theorem splitB_mono {v : Bool} {X X' Y Y' : Prop} (hx : X → X') (hy : Y → Y') (h : splitB v X Y) : splitB v X' Y' := by
  cases v
  · exact hy h
  · exact hx h
theorem callW_mono {A : Env} {s : St} {dst : Option Nat} {f : FuncId} {args : List AV} {K K' : St → Prop} (hk : ∀ s, K s → K' s) (h : callW A s dst f args K) : callW A s dst f args K' := by
  unfold callW at h ⊢
  split at h
  · exact h
  · exact OkO_mono (fun ds h => OkO_mono (fun r h => ⟨h.1, putK_mono hk h.2⟩) h) h
  · exact OkO_mono (fun H1 h => ⟨h.1, OkO_mono (fun ds h => OkO_mono (fun r h => putK_mono hk h) h) h.2⟩) h
  · split at h
    · exact h
    · split at h
      · exact ⟨h.1, OkO_mono (fun ds h => OkO_mono (fun r h => ⟨h.1, h.2.1, putK_mono hk h.2.2⟩) h) h.2⟩
      · exact h
    · exact OkO_mono (fun x h => OkO_mono (fun ds h => OkO_mono (fun r h => ⟨h.1, h.2.1, OkO_mono (fun os h => ⟨h.1, putK_mono hk h.2⟩) h.2.2⟩) h) h) h
  · exact OkO_mono (fun y h => putK_mono hk h) h
theorem awpOp_mono {A : Env} {o : Oper} {s : St} {K K' : St → Prop} (hk : ∀ s, K s → K' s) (h : awpOp A o s K) : awpOp A o s K' := by
  have val : valW A o s K → valW A o s K' := OkO_mono fun y h => putK_mono hk h
  unfold awpOp at h ⊢
  split at h
  · split at h
    · exact splitB_mono (putK_mono hk) (putK_mono hk) h
    · exact h
  · split at h
    · unfold storeW at h ⊢
      split at h
      · exact OkO_mono (fun H h => hk _ h) h
      · exact OkO_mono (fun m h => OkO_mono (fun H h => hk _ h) h) h
    · exact h
  · split at h
    · split at h
      · exact callW_mono hk h
      · exact ⟨h.1, callW_mono hk h.2⟩
      · exact h
    · exact val h
  · split at h
    · exact OkO_mono (fun y h => putK_mono hk h) h
    · exact val h
  · split at h
    · refine OkO_mono (fun d h => ?_) h
      unfold nilK at h ⊢
      split at h
      · exact fun b hb => putK_mono hk (h b hb)
      · exact h
    · exact val h
  · exact OkO_mono (fun y h => putK_mono hk h) h
  · exact OkO_mono (fun y h => putK_mono hk h) h
  · split at h
    · exact OkO_mono (fun H h => hk _ h) h
    · exact h
  · exact val h
theorem awpG_mono {A : Env} {ops : List Oper} {o : Oper} {s : St} {K K' : St → Prop} (hk : ∀ s, K s → K' s) (h : awpG A ops o s K) : awpG A ops o s K' := by
  unfold awpG at h ⊢
  split at h
  · exact awpOp_mono hk h
  · split at h
    · exact putK_mono hk h
    · split at h
      · refine splitB_mono (fun h => ?_) (fun h => ?_) h
        · split at h
          · exact awpOp_mono hk h
          · exact putK_mono hk h
        · split at h
          · exact putK_mono hk h
          · exact awpOp_mono hk h
      · exact putK_mono hk h
      · exact h
theorem awpOps_mono {A : Env} {ops : List Oper} {K K' : St → Prop} (hk : ∀ s, K s → K' s) : ∀ (os : List Oper) (s : St), awpOps A ops K os s → awpOps A ops K' os s
  | [], s, h => hk s h
  | o :: os, s, h => awpG_mono (awpOps_mono hk os) h
theorem awpAny_mono {A : Env} {ops : Array Oper} {K K' : St → Prop} (hk : ∀ s, K s → K' s) : ∀ (n : Nat) (l : Array Bool) (s : St), awpAny A ops K n l s → awpAny A ops K' n l s
  | 0, l, s, h => ⟨h.1, hk s h.2⟩
  | n + 1, l, s, h => by
    refine ⟨fun e => hk s (h.1 e), fun i hi => ?_⟩
    have := h.2 i hi
    split at this
    · exact awpG_mono (awpAny_mono hk n _) this
    · exact this
theorem awp_mono {A : Env} (c : Code) : ∀ {Q Q' : Exit → St → Prop}, (∀ e s, Q e s → Q' e s) → ∀ s, awp A c Q s → awp A c Q' s := by
  induction c with
  | skip => exact fun hq s h => hq _ _ h
  | label l => exact fun hq s h => hq _ _ h
  | exit id => exact fun hq s h => hq _ _ h
  | goto l => exact fun hq s h => hq _ _ h
  | ret => exact fun hq s h => hq _ _ h
  | rangeFunc f ps x y => exact fun hq s h => h
  | scope b => exact fun hq s h => h
  | refuse why => exact fun hq s h => h
  | region id ops dr =>
    intro Q Q' hq s h
    cases dr with
    | false => exact awpOps_mono (hq _) _ _ h
    | true => exact awpAny_mono (hq _) _ _ _ h
  | seq x y ihx ihy =>
    intro Q Q' hq s h
    refine ihx (Q := thenS (awp A y Q) Q) (fun e s h => ?_) s h
    cases e with
    | normal => exact ihy hq s h
    | _ => exact hq _ _ h
  | cond c x y ihx ihy =>
    intro Q Q' hq s h
    simp only [awp] at h ⊢
    split at h
    · exact splitB_mono (ihx hq _) (ihy hq _) h
    · exact h
  | block id b ih =>
    intro Q Q' hq s h
    refine ih (Q := blkS id Q) (fun e s h => ?_) s h
    cases e with
    | exit id' =>
      simp only [blkS] at h ⊢
      split at h
      · rename_i e; rw [if_pos e]; exact hq _ _ h
      · rename_i e; rw [if_neg e]; exact hq _ _ h
    | _ => exact hq _ _ h
  | loop b ih =>
    intro Q Q' hq s h
    obtain ⟨I, h0, h1⟩ := h
    refine ⟨I, h0, fun n s hi => ih (fun e s h => ?_) s (h1 n s hi)⟩
    cases e with
    | normal => exact h
    | _ => exact hq _ _ h

section rel
variable {P : Program} {A : Env} {B : Ctx}

theorem OkO_inv {α : Type} {o : Option α} {K : α → Prop} (h : OkO o K) : ∃ a, o = some a ∧ K a := by
  cases o with
  | none => exact h.elim
  | some a => exact ⟨a, rfl, h⟩

/-- What a property of states says of an act and a world. -/
def Say (B : Ctx) (K : St → Prop) (K' : Act → World → Prop) : Prop := ∀ G s a w, RelG B G s a w → K s → K' a w

theorem putK_ok {G : Nat → GI} {s : St} {a : Act} {w : World} {H : Nat → Option Ob} (h : RelG B G { s with heap := H } a w) {v : Value} {av : AV} (hv : AVR w G H (Ban B.F G H) v av) {dst : Option Nat} {K : St → Prop} {K' : Act → World → Prop} (hK : Say B K K')
    (hp : putK s dst av H K) : K' (a.put dst v) w := by
  cases dst with
  | none => exact hK _ _ _ _ h hp
  | some d =>
    obtain ⟨hd, hp⟩ := hp
    exact hK _ _ _ _ (h.put d hd hv) hp

theorem litS_ok {s : St} {x : Operand} {v : Bool} (h : s.ev x = .d (.b v)) : litS s x v = s := by
  cases x with
  | tmp t =>
    have h : s.env t = .d (.b v) := h
    have : upd s.env t (.d (.b v)) = s.env := by
      funext i
      by_cases e : i = t
      · subst e; simp [upd, h]
      · simp [upd, e]
    simp [litS, this]
  | _ => rfl

theorem splitB_inv {v : Bool} {X Y : Prop} (h : splitB v X Y) : (v = true → X) ∧ (v = false → Y) := by
  cases v
  · exact ⟨fun e => (by cases e), fun _ => h⟩
  · exact ⟨fun _ => h, fun e => (by cases e)⟩

theorem zargs_ok {T : Tab} {G : Nat → GI} {s : St} {a : Act} {w : World} (h : RelG B G s a w) : ∀ (xs : List Operand) (ts : List TypeId), AVRL w G s.heap (Ban B.F G s.heap) (xs.map a.eval) (zargs T s xs ts)
  | [], _ => .nil
  | x :: xs, [] => .cons _ _ _ _ (h.ev x) (zargs_ok h xs [])
  | x :: xs, t :: ts => .cons _ _ _ _ (fixZ_ok t (h.ev x)) (zargs_ok h xs ts)

theorem freeAll_ok {H : Nat → Option Ob} : ∀ {L : List (Nat × Ob)}, freeAll H L = true → ∀ x ∈ L, H x.1 = none
  | [], _, x, hx => by cases hx
  | y :: L, h, x, hx => by
    simp only [freeAll, Bool.and_eq_true] at h
    rcases List.mem_cons.1 hx with rfl | hx
    · cases e : H x.1 with
      | none => rfl
      | some o => rw [e] at h; simp at h
    · exact freeAll_ok h.2 x hx

theorem does_wp {o : Oper} {a : Act} {w : World} {f : FuncId} {args : Array Value} {K : Act → World → Prop} {Q : Exit → Act → World → Prop} (he : execOp a.eval o = callFunc f args) (h : Does P f args w fun v w' => K (a.put o.dst v) w') : o.wp P a w K Q := by
  unfold Oper.wp
  rw [he]
  rcases h with ⟨h1, h2⟩ | ⟨v, w', h1, h2⟩
  · rw [h1]
    exact h2.mono fun e w' he => by
      cases e with
      | returned v => exact he
      | panicked c => exact he.elim
      | outgrown => exact he.elim
  · rw [h1]; exact h2

theorem callW_ok (hS : SumOK P A.S) {G : Nat → GI} {s : St} {a : Act} {w : World} (h : RelG B G s a w) {dst : Option Nat} {f : FuncId} {vs : List Value} {args : List AV} (hargs : AVRL w G s.heap (Ban B.F G s.heap) vs args) {K : St → Prop} {K' : Act → World → Prop} (hK : Say B K K')
    (hc : callW A s dst f args K) : Does P f vs.toArray w fun v w' => K' (a.put dst v) w' := by
  unfold callW at hc
  split at hc
  · exact hc.elim
  · rename_i F hF
    obtain ⟨ds, hb, hc⟩ := OkO_inv hc
    obtain ⟨r, hr, hfree, hc⟩ := OkO_inv hc
    have hSf := hS f _ hF ds r hr
    have := call_own h (io := none) (iov := none) (by simp) (fun _ => rfl) hargs (ds0 := []) (ks := []) rfl hb List.nodup_nil (by simp) (out := { ret := r }) (by simpa [ioIn] using hSf) rfl rfl (key := keyOf dst)
      (freeAll_ok hfree) (os := []) rfl
    refine Does.mono (by simpa using this) fun v w' hv => ?_
    obtain ⟨G', h1, h2⟩ := hv
    rw [← updL_eq] at h1 h2
    exact putK_ok h1 h2 hK hc
  · rename_i F hF
    obtain ⟨H1, hf, hks, hc⟩ := OkO_inv hc
    obtain ⟨ds, hb, hc⟩ := OkO_inv hc
    obtain ⟨r, hr, hc⟩ := OkO_inv hc
    have := call_shared h hargs hf hks hb (out := { ret := r, deep := false }) (hS f _ hF ds r hr) rfl
    exact this.mono fun v w' hv => putK_ok hv.1 hv.2 hK hc
  · rename_i F hF
    split at hc
    · exact hc.elim
    · rename_i k ve i o rest
      split at hc
      case h_2 => exact hc.elim
      rename_i sz xs ve' hk
      obtain ⟨⟨rfl, hi, ho⟩, hc⟩ := hc
      obtain ⟨ds, hb, hc⟩ := OkO_inv hc
      obtain ⟨r, hr, hap, hfree, hc⟩ := OkO_inv hc
      cases hargs with
      | cons v _ vs _ hv hvs =>
        have := call_nest h hk hi ho hv hvs hb (by simpa [apart] using hap) (hS f _ hF _ ds r hr) (key := keyOf dst) (freeAll_ok hfree)
        refine Does.mono this fun v w' hv => ?_
        obtain ⟨G', h1, h2⟩ := hv
        rw [← updL_eq] at h1 h2
        exact putK_ok h1 h2 hK hc
    · rename_i io rest _
      obtain ⟨x, hx, hc⟩ := OkO_inv hc
      obtain ⟨ds, hb, hc⟩ := OkO_inv hc
      obtain ⟨r, hr, hn, hap, hc⟩ := OkO_inv hc
      obtain ⟨os, hos, hfree, hc⟩ := OkO_inv hc
      cases hargs with
      | cons v _ vs _ hv hvs =>
        have := call_own h (io := some io) (iov := some v) (fun av e => ⟨v, rfl, by cases e; exact hv⟩) (by simp) hvs (ds0 := x.1) (ks := x.2) hx hb (nodupB_ok hn) (fun k hk => by
            have := List.all_eq_true.1 hap k hk
            simpa using this) (out := { ret := r.1, io := some r.2 }) (hS f _ hF _ ds r hr) rfl rfl (key := keyOf dst) (freeAll_ok hfree) (os := os) hos
        refine Does.mono (by simpa using this) fun v w' hv => ?_
        obtain ⟨G', h1, h2⟩ := hv
        rw [← updL_eq] at h1 h2
        exact putK_ok h1 h2 hK hc
  · rename_i F hF
    obtain ⟨y, hy, hc⟩ := OkO_inv hc
    unfold eatC at hy
    split at hy
    · cases hy
    rename_i io rest
    obtain ⟨x, hx, hy⟩ := Option.bind_eq_some_iff.1 hy
    obtain ⟨ds, hb, hy⟩ := Option.bind_eq_some_iff.1 hy
    obtain ⟨r, hr, hy⟩ := Option.bind_eq_some_iff.1 hy
    unfold eatR at hy
    split at hy
    case isFalse => cases hy
    rename_i hn
    split at hy
    case isFalse => cases hy
    rename_i hap
    split at hy
    case isFalse => cases hy
    rename_i hfree
    cases hy
    cases hargs with
    | cons v _ vs _ hv hvs =>
      have := call_eat h hv hvs (ds0 := x.1) (ks := x.2) hx hb (nodupB_ok hn) (fun k hk => by
          have := List.all_eq_true.1 hap k hk
          simpa using this) (hS f _ hF _ ds r hr) (key := keyOf dst) (freeAll_ok hfree)
      refine Does.mono this fun v w' hv => ?_
      obtain ⟨G', h1, h2⟩ := hv
      rw [← updL_eq] at h1 h2
      exact putK_ok h1 h2 hK hc

theorem awpOp_ok (hT : A.T.ok P = true) (hS : SumOK P A.S) {G : Nat → GI} {s : St} {a : Act} {w : World} (h : RelG B G s a w) {o : Oper} {K : St → Prop} {K' : Act → World → Prop} {Q : Exit → Act → World → Prop} (hK : Say B K K') (hw : awpOp A o s K) : o.wp P a w K' Q := by
  have val : valW A o s K → o.wp P a w K' Q := by
    intro hv
    obtain ⟨y, hm, hp⟩ := OkO_inv hv
    obtain ⟨v, w', G', hr, h1, h2⟩ := valOp_ok hT h hm
    unfold Oper.wp
    rw [hr]
    exact putK_ok h1 h2 hK hp
  unfold awpOp at hw
  split at hw
  · rename_i c x y hop
    split at hw
    case h_2 => exact hw.elim
    rename_i v hev
    obtain ⟨h1, h2⟩ := splitB_inv hw
    have hb : a.eval c = .bool v := by have := h.ev c; rw [hev] at this; exact this.inv_bool
    unfold Oper.wp
    obtain ⟨dst, op, type, pos, after, guard⟩ := o
    simp only at hop
    subst hop
    have hrun : ∀ u, (if v then a.eval x else a.eval y) = u → (execOp a.eval ⟨dst, .pick c x y, type, pos, after, guard⟩).run P w = .ok (.value u) w := by
      intro u e
      simp only [execOp, hb, asBool, pure_bind, e]
      rfl
    cases v with
    | true =>
      have h1 := h1 rfl
      rw [litS_ok hev] at h1
      rw [hrun _ rfl]
      exact putK_ok h (fixZ_ok type (h.ev x)) hK h1
    | false =>
      have h2 := h2 rfl
      rw [litS_ok hev] at h2
      rw [hrun _ rfl]
      exact putK_ok h (fixZ_ok type (h.ev y)) hK h2
  · rename_i ty ad v hop
    split at hw
    case h_2 => exact hw.elim
    rename_i hd
    obtain ⟨H, w', G', hr, h1, hw⟩ : ∃ H w' G', (Instr.storeAt ty (a.eval ad) (a.eval v)).run P w = .ok () w' ∧ RelG B G' { s with heap := H } a w' ∧ K { s with heap := H } := by
      unfold storeW at hw
      split at hw
      · obtain ⟨H, m2, hw⟩ := OkO_inv hw
        obtain ⟨w', G', hr, h1⟩ := opStore_ok hT h (h.ev ad) (h.ev v) m2
        exact ⟨H, w', G', hr, h1, hw⟩
      · obtain ⟨m, m1, hw⟩ := OkO_inv hw
        obtain ⟨H, m2, hw⟩ := OkO_inv hw
        obtain ⟨e1, v1⟩ := demote_ok h (h.ev v) m1
        obtain ⟨w', G', hr, h1⟩ := opStore_ok (s := { s with heap := m.2 }) hT e1.rel (e1.avr (h.ev ad)) v1 m2
        exact ⟨H, w', G', hr, h1, hw⟩
    unfold Oper.wp
    obtain ⟨dst, op, type, pos, after, guard⟩ := o
    simp only at hop hd
    subst hop hd
    have : (execOp a.eval ⟨none, .store ty ad v, type, pos, after, guard⟩).run P w = .ok .skip w' := by
      simp only [execOp, Sem.run_bind, hr, Result.andThen_ok]
      rfl
    rw [this]
    exact hK _ _ _ _ h1 hw
  · rename_i c hop
    split at hw
    case h_2 => exact val hw
    rename_i f hf
    have go : ∀ {fn : FuncId} {cs : Array Value} {caps : List AV}, a.eval f = .func (.func fn) #[] cs → AVRL w G s.heap (Ban B.F G s.heap) cs.toList caps → callW A s o.dst fn (zargs A.T s c.args.toList c.argTypes.toList ++ caps) K → o.wp P a w K' Q := by
      intro fn cs caps hfe hcs hw
      refine does_wp (f := fn) (args := (c.args.toList.map a.eval ++ cs.toList).toArray) ?_ (callW_ok hS h ((zargs_ok h _ _).append hcs) hK hw)
      obtain ⟨dst, op, type, pos, after, guard⟩ := o
      simp only at hop
      subst hop
      obtain ⟨callee, args, argTypes⟩ := c
      simp only at hf
      subst hf
      simp only [execOp, resolve, hfe, Deferred.ofValue, pure_bind, invoke]
      congr 1
      apply Array.ext'
      simp
    split at hw
    · rename_i fn caps hev
      have hfv := h.ev f
      rw [hev] at hfv
      generalize hfe : a.eval f = fv at hfv
      cases hfv with
      | f _ cs _ hcs => exact go hfe hcs hw
    · rename_i fn caps hev
      have hfv := h.ev f
      rw [hev] at hfv
      generalize hfe : a.eval f = fv at hfv
      cases hfv with
      | d _ _ S h1 ht hS' =>
        cases ht with
        | f _ cs _ _ hcs => exact go hfe (caps_avrl hcs hw.1 hS') hw.2
    · exact hw.elim
  · rename_i src dst' x hop
    split at hw
    case h_2 => exact val hw
    obtain ⟨y, hm, hp⟩ := OkO_inv hw
    obtain ⟨v, hr, h2⟩ := opB2S_ok hT h (h.ev x) hm
    unfold Oper.wp
    obtain ⟨dst, op, type, pos, after, guard⟩ := o
    simp only at hop
    subst hop
    have : (execOp a.eval ⟨dst, .convert src dst' x, type, pos, after, guard⟩).run P w = .ok (.value v) w := by
      simp only [execOp, Sem.run_bind, hr, Result.andThen_ok]
      rfl
    rw [this]
    exact putK_ok h h2 hK hp
  · rename_i op ty x y yt hop
    split at hw
    case h_2 => exact val hw
    rename_i neg hc
    obtain ⟨d, hb, hw⟩ := OkO_inv hw
    unfold nilK at hw
    split at hw
    case h_2 => exact hw.elim
    rename_i sz xs
    obtain ⟨b, hb1, hr⟩ := nilCmp_ok hT h hc hb
    unfold Oper.wp
    obtain ⟨dst, op', type, pos, after, guard⟩ := o
    simp only at hop
    subst hop
    have : (execOp a.eval ⟨dst, .binOp op ty x y yt, type, pos, after, guard⟩).run P w = .ok (.value (.bool (if neg then !b else b))) w := by
      simp only [execOp] at hr ⊢
      rw [Sem.run_bind, hr, Result.andThen_ok]
      rfl
    rw [this]
    exact putK_ok h (.sc rfl (.b _)) hK (hw b hb1)
  · rename_i ty hop
    obtain ⟨y, hm, hp⟩ := OkO_inv hw
    obtain ⟨v, w', G', hr, h1, h2⟩ := opMkMap_ok (P := P) h hm
    unfold Oper.wp
    obtain ⟨dst, op, type, pos, after, guard⟩ := o
    simp only at hop
    subst hop
    have : (execOp a.eval ⟨dst, .makeMap ty none, type, pos, after, guard⟩).run P w = .ok (.value v) w' := by
      simp only [execOp, Option.map_none, Sem.run_bind, hr, Result.andThen_ok]
      rfl
    rw [this]
    exact putK_ok h1 h2 hK hp
  · rename_i ty m k ok hop
    obtain ⟨y, hm, hp⟩ := OkO_inv hw
    obtain ⟨v, hr, h2⟩ := opMapGet_ok hT h (h.ev m) (h.ev k) hm
    unfold Oper.wp
    obtain ⟨dst, op, type, pos, after, guard⟩ := o
    simp only at hop
    subst hop
    have : (execOp a.eval ⟨dst, .lookup ty m k ok, type, pos, after, guard⟩).run P w = .ok (.value v) w := by
      simp only [execOp, Sem.run_bind, hr, Result.andThen_ok]
      rfl
    rw [this]
    exact putK_ok h h2 hK hp
  · rename_i ty m k x hop
    split at hw
    case h_2 => exact hw.elim
    rename_i hd
    obtain ⟨H, m2, hw⟩ := OkO_inv hw
    obtain ⟨w', G', hr, h1⟩ := opMapSet_ok hT h (h.ev m) (h.ev k) (h.ev x) m2
    unfold Oper.wp
    obtain ⟨dst, op, type, pos, after, guard⟩ := o
    simp only at hop hd
    subst hop hd
    have : (execOp a.eval ⟨none, .mapUpdate ty m k x, type, pos, after, guard⟩).run P w = .ok .skip w' := by
      simp only [execOp, Sem.run_bind, hr, Result.andThen_ok]
      rfl
    rw [this]
    exact hK _ _ _ _ h1 hw
  · exact val hw

theorem awpG_ok (hT : A.T.ok P = true) (hS : SumOK P A.S) {G : Nat → GI} {s : St} {a : Act} {w : World} (h : RelG B G s a w) {ops : Array Oper} {i : Nat} {o : Oper} (ho : ops[i]? = some o) {K : St → Prop} {K' : Act → World → Prop} {Q : Exit → Act → World → Prop} (hK : Say B K K') (hw : awpG A ops.toList o s K) :
    wpOp P ops Q i K' a w := by
  have run : Region.wanted o (yielded ops a.tmps) = true → awpOp A o s K → wpOp P ops Q i K' a w := by
    intro h1 h2
    unfold wpOp
    rw [ho]
    simp only [h1, if_true]
    exact .inl (awpOp_ok hT hS h hK h2)
  have leave : Region.wanted o (yielded ops a.tmps) = false → putK s o.dst (.t []) s.heap K → wpOp P ops Q i K' a w := by
    intro h1 h2
    unfold wpOp
    rw [ho]
    simp only [h1]
    exact putK_ok h (.t #[] [] .nil) hK h2
  unfold awpG at hw
  split at hw
  · rename_i hg
    exact run (by simp [Region.wanted, hg]) hw
  · rename_i j want hg
    have hy : ∀ t, dstAt ops.toList j = some t → yielded ops a.tmps j = match a.tmps[t]? with | some (.bool b) => some b | _ => none := by
      intro t ht
      unfold dstAt at ht
      rw [Array.getElem?_toList] at ht
      unfold yielded
      cases e : ops[j]? with
      | none => rw [e] at ht; cases ht
      | some o' =>
        rw [e] at ht
        simp only at ht
        simp only [Option.bind_some, ht]
        cases a.tmps[t]? with
        | none => rfl
        | some u => cases u <;> rfl
    split at hw
    · rename_i hd
      refine leave ?_ hw
      unfold dstAt at hd
      rw [Array.getElem?_toList] at hd
      have : yielded ops a.tmps j = none := by
        unfold yielded
        cases e : ops[j]? with
        | none => rfl
        | some o' => rw [e] at hd; simp only at hd; simp [hd]
      simp [Region.wanted, hg, this]
    · rename_i t ht
      have hy := hy t ht
      split at hw
      · rename_i v hv
        have hb := h.env t
        rw [hv] at hb
        have hb : a.tmps.getD t undef = .bool v := hb.inv_bool
        have ht : a.tmps[t]? = some (.bool v) := by
          cases e : a.tmps[t]? with
          | none => rw [Array.getD_eq_getD_getElem?, e] at hb; cases hb
          | some u => rw [Array.getD_eq_getD_getElem?, e] at hb; simp at hb; rw [hb]
        rw [ht] at hy
        have hwant : Region.wanted o (yielded ops a.tmps) = (v == want) := by
          simp only [Region.wanted, hg, hy]
          cases v <;> cases want <;> rfl
        obtain ⟨h1, h2⟩ := splitB_inv hw
        have hl : litS s (.tmp t) v = s := litS_ok (x := .tmp t) hv
        cases v with
        | true =>
          have h1 := h1 rfl
          rw [hl] at h1
          cases want with
          | true => exact run hwant h1
          | false => exact leave hwant h1
        | false =>
          have h2 := h2 rfl
          rw [hl] at h2
          cases want with
          | true => exact leave hwant h2
          | false => exact run hwant h2
      · rename_i hv
        have hb := h.env t
        rw [hv] at hb
        refine leave ?_ hw
        have hn : yielded ops a.tmps j = none := by
          rw [hy]
          cases e : a.tmps[t]? with
          | none => rfl
          | some u =>
            rw [Array.getD_eq_getD_getElem?, e] at hb
            simp only [Option.getD_some] at hb
            cases hb with
            | t vs _ h => rfl
        simp [Region.wanted, hg, hn]
      · exact hw.elim

theorem awpOps_ok (hT : A.T.ok P = true) (hS : SumOK P A.S) {ops : Array Oper} {K : St → Prop} {Q : Exit → Act → World → Prop} (hK : Say B K (Q .normal)) :
    ∀ (os pre : List Oper), ops.toList = pre ++ os → Say B (awpOps A ops.toList K os) (wpOps P ops Q (List.range' pre.length os.length))
  | [], pre, _ => fun G s a w h hw => hK G s a w h hw
  | o :: os, pre, e => fun G s a w h hw => by
    have ih := awpOps_ok hT hS (ops := ops) hK os (pre ++ [o]) (by rw [e]; simp)
    have ho : ops[pre.length]? = some o := by rw [← Array.getElem?_toList, e]; simp
    show wpOps P ops Q (List.range' pre.length (os.length + 1)) a w
    rw [List.range'_succ, wpOps_cons]
    have hl : (pre ++ [o]).length = pre.length + 1 := by simp
    rw [hl] at ih
    exact awpG_ok hT hS h ho ih hw

theorem awpAny_ok (hT : A.T.ok P = true) (hS : SumOK P A.S) {ops : Array Oper} {K : St → Prop} {Q : Exit → Act → World → Prop} (hK : Say B K (Q .normal)) :
    ∀ (n : Nat) (listed : Array Bool), Say B (awpAny A ops K n listed) (wpAny P .any ops Q n listed)
  | 0, listed => fun G s a w h hw => ⟨hw.1, hK G s a w h hw.2⟩
  | n + 1, listed => fun G s a w h hw => by
    refine ⟨fun e => hK G s a w h (hw.1 e), fun i hi => ?_⟩
    have := hw.2 i hi
    split at this
    case h_2 => exact this.elim
    rename_i o ho
    exact awpG_ok hT hS h (by rw [← Array.getElem?_toList]; exact ho) (awpAny_ok hT hS hK n _) this

theorem Via_ok (hA : B.aa = A.aa) {J : St → Prop} {J' : Act → World → Prop} (hJ : Say B J J') : Say B (Via A J) J' := by
  rintro G s a w h ⟨s', h1, h3⟩
  obtain ⟨G', h2⟩ := h1 _ G a w hA h
  exact hJ _ _ _ _ h2 h3

theorem drawn_rel {G : Nat → GI} {s : St} {a : Act} {w : World} (h : RelG B G s a w) (n : Nat) : RelG B G s a { w with drawn := n } := by
  refine h.grow ⟨rfl, rfl, rfl, Nat.le_refl _⟩ fun b hb => rfl

/-- The walk of the mind is the walk of the code. -/
theorem awp_ok (hT : A.T.ok P = true) (hS : SumOK P A.S) (hm : P.follows .mixedOrders = true) (hA : B.aa = A.aa) :
    ∀ (c : Code) {Q : Exit → St → Prop} {Q' : Exit → Act → World → Prop}, (∀ e, Say B (Q e) (Q' e)) → Say B (awp A c Q) (c.wp P Q') := by
  intro c
  induction c with
  | skip => exact fun hQ G s a w h hw => wp_skip (hQ _ _ _ _ _ h hw)
  | label l => exact fun hQ G s a w h hw => wp_label (hQ _ _ _ _ _ h hw)
  | exit id => exact fun hQ G s a w h hw => wp_exit (hQ _ _ _ _ _ h hw)
  | goto l => exact fun hQ G s a w h hw => wp_goto (hQ _ _ _ _ _ h hw)
  | ret => exact fun hQ G s a w h hw => wp_ret (hQ _ _ _ _ _ h hw)
  | rangeFunc f ps x y => exact fun hQ G s a w h hw => hw.elim
  | scope b => exact fun hQ G s a w h hw => hw.elim
  | refuse why => exact fun hQ G s a w h hw => hw.elim
  | region id ops dr =>
    intro Q Q' hQ G s a w h hw
    cases dr with
    | false =>
      have := awpOps_ok hT hS (ops := ops) (hQ .normal) ops.toList [] rfl G s a w h hw
      refine wp_region ?_
      rw [List.range_eq_range']
      simpa using this
    | true => exact wp_region_any hm (awpAny_ok hT hS (hQ .normal) _ _ G s a _ (drawn_rel h _) hw)
  | seq x y ihx ihy =>
    intro Q Q' hQ G s a w h hw
    refine wp_seq (ihx (Q := thenS (awp A y Q) Q) (fun e => ?_) G s a w h hw)
    cases e with
    | normal => exact ihy hQ
    | exit id => exact hQ (.exit id)
    | goto l => exact hQ (.goto l)
    | ret => exact hQ .ret
    | panic ch => exact hQ (.panic ch)
    | outgrown => exact hQ .outgrown
  | cond c x y ihx ihy =>
    intro Q Q' hQ G s a w h hw
    simp only [awp] at hw
    split at hw
    case h_2 => exact hw.elim
    rename_i v hev
    have hb : a.eval c = .bool v := by have := h.ev c; rw [hev] at this; exact this.inv_bool
    obtain ⟨h1, h2⟩ := splitB_inv hw
    cases v with
    | true =>
      have h1 := h1 rfl
      rw [litS_ok hev] at h1
      exact wp_cond_true hb (ihx hQ G s a w h h1)
    | false =>
      have h2 := h2 rfl
      rw [litS_ok hev] at h2
      exact wp_cond_false hb (ihy hQ G s a w h h2)
  | block id b ih =>
    intro Q Q' hQ G s a w h hw
    refine wp_block (ih (Q := blkS id Q) (fun e => ?_) G s a w h hw)
    cases e with
    | exit id' =>
      intro G s a w h hw
      simp only [blkS] at hw
      simp only [Exit.inBlock]
      split
      · rename_i e; rw [if_pos e] at hw; exact hQ .normal _ _ _ _ h hw
      · rename_i e; rw [if_neg e] at hw; exact hQ (.exit id') _ _ _ _ h hw
    | normal => exact hQ .normal
    | goto l => exact hQ (.goto l)
    | ret => exact hQ .ret
    | panic ch => exact hQ (.panic ch)
    | outgrown => exact hQ .outgrown
  | loop b ih =>
    intro Q Q' hQ G s a w h hw
    obtain ⟨I, ⟨n, hs⟩, hI⟩ := hw
    refine wp_loop_ghost (fun n a w => ∃ G s, RelG B G s a w ∧ I n s) n (Via_ok hA (J := I n) (J' := fun a w => ∃ G s, RelG B G s a w ∧ I n s) (fun G s a w h hi => ⟨G, s, h, hi⟩) G s a w h hs) ?_
    rintro n a w ⟨G, s, h, hi⟩
    refine ih (Q := thenS (fun s' => ∃ m, m < n ∧ Via A (I m) s') Q) (fun e => ?_) G s a w h (hI n s hi)
    cases e with
    | normal =>
      rintro G s a w h ⟨m, hm, hv⟩
      exact ⟨m, hm, Via_ok hA (J := I m) (J' := fun a w => ∃ G s, RelG B G s a w ∧ I m s) (fun G s a w h hi => ⟨G, s, h, hi⟩) G s a w h hv⟩
    | exit id => exact hQ (.exit id)
    | goto l => exact hQ (.goto l)
    | ret => exact hQ .ret
    | panic ch => exact hQ (.panic ch)
    | outgrown => exact hQ .outgrown

/-- What is left to show at the end. -/
def EndA (T : Tab) (aa : AV) (rs : List ResultVar) (out : Ret) : Exit → St → Prop
  | .normal, s => outR T s aa rs = some out
  | .ret, s => outR T s aa rs = some out
  | _, _ => False

theorem fnOK_awp (hT : A.T.ok P = true) (hS : SumOK P A.S) (hm : P.follows .mixedOrders = true) {f : FuncId} {fn : Func} {c : Code} (hf : P.funcs[f]? = some fn) (hb : fn.body = some c) (hnm : (fn.name == "runtime.NumGoroutine") = false) {rs : List ResultVar} (hres : fn.results.toList = rs)
    {ins : List In} (hi : insOK ins = true) (hn : ins.length ≤ fn.ntmps) (hA : A.aa = ancA ins) {out : Ret} (hbody : awp A c (EndA A.T A.aa rs out) (inSt fn.ntmps ins)) : FnOK P f ins out := by
  refine fnOK_of hT hf hb hnm hres hi hn fun B G a w h hB => ?_
  refine awp_ok hT hS hm (hB.trans hA.symm) c (Q := EndA A.T A.aa rs out) (fun e => ?_) G _ a w h hbody
  cases e with
  | normal => exact fun G s a w h ho => ⟨.inl rfl, G, s, h, by rw [hB, ← hA]; exact ho⟩
  | ret => exact fun G s a w h ho => ⟨.inr rfl, G, s, h, by rw [hB, ← hA]; exact ho⟩
  | _ => exact fun G s a w h ho => ho.elim
end rel
end Go.Fs

set_option linter.unusedVariables false
namespace Go.Fs

theorem OkO_some {α : Type} (a : α) (K : α → Prop) : OkO (some a) K = K a := rfl
theorem OkO_none {α : Type} (K : α → Prop) : OkO (none : Option α) K = False := rfl
theorem OkO_ite {α : Type} (c : Prop) [Decidable c] (x : Option α) (K : α → Prop) : OkO (if c then x else none) K = (c ∧ OkO x K) := by
  by_cases h : c
  · rw [if_pos h]; simp [h]
  · rw [if_neg h]; simp [h, OkO]
theorem OkO_bind {α β : Type} (o : Option α) (f : α → Option β) (K : β → Prop) : OkO (o.bind f) K = OkO o (thenF f K) := by cases o <;> rfl
theorem OkO_map {α β : Type} (o : Option α) (f : α → β) (K : β → Prop) : OkO (o.map f) K = OkO o (compK f K) := by cases o <;> rfl
theorem splitB_true (X Y : Prop) : splitB true X Y = X := rfl
theorem splitB_false (X Y : Prop) : splitB false X Y = Y := rfl
theorem upd_at {α : Type} (f : Nat → α) (k : Nat) (x : α) (i : Nat) : upd f k x i = if i = k then x else f i := rfl
theorem awp_skip (A : Env) (Q : Exit → St → Prop) (s : St) : awp A .skip Q s = Q .normal s := by simp only [awp]
theorem awp_region (A : Env) (id : Nat) (ops : Array Oper) (Q : Exit → St → Prop) (s : St) : awp A (.region id ops false) Q s = awpOps A ops.toList (Q .normal) ops.toList s := by simp only [awp]
theorem awp_seq (A : Env) (x y : Code) (Q : Exit → St → Prop) (s : St) : awp A (.seq x y) Q s = awp A x (thenS (awp A y Q) Q) s := by simp only [awp]
theorem awp_cond (A : Env) (t : Nat) (x y : Code) (Q : Exit → St → Prop) (s : St) : awp A (.cond (.tmp t) x y) Q s = match s.env t with
    | .d (.b v) => splitB v (awp A x Q (litS s (.tmp t) true)) (awp A y Q (litS s (.tmp t) false))
    | _ => False := by simp only [awp, St.ev] <;> rfl
theorem awp_block (A : Env) (id : Nat) (b : Code) (Q : Exit → St → Prop) (s : St) : awp A (.block id b) Q s = awp A b (blkS id Q) s := by simp only [awp]
theorem awp_exit (A : Env) (id : Nat) (Q : Exit → St → Prop) (s : St) : awp A (.exit id) Q s = Q (.exit id) s := by simp only [awp]
theorem awp_ret (A : Env) (Q : Exit → St → Prop) (s : St) : awp A .ret Q s = Q .ret s := by simp only [awp]

theorem thenS_normal (K : St → Prop) (Q : Exit → St → Prop) (s : St) : thenS K Q .normal s = K s := rfl
theorem thenS_exit (K : St → Prop) (Q : Exit → St → Prop) (i : Nat) (s : St) : thenS K Q (.exit i) s = Q (.exit i) s := rfl
theorem thenS_ret (K : St → Prop) (Q : Exit → St → Prop) (s : St) : thenS K Q .ret s = Q .ret s := rfl
theorem blkS_normal (id : Nat) (Q : Exit → St → Prop) (s : St) : blkS id Q .normal s = Q .normal s := rfl
theorem blkS_exit (id : Nat) (Q : Exit → St → Prop) (i : Nat) (s : St) : blkS id Q (.exit i) s = if i = id then Q .normal s else Q (.exit i) s := rfl
theorem blkS_ret (id : Nat) (Q : Exit → St → Prop) (s : St) : blkS id Q .ret s = Q .ret s := rfl
theorem EndA_normal (T : Tab) (aa : AV) (rs : List ResultVar) (out : Ret) (s : St) : EndA T aa rs out .normal s = (outR T s aa rs = some out) := rfl
theorem EndA_ret (T : Tab) (aa : AV) (rs : List ResultVar) (out : Ret) (s : St) : EndA T aa rs out .ret s = (outR T s aa rs = some out) := rfl
def insL : Nat → List In → Nat → AV
  | _, [] => fun _ => .x
  | i, x :: xs => upd (insL (i + 1) xs) i (inAV x)
theorem insL_at : ∀ (ins : List In) (i t : Nat), insL i ins t = if i ≤ t then (ins.map inAV).getD (t - i) .x else .x
  | [], i, t => by simp [insL]
  | x :: xs, i, t => by
    rw [insL, upd]
    by_cases h : t = i
    · subst h; simp
    · rw [if_neg h, insL_at xs (i + 1) t]
      by_cases h2 : i ≤ t
      · have : t - i = t - (i + 1) + 1 := by omega
        rw [if_pos (by omega), if_pos h2, this]
        simp
      · rw [if_neg (by omega), if_neg h2]
theorem inSt_eq (n : Nat) (ins : List In) : inSt n ins = ⟨n, insL 0 ins, inHeap ins⟩ := by
  unfold inSt
  congr 1
  funext t
  rw [insL_at]
  simp
theorem constAV_i (k : IntKind) (n : Int) : constAV (.int k n) = .d (.i k n) := rfl
theorem constAV_b (b : Bool) : constAV (.bool b) = .d (.b b) := rfl
theorem constAV_z : constAV (.slice none 0 0) = .z 0 := rfl
theorem constAV_n : constAV (.pointer none) = .d .n := rfl
theorem constAV_s (b : ByteArray) : constAV (.string b) = .d (.s b) := rfl

/-! ### loops -/
def stL (n : Nat) (L : List (Nat × AV)) (K : List (Nat × Option Ob)) : St := ⟨n, envL L, obL K⟩
def obM (ren : List (Nat × Nat)) : Option Ob → Option Ob
  | some o => some (mapOb ren o)
  | none => none
theorem wkS_stL (live : List Nat) (ren : List (Nat × Nat)) (s : St) : wkS live ren s = stL s.n (live.map fun t => (t, mapA ren (s.env t))) (ren.map fun x => (x.2, obM ren (s.heap x.1))) := by
  rfl
/-- Keys, in the order in which they are met. -/
def keysC : AV → List Nat
  | .r k => [k]
  | .a k _ => [k]
  | .e k _ _ => [k]
  | .m k _ _ _ => [k]
  | .mp k => [k]
  | _ => []
def keysA : AV → List Nat
  | .g cs => cs.flatMap keysC
  | .f _ caps => caps.flatMap keysC
  | .t vs => vs.flatMap keysC
  | av => keysC av
def keysO : Option Ob → List Nat
  | some (.box cs) => cs.flatMap keysC
  | _ => []
def canonGo : List Nat → Nat → List (Nat × Nat) → List (Nat × Nat)
  | [], _, ren => ren
  | k :: ks, n, ren => if ren.any (fun x => x.1 == k) then canonGo ks n ren else if 900000 ≤ k then canonGo ks n (ren ++ [(k, k)]) else canonGo ks (n + 1) (ren ++ [(k, 500000 + n)])
def canon2 (H : Nat → Option Ob) (ks : List Nat) : List (Nat × Nat) := canonGo (ks ++ ks.flatMap fun k => keysO (H k)) 0 []
def canon (aa : AV) (live : List Nat) (s : St) : List (Nat × Nat) := canon2 s.heap (keysA aa ++ live.flatMap fun t => keysA (s.env t))
/-- Behind a round: the state, known by what lives, is one of these. -/
def Back {X : Type} (aa : AV) (live : List Nat) (mk : X → St) (R : X → Prop) (s : St) : Prop :=
  (renOK (canon aa live s) = true ∧ fixAA (canon aa live s) aa = true) ∧ ∃ x, wkS live (canon aa live s) s = mk x ∧ R x
theorem loopW {X : Type} {A : Env} {b : Code} {Q : Exit → St → Prop} {s : St} (live : List Nat) (mk : X → St) (Inv : X → Prop) (μ : X → Nat) (h0 : Back A.aa live mk Inv s)
    (hs : ∀ x, Inv x → awp A b (thenS (Back A.aa live mk fun x' => Inv x' ∧ μ x' < μ x) Q) (mk x)) : awp A (.loop b) Q s := by
  simp only [awp]
  refine ⟨fun n s => ∃ x, s = mk x ∧ Inv x ∧ μ x = n, ?_, ?_⟩
  · obtain ⟨⟨h1, h2⟩, x, h3, h4⟩ := h0
    exact ⟨μ x, _, sem_wk live h1 h2, x, h3, h4, rfl⟩
  · rintro n _ ⟨x, rfl, hx, rfl⟩
    have hm : ∀ (c : Code) {Q1 Q2 : Exit → St → Prop}, (∀ e s, Q1 e s → Q2 e s) → ∀ s, awp A c Q1 s → awp A c Q2 s := awp_mono
    refine hm b (fun e s h => ?_) _ (hs x hx)
    cases e with
    | normal =>
      obtain ⟨⟨h1, h2⟩, x', h3, h4, h5⟩ := h
      exact ⟨μ x', h5, _, sem_wk live h1 h2, x', h3, h4, rfl⟩
    | _ => exact h

/-- A loop may be looked at from a state that is known otherwise. -/
theorem awp_loop_sem {A : Env} {b : Code} {Q : Exit → St → Prop} {s s' : St} (h : Sem A.aa s s') (hw : awp A (.loop b) Q s') : awp A (.loop b) Q s := by
  simp only [awp] at hw ⊢
  obtain ⟨I, ⟨n, s2, h1, h2⟩, hI⟩ := hw
  exact ⟨I, ⟨n, s2, h.trans h1, h2⟩, hI⟩

theorem stL_n (n : Nat) (L : List (Nat × AV)) (K : List (Nat × Option Ob)) : (stL n L K).n = n := rfl
theorem stL_env (n : Nat) (L : List (Nat × AV)) (K : List (Nat × Option Ob)) : (stL n L K).env = envL L := rfl
theorem stL_heap (n : Nat) (L : List (Nat × AV)) (K : List (Nat × Option Ob)) : (stL n L K).heap = obL K := rfl
theorem stL_eq {n : Nat} {L L' : List (Nat × AV)} {K K' : List (Nat × Option Ob)} (h : L = L') (k : K = K') : stL n L K = stL n L' K' := by rw [h, k]
theorem envL_cons (x : Nat × AV) (L : List (Nat × AV)) : envL (x :: L) = upd (envL L) x.1 x.2 := rfl
theorem envL_nil : envL [] = fun _ => .x := rfl
theorem obL_cons (x : Nat × Option Ob) (L : List (Nat × Option Ob)) : obL (x :: L) = upd (obL L) x.1 x.2 := rfl
theorem obL_nil : obL [] = fun _ => none := rfl

theorem seqK {A : Env} {x y : Code} {Q : Exit → St → Prop} {s : St} (h : ∀ K : St → Prop, (∀ s, awp A y Q s → K s) → awp A x (thenS K Q) s) : awp A (.seq x y) Q s := by
  rw [awp_seq]
  exact h _ fun _ h => h
theorem keyIn_eq : keyIn = 900000 := rfl
theorem ovr_eq (L : List (Nat × Ob)) (H : Nat → Option Ob) : ovr L H = updL L H := (updL_eq L H).symm
end Go.Fs

set_option linter.unusedVariables false
namespace Go.Fs

/-! ### the size of a datum -/
mutual
def wt : D → Nat
  | .s t => t.size
  | .l _ xs => xs.length + wtLL xs
  | .g cs => wtL cs
  | _ => 0
def wtL : List D → Nat
  | [] => 0
  | d :: ds => wt d + wtL ds
def wtLL : List (List D) → Nat
  | [] => 0
  | x :: xs => wtL x + wtLL xs
end
/-- What is left of 'n' when 'w' is taken; -1, if that is not there. -/
def less (n : Int) (w : Nat) : Int := if n < (w : Int) then -1 else n - w
theorem less_less (n : Int) (a b : Nat) : less (less n a) b = less n (a + b) := by unfold less; split <;> split <;> split <;> omega

def maxD : Nat := 140737488355328
mutual
/-- No list and no text of it is longer than memory could hold; numbers are of their kind. -/
def okD : D → Bool
  | .s t => decide (t.size ≤ maxD)
  | .i k n => decide (k.wrap n = n)
  | .l _ xs => decide (xs.length ≤ maxD) && okLL xs
  | .g cs => okL cs
  | _ => true
def okL : List D → Bool
  | [] => true
  | d :: ds => okD d && okL ds
def okLL : List (List D) → Bool
  | [] => true
  | x :: xs => okL x && okLL xs
end
theorem okLL_get : ∀ {xs : List (List D)} {i : Nat}, okLL xs = true → i < xs.length → okL (xs.getD i []) = true
  | [], i, _, h => by simp at h
  | x :: xs, 0, h, _ => by simp only [okLL, Bool.and_eq_true] at h; exact h.1
  | x :: xs, i + 1, h, hi => by
    simp only [okLL, Bool.and_eq_true] at h
    simpa using okLL_get h.2 (i := i) (by simpa using hi)
theorem wtLL_take : ∀ {xs : List (List D)} {i : Nat}, i < xs.length → wtLL (xs.take (i + 1)) = wtLL (xs.take i) + wtL (xs.getD i [])
  | [], i, h => by simp at h
  | x :: xs, 0, _ => by simp [wtLL]
  | x :: xs, i + 1, h => by
    have := wtLL_take (xs := xs) (i := i) (by simpa using h)
    simp only [List.take_succ_cons, wtLL, this, List.getD_cons_succ]
    omega

theorem wtLL_mono : ∀ {xs : List (List D)} {i : Nat}, i < xs.length → wtLL (xs.take i) + wtL (xs.getD i []) ≤ wtLL xs
  | [], i, h => by simp at h
  | x :: xs, 0, _ => by simp [wtLL]
  | x :: xs, i + 1, h => by
    have := wtLL_mono (xs := xs) (i := i) (by simpa using h)
    simp only [List.take_succ_cons, wtLL, List.getD_cons_succ]
    omega

/-- Rows of one text. -/
def isS : List D → Bool
  | [.s _] => true
  | _ => false
theorem isS_get {xs : List (List D)} {i : Nat} (h : xs.all isS = true) (hi : i < xs.length) : ∃ t, xs.getD i [] = [.s t] := by
  have := List.all_eq_true.1 h _ (List.getElem_mem hi)
  have e : xs.getD i [] = xs[i] := by simp [List.getElem?_eq_getElem hi]
  rw [e]
  generalize xs[i] = x at this
  match x, this with
  | [.s t], _ => exact ⟨t, rfl⟩

theorem wrap64 {n : Int} (h1 : -9223372036854775808 ≤ n) (h2 : n < 9223372036854775808) : IntKind.i64.wrap n = n := by
  have e : (2 ^ IntKind.i64.bits : Int) = 18446744073709551616 := by decide
  have e2 : (2 ^ (IntKind.i64.bits - 1) : Int) = 9223372036854775808 := by decide
  have e3 : IntKind.i64.signed = true := rfl
  unfold IntKind.wrap
  rw [e, e2, e3]
  simp only [Bool.true_and, decide_eq_true_eq, ge_iff_le]
  split <;> omega
theorem splitB_intro {v : Bool} {X Y : Prop} (h1 : v = true → X) (h2 : v = false → Y) : splitB v X Y := by
  cases v
  · exact h2 rfl
  · exact h1 rfl
theorem OkO_intro {α : Type} {c : Prop} [Decidable c] {x : Option α} {K : α → Prop} (h : c) (hk : OkO x K) : OkO (if c then x else none) K := by rw [if_pos h]; exact hk
theorem okD_s (t : ByteArray) : (okD (.s t) = true) = (t.size ≤ 140737488355328) := propext ⟨fun h => of_decide_eq_true h, fun h => decide_eq_true h⟩
theorem okD_i (n : Int) : (okD (.i .i64 n) = true) = (-9223372036854775808 ≤ n ∧ n < 9223372036854775808) := by
  apply propext
  constructor
  · intro h
    simp only [okD, decide_eq_true_eq] at h
    have e : (2 ^ IntKind.i64.bits : Int) = 18446744073709551616 := by decide
    have e2 : (2 ^ (IntKind.i64.bits - 1) : Int) = 9223372036854775808 := by decide
    have e3 : IntKind.i64.signed = true := rfl
    unfold IntKind.wrap at h
    rw [e, e2, e3] at h
    simp only [Bool.true_and, decide_eq_true_eq, ge_iff_le] at h
    split at h <;> omega
  · intro h
    simp only [okD, decide_eq_true_eq]
    exact wrap64 h.1 h.2
theorem okD_b (b : Bool) : (okD (.b b) = true) = True := by simp [okD]
theorem okD_l (sz : Nat) (xs : List (List D)) : (okD (.l sz xs) = true) = (xs.length ≤ 140737488355328 ∧ okLL xs = true) := by
  apply propext
  show (decide (xs.length ≤ maxD) && okLL xs) = true ↔ _
  rw [Bool.and_eq_true]
  exact and_congr_left fun _ => ⟨fun h => of_decide_eq_true h, fun h => decide_eq_true h⟩
theorem okD_g (cs : List D) : (okD (.g cs) = true) = (okL cs = true) := by simp [okD]
theorem okL_nil : (okL [] = true) = True := by simp [okL]
theorem okL_cons (d : D) (ds : List D) : (okL (d :: ds) = true) = (okD d = true ∧ okL ds = true) := by simp [okL]
theorem okLL_nil : (okLL [] = true) = True := by simp [okLL]
theorem okLL_cons (x : List D) (xs : List (List D)) : (okLL (x :: xs) = true) = (okL x = true ∧ okLL xs = true) := by simp [okLL]
end Go.Fs
