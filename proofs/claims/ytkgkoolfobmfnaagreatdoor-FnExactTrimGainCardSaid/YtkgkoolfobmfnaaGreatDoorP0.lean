/- A part of the proof: an evaluator of the program's code over plain data, proved sound; the equations of its functions; what they compute. No conditions beyond those in the theorems. -/
import Derived.Maps.AppendAt
import Derived.Below
import Derived.Lib.ItoaNum
import Derived.Laws.MakeOwn
import Derived.Lib.FrozenHead
import Derived.Laws.Strings
import Derived.Laws.StructEq
set_option linter.unusedVariables false
set_option linter.unusedSimpArgs false
set_option linter.constructorNameAsVariable false
set_option linter.unusedSectionVars false
set_option linter.defProp false
namespace Go.Fs
open Go.RowKit
def opW : List ByteArray := ["push", "flag", "load", "keep", "prim", "jump", "unless", "call", "back", "row"].map String.toUTF8
def tyW : List ByteArray := ["int", "bool", "row"].map String.toUTF8
/-- The type of builders of texts, that of bytes. -/
def bT : Nat := 36
def bE : Nat := 5
/-- Functions that answer with a scalar and leave all as it is: calls of them look, no more. -/
def qFn (f : Nat) : Bool := [71].contains f
/-- So many blocks are variables of packages. -/
def nG : Nat := 11
/-- Tables of texts. -/
def gT : Nat → Option (List ByteArray)
  | 0 => some opW
  | 1 => some tyW
  | _ => none
theorem gT_lt {g : Nat} {ws : List ByteArray} (h : gT g = some ws) : g < nG := by
  unfold gT at h
  split at h
  · decide
  · decide
  · cases h
def ifV (v : Value) : Prop := v = .nilIface ∨ ∃ te pe, v = .iface te pe
structure Kn (w : World) : Prop where
  tab : ∀ g ws, gT g = some ws → ∃ cur el fr, w.heap[g]? = some (.cells cur el fr) ∧ ∀ (j : Nat) (v : Value), (ws.map Value.string)[j]? = some v → cur[j]? = some v
  max : ∃ m, w.cell? ⟨2, 0, none⟩ = some (.int .i64 m)
  syn : ∃ v, w.cell? ⟨4, 0, none⟩ = some v ∧ ifV v
  rng : ∃ v, w.cell? ⟨5, 0, none⟩ = some v ∧ ifV v
  pow : ∃ el fr, w.heap[6]? = some (.cells (Lib.pow10Tab.map fun z => Value.int .u64 z).toArray el fr)
theorem cell_keep {w w' : World} {g : Nat} (h : w'.heap[g]? = w.heap[g]?) {o : Nat} : w'.cell? ⟨g, o, none⟩ = w.cell? ⟨g, o, none⟩ := by
  unfold World.cell?
  simp only [h]
theorem Kn.keep {w w' : World} (h : Kn w) (hw : ∀ b, b < nG → w'.heap[b]? = w.heap[b]?) : Kn w' := by
  refine ⟨fun g ws e => ?_, ?_, ?_, ?_, ?_⟩
  · rw [hw g (gT_lt e)]
    exact h.tab g ws e
  · rw [cell_keep (hw 2 (by decide))]; exact h.max
  · rw [cell_keep (hw 4 (by decide))]; exact h.syn
  · rw [cell_keep (hw 5 (by decide))]; exact h.rng
  · rw [hw 6 (by decide)]; exact h.pow
/-- It is so here, and none of these blocks may be written. -/
structure KnW (w : World) (M : Nat → Prop) : Prop where
  kn : Kn w
  size : nG ≤ w.heap.size
  ge : ∀ b, M b → nG ≤ b
end Go.Fs
namespace Go.Fs
open Go.RowKit

/-- Plain data: what a value of the program reads as. -/
inductive D where
  | b (v : Bool)
  | i (k : IntKind) (n : Int)
  | s (v : ByteArray)
  | l (sz : Nat) (xs : List (List D))
  | g (cs : List D)
  | f (fn : FuncId) (caps : List D)
  | p (cs : List D)
  | n
  | t (vs : List D)
  | u
  | e (v : Bool)
  deriving Inhabited

/-- Texts, as data. -/
def strD (ws : List ByteArray) : List D := ws.map .s

mutual
/-- A value reads as a datum; 'own': its slices may be written and grown. The list: the blocks that it comes to. -/
inductive Tr (w : World) (own : Bool) : Value → D → List Nat → Prop
  | b (x : Bool) : Tr w own (.bool x) (.b x) []
  | i (k : IntKind) (n : Int) : Tr w own (.int k n) (.i k n) []
  | s (x : ByteArray) : Tr w own (.string x) (.s x) []
  | np : Tr w own (.pointer none) .n []
  | nf : Tr w own .nilFunc .n []
  | ni : Tr w own .nilIface (.e false) []
  | ei (te : TypeId) (pv : Value) : Tr w own (.iface te pv) (.e true) []
  | z (a : Option Addr) (c sz : Nat) (h : own = true → c = 0) : Tr w own (.slice a 0 c) (.l sz []) []
  | l (g o c sz : Nat) (cur : Array Value) (e : TypeId) (fr : Nat × Nat) (vs : List Value) (xs : List (List D)) (S : List Nat)
      (hg : w.heap[g]? = some (.cells cur e fr)) (hc : xs.length ≤ c) (hm : c ≤ maxLen) (hl : vs.length = xs.length * sz)
      (hv : ∀ j v, vs[j]? = some v → cur[o + j]? = some v) (h1 : ∀ v ∈ vs, v.oneCell' = true) (hx : ∀ x ∈ xs, x.length = sz)
      (ho : own = true → fr = (0, 0) ∧ o + c * sz ≤ cur.size) (hs : TrL w own vs xs.flatten S) : Tr w own (.slice (some ⟨g, o, none⟩) xs.length c) (.l sz xs) (g :: S)
  | g (cs : Array Value) (ds : List D) (S : List Nat) (h : TrL w own cs.toList ds S) : Tr w own (.agg cs) (.g ds) S
  | f (fn : FuncId) (cs : Array Value) (ds : List D) (S : List Nat) (h : TrL w own cs.toList ds S) : Tr w own (.func (.func fn) #[] cs) (.f fn ds) S
  | p (g o : Nat) (cur : Array Value) (e : TypeId) (fr : Nat × Nat) (vs : List Value) (ds : List D) (S : List Nat)
      (hg : w.heap[g]? = some (.cells cur e fr)) (hv : ∀ j v, vs[j]? = some v → cur[o + j]? = some v) (h1 : ∀ v ∈ vs, v.oneCell' = true)
      (ho : own = true → fr = (0, 0) ∧ o = 0 ∧ cur.size = vs.length) (hs : TrL w own vs ds S) : Tr w own (.pointer (some ⟨g, o, none⟩)) (.p ds) (g :: S)
  | t (vs : Array Value) (ds : List D) (S : List Nat) (h : TrL w own vs.toList ds S) : Tr w own (.tuple vs) (.t ds) S
  | u (a : Option Addr) (len cap : Nat) : Tr w own (.slice a len cap) .u []
inductive TrL (w : World) (own : Bool) : List Value → List D → List Nat → Prop
  | nil : TrL w own [] [] []
  | cons (v : Value) (d : D) (S : List Nat) (vs : List Value) (ds : List D) (Ss : List Nat) (h : Tr w own v d S) (hs : TrL w own vs ds Ss) : TrL w own (v :: vs) (d :: ds) (S ++ Ss)
end

/-- What is read lies in blocks that are there. -/
theorem Tr.lt {w : World} {own : Bool} {v : Value} {d : D} {S : List Nat} (h : Tr w own v d S) : ∀ b ∈ S, b < w.heap.size := by
  have lt : ∀ {g : Nat} {o : Obj}, w.heap[g]? = some o → g < w.heap.size := fun h => (Array.getElem?_eq_some_iff.1 h).1
  refine Tr.rec (w := w) (own := own) (motive_1 := fun v d S _ => ∀ b ∈ S, b < w.heap.size) (motive_2 := fun vs ds S _ => ∀ b ∈ S, b < w.heap.size)
    ?_ ?_ ?_ ?_ ?_ ?_ ?_ ?_ ?_ ?_ ?_ ?_ ?_ ?_ ?_ ?_ h
  all_goals intros
  all_goals simp_all
  all_goals first
    | (intro b hb; rcases hb with rfl | hb; first | exact lt (by assumption) | (rename_i ih; exact ih _ hb); done)
    | skip
  all_goals grind

theorem TrL.lt {w : World} {own : Bool} {vs : List Value} {ds : List D} {S : List Nat} (h : TrL w own vs ds S) : ∀ b ∈ S, b < w.heap.size := by
  have := Tr.lt (Tr.t vs.toArray ds S (by simpa using h))
  exact this

/-- What is read reads so in another world, if these blocks are as they were. -/
theorem Tr.keep {w w' : World} {own : Bool} {v : Value} {d : D} {S : List Nat} (h : Tr w own v d S) : (∀ b ∈ S, w'.heap[b]? = w.heap[b]?) → Tr w' own v d S := by
  refine Tr.rec (w := w) (own := own) (motive_1 := fun v d S _ => (∀ b ∈ S, w'.heap[b]? = w.heap[b]?) → Tr w' own v d S) (motive_2 := fun vs ds S _ => (∀ b ∈ S, w'.heap[b]? = w.heap[b]?) → TrL w' own vs ds S)
    ?_ ?_ ?_ ?_ ?_ ?_ ?_ ?_ ?_ ?_ ?_ ?_ ?_ ?_ ?_ ?_ h
  · intro x _; exact .b x
  · intro k n _; exact .i k n
  · intro x _; exact .s x
  · intro _; exact .np
  · intro _; exact .nf
  · intro _; exact .ni
  · intro te pv _; exact .ei te pv
  · intro a c sz h _; exact .z a c sz h
  · intro g o c sz cur e fr vs xs S hg hc hm hl hv h1 hx ho hs ih hk
    exact .l g o c sz cur e fr vs xs S ((hk g (by simp)).trans hg) hc hm hl hv h1 hx ho (ih fun b hb => hk b (by simp [hb]))
  · intro cs ds S hs ih hk; exact .g cs ds S (ih hk)
  · intro fn cs ds S hs ih hk; exact .f fn cs ds S (ih hk)
  · intro g o cur e fr vs ds S hg hv h1 ho hs ih hk
    exact .p g o cur e fr vs ds S ((hk g (by simp)).trans hg) hv h1 ho (ih fun b hb => hk b (by simp [hb]))
  · intro cs ds S hs ih hk; exact .t cs ds S (ih hk)
  · intro a l c _; exact .u a l c
  · intro _; exact .nil
  · intro v d S vs ds Ss h hs ih ihs hk
    exact .cons v d S vs ds Ss (ih fun b hb => hk b (by simp [hb])) (ihs fun b hb => hk b (by simp [hb]))

theorem TrL.keep {w w' : World} {own : Bool} {vs : List Value} {ds : List D} {S : List Nat} (h : TrL w own vs ds S) (hk : ∀ b ∈ S, w'.heap[b]? = w.heap[b]?) : TrL w' own vs ds S := by
  have := Tr.keep (Tr.t vs.toArray ds S (by simpa using h)) hk
  cases this with
  | t _ _ _ h => simpa using h

/-- What is owned may be read. -/
theorem Tr.shared {w : World} {own : Bool} {v : Value} {d : D} {S : List Nat} (h : Tr w own v d S) : Tr w false v d S := by
  refine Tr.rec (w := w) (own := own) (motive_1 := fun v d S _ => Tr w false v d S) (motive_2 := fun vs ds S _ => TrL w false vs ds S)
    ?_ ?_ ?_ ?_ ?_ ?_ ?_ ?_ ?_ ?_ ?_ ?_ ?_ ?_ ?_ ?_ h
  · intro x; exact .b x
  · intro k n; exact .i k n
  · intro x; exact .s x
  · exact .np
  · exact .nf
  · exact .ni
  · intro te pv; exact .ei te pv
  · intro a c sz h; exact .z a c sz (by simp)
  · intro g o c sz cur e fr vs xs S hg hc hm hl hv h1 hx ho hs ih
    exact .l g o c sz cur e fr vs xs S hg hc hm hl hv h1 hx (by simp) ih
  · intro cs ds S hs ih; exact .g cs ds S ih
  · intro fn cs ds S hs ih; exact .f fn cs ds S ih
  · intro g o cur e fr vs ds S hg hv h1 ho hs ih
    exact .p g o cur e fr vs ds S hg hv h1 (by simp) ih
  · intro cs ds S hs ih; exact .t cs ds S ih
  · intro a l c; exact .u a l c
  · exact .nil
  · intro v d S vs ds Ss h hs ih ihs
    exact .cons v d S vs ds Ss ih ihs

theorem TrL.shared {w : World} {own : Bool} {vs : List Value} {ds : List D} {S : List Nat} (h : TrL w own vs ds S) : TrL w false vs ds S := by
  have := Tr.shared (Tr.t vs.toArray ds S (by simpa using h))
  cases this with
  | t _ _ _ h => simpa using h

theorem TrL.length {w : World} {own : Bool} : ∀ {vs : List Value} {ds : List D} {S : List Nat}, TrL w own vs ds S → vs.length = ds.length
  | _, _, _, .nil => rfl
  | _, _, _, .cons _ _ _ _ _ _ _ hs => by simp [hs.length]

theorem TrL.append {w : World} {own : Bool} : ∀ {vs : List Value} {ds : List D} {S : List Nat} {vs' : List Value} {ds' : List D} {S' : List Nat}, TrL w own vs ds S → TrL w own vs' ds' S' → TrL w own (vs ++ vs') (ds ++ ds') (S ++ S')
  | _, _, _, _, _, _, .nil, h => h
  | _, _, _, _, _, _, .cons v d S vs ds Ss h hs, h' => by
    rw [List.cons_append, List.cons_append, List.append_assoc]
    exact .cons v d S _ _ _ h (hs.append h')

/-- A cell out of a row of cells. -/
theorem TrL.get {w : World} {own : Bool} : ∀ {vs : List Value} {ds : List D} {S : List Nat}, TrL w own vs ds S → ∀ {j : Nat} {d : D}, ds[j]? = some d → ∃ v S1, vs[j]? = some v ∧ Tr w own v d S1 ∧ (∀ b ∈ S1, b ∈ S) ∧ (S.Nodup → S1.Nodup)
  | _, _, _, .nil, j, d, h => by simp at h
  | _, _, _, .cons v d S vs ds Ss h hs, 0, d', h' => by
    simp at h'
    subst h'
    exact ⟨v, S, rfl, h, fun b hb => by simp [hb], fun hn => (List.nodup_append.1 hn).1⟩
  | _, _, _, .cons v d S vs ds Ss h hs, j + 1, d', h' => by
    obtain ⟨v', S1, hv, ht, hS, hn⟩ := hs.get (j := j) (by simpa using h')
    exact ⟨v', S1, by simpa using hv, ht, fun b hb => by simp [hS b hb], fun h => hn (List.nodup_append.1 h).2.1⟩

theorem TrL.take {w : World} {own : Bool} : ∀ {vs : List Value} {ds : List D} {S : List Nat}, TrL w own vs ds S → ∀ n, ∃ S1, TrL w own (vs.take n) (ds.take n) S1 ∧ (∀ b ∈ S1, b ∈ S) ∧ (S.Nodup → S1.Nodup)
  | _, _, _, .nil, n => ⟨[], by simpa using .nil, by simp, by simp⟩
  | _, _, _, .cons v d S vs ds Ss h hs, 0 => ⟨[], .nil, by simp, by simp⟩
  | _, _, _, .cons v d S vs ds Ss h hs, n + 1 => by
    obtain ⟨S1, h1, h2, h3⟩ := hs.take n
    refine ⟨S ++ S1, .cons v d S _ _ S1 h h1, ?_, ?_⟩
    · intro b hb
      rcases List.mem_append.1 hb with hb | hb
      · simp [hb]
      · simp [h2 b hb]
    · intro hn
      obtain ⟨ha, hb, hc⟩ := List.nodup_append.1 hn
      exact List.nodup_append.2 ⟨ha, h3 hb, fun x hx y hy => hc x hx y (h2 y hy)⟩

theorem TrL.drop {w : World} {own : Bool} : ∀ {vs : List Value} {ds : List D} {S : List Nat}, TrL w own vs ds S → ∀ n, ∃ S1, TrL w own (vs.drop n) (ds.drop n) S1 ∧ (∀ b ∈ S1, b ∈ S) ∧ (S.Nodup → S1.Nodup)
  | _, _, _, .nil, n => ⟨[], by simpa using .nil, by simp, by simp⟩
  | _, _, _, .cons v d S0 vs ds Ss h hs, 0 => ⟨S0 ++ Ss, .cons v d S0 vs ds Ss h hs, fun _ h => h, fun h => h⟩
  | _, _, _, .cons v d S vs ds Ss h hs, n + 1 => by
    obtain ⟨S1, h1, h2, h3⟩ := hs.drop n
    exact ⟨S1, h1, fun b hb => by simp [h2 b hb], fun hn => h3 (List.nodup_append.1 hn).2.1⟩

theorem flat_length {α : Type} {xs : List (List α)} {sz : Nat} (h : ∀ x ∈ xs, x.length = sz) : xs.flatten.length = xs.length * sz := by
  induction xs with
  | nil => simp
  | cons x xs ih =>
    simp only [List.flatten_cons, List.length_append, List.length_cons]
    rw [h x (by simp), ih fun y hy => h y (by simp [hy]), Nat.succ_mul]
    omega

theorem flat_get {α : Type} {xs : List (List α)} {sz : Nat} (h : ∀ x ∈ xs, x.length = sz) : ∀ {i j : Nat} {x : List α}, xs[i]? = some x → j < sz → xs.flatten[i * sz + j]? = x[j]? := by
  induction xs with
  | nil => intro i j x hx; simp at hx
  | cons y ys ih =>
    intro i j x hx hj
    have hy : y.length = sz := h y (by simp)
    rw [List.flatten_cons]
    cases i with
    | zero =>
      simp at hx
      subst hx
      rw [Nat.zero_mul, Nat.zero_add, List.getElem?_append_left (by omega)]
    | succ i =>
      rw [List.getElem?_append_right (by rw [hy, Nat.succ_mul]; omega), hy, show (i + 1) * sz + j - sz = i * sz + j by rw [Nat.succ_mul]; omega]
      exact ih (fun z hz => h z (by simp [hz])) (by simpa using hx) hj

theorem flat_take {α : Type} {xs : List (List α)} {sz : Nat} (h : ∀ x ∈ xs, x.length = sz) (n : Nat) : (xs.take n).flatten = xs.flatten.take (n * sz) := by
  induction xs generalizing n with
  | nil => simp
  | cons y ys ih =>
    cases n with
    | zero => simp
    | succ n =>
      have hy : y.length = sz := h y (by simp)
      rw [List.take_succ_cons, List.flatten_cons, List.flatten_cons, ih (fun z hz => h z (by simp [hz])), List.take_append, hy, Nat.succ_mul, List.take_of_length_le (l := y) (by rw [hy]; omega), show n * sz + sz - sz = n * sz by omega]

theorem flat_drop {α : Type} {xs : List (List α)} {sz : Nat} (h : ∀ x ∈ xs, x.length = sz) (n : Nat) : (xs.drop n).flatten = xs.flatten.drop (n * sz) := by
  induction xs generalizing n with
  | nil => simp
  | cons y ys ih =>
    cases n with
    | zero => simp
    | succ n =>
      have hy : y.length = sz := h y (by simp)
      rw [List.drop_succ_cons, List.flatten_cons, ih (fun z hz => h z (by simp [hz])), List.drop_append, hy, Nat.succ_mul, List.drop_of_length_le (l := y) (by rw [hy]; omega), show n * sz + sz - sz = n * sz by omega, List.nil_append]

end Go.Fs
namespace Go.Fs
open Go.RowKit

/-- What a slot holds, as far as it is known. -/
inductive AV where
  | d (x : D)
  | z (sz : Nat)
  | r (k : Nat)
  | a (k o : Nat)
  | e (k i o : Nat)
  | m (k ve i o : Nat)
  | q (cs : List D) (o : Nat)
  | g (cs : List AV)
  | f (fn : FuncId) (caps : List AV)
  | t (vs : List AV)
  | mp (k : Nat)
  | x
  | nl
  | bp (k : Nat)
  deriving Inhabited

/-- A value of one cell that comes to no block. -/
def scalV : D → Value
  | .b v => .bool v
  | .i k n => .int k n
  | .s v => .string v
  | _ => undef

def mapv : D → Bool
  | .b _ | .i _ _ | .s _ => true
  | _ => false

/-- What a call has made itself: a row that it may grow and write, a variable. -/
inductive Ob where
  | row (sz : Nat) (xs : List (List D)) (deep frozen : Bool) (ver : Nat)
  | box (cs : List AV)
  | map (kv : List (ByteArray × D))
  | bld (s : ByteArray)
  | dead

structure St where
  n : Nat
  env : Nat → AV
  heap : Nat → Option Ob

/-- Where an object lies. -/
structure GI where
  blk : Nat
  off : Nat
  cap : Nat
  vs : List Value
  sub : List Nat
  deriving Inhabited

mutual
inductive AVR (w : World) (G : Nat → GI) (H : Nat → Option Ob) (Av : Nat → Prop) : Value → AV → Prop
  | d (v : Value) (x : D) (S : List Nat) (h1 : v.oneCell' = true) (h : Tr w false v x S) (hS : ∀ b ∈ S, ¬ Av b) : AVR w G H Av v (.d x)
  | z (sz : Nat) : AVR w G H Av (.slice none 0 0) (.z sz)
  | r (k sz : Nat) (xs : List (List D)) (dp fz : Bool) (ve : Nat) (a : Option Addr) (hk : H k = some (.row sz xs dp fz ve))
      (ha : 0 < (G k).cap → a = some ⟨(G k).blk, (G k).off, none⟩) : AVR w G H Av (.slice a xs.length (G k).cap) (.r k)
  | rd (k : Nat) (v : Value) (hk : H k = some .dead) : AVR w G H Av v (.r k)
  | a (k o : Nat) (cs : List AV) (hk : H k = some (.box cs)) : AVR w G H Av (.pointer (some ⟨(G k).blk, o, none⟩)) (.a k o)
  | ad (k o : Nat) (v : Value) (hk : H k = some .dead) : AVR w G H Av v (.a k o)
  | e (k i o sz : Nat) (xs : List (List D)) (dp fz : Bool) (ve : Nat) (hk : H k = some (.row sz xs dp fz ve)) (hi : i < xs.length) :
      AVR w G H Av (.pointer (some ⟨(G k).blk, (G k).off + i * sz + o, none⟩)) (.e k i o)
  | ed (k i o : Nat) (v : Value) (hk : H k = some .dead) : AVR w G H Av v (.e k i o)
  | m (k i o sz : Nat) (xs : List (List D)) (dp fz : Bool) (ve : Nat) (v : Value) (z : Nat) (ys : List (List D)) (hk : H k = some (.row sz xs dp fz ve)) (hj : xs.flatten[i * sz + o]? = some (.l z ys))
      (hv : (G k).vs[i * sz + o]? = some v) (h1 : v.oneCell' = true) : AVR w G H Av v (.m k ve i o)
  | mo (k i o sz : Nat) (xs : List (List D)) (dp fz : Bool) (ve ve' : Nat) (v : Value) (hk : H k = some (.row sz xs dp fz ve')) (hlt : ve < ve') : AVR w G H Av v (.m k ve i o)
  | md (k ve i o : Nat) (v : Value) (hk : H k = some .dead) : AVR w G H Av v (.m k ve i o)
  | q (g base o : Nat) (cur : Array Value) (el : TypeId) (fr : Nat × Nat) (vs : List Value) (cs : List D) (S : List Nat)
      (hg : w.heap[g]? = some (.cells cur el fr)) (hv : ∀ j v, vs[j]? = some v → cur[base + j]? = some v) (h1 : ∀ v ∈ vs, v.oneCell' = true)
      (h : TrL w false vs cs S) (hb : ¬ Av g) (hS : ∀ b ∈ S, ¬ Av b) : AVR w G H Av (.pointer (some ⟨g, base + o, none⟩)) (.q cs o)
  | g (cs : Array Value) (as : List AV) (h : AVRL w G H Av cs.toList as) : AVR w G H Av (.agg cs) (.g as)
  | f (fn : FuncId) (cs : Array Value) (as : List AV) (h : AVRL w G H Av cs.toList as) : AVR w G H Av (.func (.func fn) #[] cs) (.f fn as)
  | t (vs : Array Value) (as : List AV) (h : AVRL w G H Av vs.toList as) : AVR w G H Av (.tuple vs) (.t as)
  | mp (k : Nat) (kv : List (ByteArray × D)) (hk : H k = some (.map kv)) : AVR w G H Av (.map (some (G k).blk)) (.mp k)
  | mpd (k : Nat) (v : Value) (hk : H k = some .dead) : AVR w G H Av v (.mp k)
  | bp (k : Nat) (s : ByteArray) (hk : H k = some (.bld s)) : AVR w G H Av (.pointer (some ⟨(G k).blk, 0, none⟩)) (.bp k)
  | bpd (k : Nat) (v : Value) (hk : H k = some .dead) : AVR w G H Av v (.bp k)
  | x (v : Value) : AVR w G H Av v .x
inductive AVRL (w : World) (G : Nat → GI) (H : Nat → Option Ob) (Av : Nat → Prop) : List Value → List AV → Prop
  | nil : AVRL w G H Av [] []
  | cons (v : Value) (av : AV) (vs : List Value) (as : List AV) (h : AVR w G H Av v av) (hs : AVRL w G H Av vs as) : AVRL w G H Av (v :: vs) (av :: as)
end

/-- An object that may stand in another's place, for those who know its address. -/
inductive Ob.to (g g' : GI) : Ob → Ob → Prop
  | row (sz : Nat) (xs xs' : List (List D)) (dp fz dp' fz' : Bool) (ve ve' : Nat) (hl : xs'.length = xs.length) (hb : g'.blk = g.blk) (ho : g'.off = g.off) (hc : g'.cap = g.cap)
      (hve : ve < ve' ∨ (ve' = ve ∧ xs' = xs ∧ g'.vs = g.vs)) : Ob.to g g' (.row sz xs dp fz ve) (.row sz xs' dp' fz' ve')
  | box (cs cs' : List AV) (hb : g'.blk = g.blk) : Ob.to g g' (.box cs) (.box cs')
  | map (kv kv' : List (ByteArray × D)) (hb : g'.blk = g.blk) : Ob.to g g' (.map kv) (.map kv')
  | bld (s s' : ByteArray) (hb : g'.blk = g.blk) : Ob.to g g' (.bld s) (.bld s')
  | dead (o : Ob) : Ob.to g g' o .dead

theorem Ob.to.refl (g : GI) (o : Ob) : Ob.to g g o o := by
  cases o with
  | row sz xs dp fz ve => exact .row sz xs xs dp fz dp fz ve ve rfl rfl rfl rfl (.inr ⟨rfl, rfl, rfl⟩)
  | box cs => exact .box cs cs rfl
  | map kv => exact .map kv kv rfl
  | bld s => exact .bld s s rfl
  | dead => exact .dead _

section mono
variable {w w' : World} {G G' : Nat → GI} {H H' : Nat → Option Ob} {Av Av' : Nat → Prop}

theorem AVR.mono_both (hw : ∀ b, b < w.heap.size → ¬ Av b → w'.heap[b]? = w.heap[b]?) (hA : ∀ b, b < w.heap.size → Av' b → Av b)
    (hH : ∀ k o, H k = some o → ∃ o', H' k = some o' ∧ Ob.to (G k) (G' k) o o') :
    (∀ {v : Value} {av : AV}, AVR w G H Av v av → AVR w' G' H' Av' v av) ∧ (∀ {vs : List Value} {as : List AV}, AVRL w G H Av vs as → AVRL w' G' H' Av' vs as) := by
  have key : ∀ {v : Value} {av : AV}, AVR w G H Av v av → AVR w' G' H' Av' v av := by
    intro v av h
    refine AVR.rec (w := w) (G := G) (H := H) (Av := Av) (motive_1 := fun v av _ => AVR w' G' H' Av' v av) (motive_2 := fun vs as _ => AVRL w' G' H' Av' vs as)
      ?_ ?_ ?_ ?_ ?_ ?_ ?_ ?_ ?_ ?_ ?_ ?_ ?_ ?_ ?_ ?_ ?_ ?_ ?_ ?_ ?_ ?_ h
    · intro v x S h1 h hS
      have hlt := h.lt
      exact .d v x S h1 (h.keep fun b hb => hw b (hlt b hb) (hS b hb)) fun b hb hn => hS b hb (hA b (hlt b hb) hn)
    · intro sz; exact .z sz
    · intro k sz xs dp fz ve a hk ha
      obtain ⟨o', ho', hto⟩ := hH k _ hk
      cases hto with
      | row _ _ xs' _ _ dp' fz' _ ve' hle hb ho hc =>
        rw [← hc, ← hle]
        exact .r k sz xs' dp' fz' ve' a ho' (by rw [hb, ho, hc]; exact ha)
      | dead => exact .rd k _ ho'
    · intro k v hk
      obtain ⟨o', ho', hto⟩ := hH k _ hk
      cases hto with
      | dead => exact .rd k _ ho'
    · intro k o cs hk
      obtain ⟨o', ho', hto⟩ := hH k _ hk
      cases hto with
      | box _ cs' hb => rw [← hb]; exact .a k o cs' ho'
      | dead => exact .ad k o _ ho'
    · intro k o v hk
      obtain ⟨o', ho', hto⟩ := hH k _ hk
      cases hto with
      | dead => exact .ad k o _ ho'
    · intro k i o sz xs dp fz ve hk hi
      obtain ⟨o', ho', hto⟩ := hH k _ hk
      cases hto with
      | row _ _ xs' _ _ dp' fz' _ ve' hle hb ho hc =>
        rw [← hb, ← ho]
        exact .e k i o sz xs' dp' fz' ve' ho' (by omega)
      | dead => exact .ed k i o _ ho'
    · intro k i o v hk
      obtain ⟨o', ho', hto⟩ := hH k _ hk
      cases hto with
      | dead => exact .ed k i o _ ho'
    · intro k i o sz xs dp fz ve v z ys hk hj hv h1
      obtain ⟨o', ho', hto⟩ := hH k _ hk
      cases hto with
      | row _ _ xs' _ _ dp' fz' _ ve' hle hb ho hc hve =>
        rcases hve with hlt | ⟨rfl, rfl, hvs⟩
        · exact .mo k i o sz xs' dp' fz' ve ve' _ ho' hlt
        · exact .m k i o sz _ dp' fz' _ _ z ys ho' hj (by rw [hvs]; exact hv) h1
      | dead => exact .md k _ i o _ ho'
    · intro k i o sz xs dp fz ve ve1 v hk hlt
      obtain ⟨o', ho', hto⟩ := hH k _ hk
      cases hto with
      | row _ _ xs' _ _ dp' fz' _ ve' hle hb ho hc hve => exact .mo k i o sz xs' dp' fz' ve ve' _ ho' (by rcases hve with h | ⟨h, _⟩ <;> omega)
      | dead => exact .md k _ i o _ ho'
    · intro k ve i o v hk
      obtain ⟨o', ho', hto⟩ := hH k _ hk
      cases hto with
      | dead => exact .md k _ i o _ ho'
    · intro g base o cur el fr vs cs S hg hv h1 h hb hS
      have hlt := h.lt
      have hgl : g < w.heap.size := (Array.getElem?_eq_some_iff.1 hg).1
      exact .q g base o cur el fr vs cs S ((hw g hgl hb).trans hg) hv h1 (h.keep fun b hb => hw b (hlt b hb) (hS b hb)) (fun hn => hb (hA g hgl hn)) fun b hb hn => hS b hb (hA b (hlt b hb) hn)
    · intro cs as _ ih; exact .g cs as ih
    · intro fn cs as _ ih; exact .f fn cs as ih
    · intro vs as _ ih; exact .t vs as ih
    · intro k kv hk
      obtain ⟨o', ho', hto⟩ := hH k _ hk
      cases hto with
      | map _ kv' hb => rw [← hb]; exact .mp k kv' ho'
      | dead => exact .mpd k _ ho'
    · intro k v hk
      obtain ⟨o', ho', hto⟩ := hH k _ hk
      cases hto with
      | dead => exact .mpd k _ ho'
    · intro k s hk
      obtain ⟨o', ho', hto⟩ := hH k _ hk
      cases hto with
      | bld _ s' hb => rw [← hb]; exact .bp k s' ho'
      | dead => exact .bpd k _ ho'
    · intro k v hk
      obtain ⟨o', ho', hto⟩ := hH k _ hk
      cases hto with
      | dead => exact .bpd k _ ho'
    · intro v; exact .x v
    · exact .nil
    · intro v av vs as _ _ ih ihs; exact .cons v av vs as ih ihs
  refine ⟨key, fun {vs as} h => ?_⟩
  have := key (.t vs.toArray as (by simpa using h))
  cases this with
  | t _ _ h => simpa using h
end mono

theorem AVRL.length {w : World} {G : Nat → GI} {H : Nat → Option Ob} {Av : Nat → Prop} : ∀ {vs : List Value} {as : List AV}, AVRL w G H Av vs as → vs.length = as.length
  | _, _, .nil => rfl
  | _, _, .cons _ _ _ _ _ hs => by simp [hs.length]

theorem AVRL.get {w : World} {G : Nat → GI} {H : Nat → Option Ob} {Av : Nat → Prop} : ∀ {vs : List Value} {as : List AV}, AVRL w G H Av vs as → ∀ {j : Nat} {v : Value} {av : AV}, vs[j]? = some v → as[j]? = some av → AVR w G H Av v av
  | _, _, .nil, j, v, av, h, _ => by simp at h
  | _, _, .cons v av vs as h hs, 0, v', av', h1, h2 => by simp at h1 h2; subst h1 h2; exact h
  | _, _, .cons v av vs as h hs, j + 1, v', av', h1, h2 => hs.get (by simpa using h1) (by simpa using h2)

theorem AVRL.of {w : World} {G : Nat → GI} {H : Nat → Option Ob} {Av : Nat → Prop} : ∀ {vs : List Value} {as : List AV}, vs.length = as.length → (∀ (j : Nat) (v : Value) (av : AV), vs[j]? = some v → as[j]? = some av → AVR w G H Av v av) → AVRL w G H Av vs as
  | [], [], _, _ => .nil
  | v :: vs, av :: as, hl, h => .cons v av vs as (h 0 v av rfl rfl) (AVRL.of (by simpa using hl) fun j v' av' h1 h2 => h (j + 1) v' av' (by simpa using h1) (by simpa using h2))
  | [], _ :: _, hl, _ => by simp at hl
  | _ :: _, [], hl, _ => by simp at hl

theorem AVRL.append {w : World} {G : Nat → GI} {H : Nat → Option Ob} {Av : Nat → Prop} : ∀ {vs : List Value} {as : List AV} {vs' : List Value} {as' : List AV}, AVRL w G H Av vs as → AVRL w G H Av vs' as' → AVRL w G H Av (vs ++ vs') (as ++ as')
  | _, _, _, _, .nil, h => h
  | _, _, _, _, .cons v av vs as h hs, h' => .cons v av _ _ h (hs.append h')

theorem AVRL.set {w : World} {G : Nat → GI} {H : Nat → Option Ob} {Av : Nat → Prop} : ∀ {vs : List Value} {as : List AV}, AVRL w G H Av vs as → ∀ (j : Nat) {v : Value} {av : AV}, AVR w G H Av v av → AVRL w G H Av (vs.set j v) (as.set j av)
  | _, _, .nil, j, v, av, h => .nil
  | _, _, .cons v av vs as h hs, 0, v', av', h' => .cons v' av' vs as h' hs
  | _, _, .cons v av vs as h hs, j + 1, v', av', h' => .cons v av _ _ h (hs.set j h')

theorem AVRL.drop {w : World} {G : Nat → GI} {H : Nat → Option Ob} {Av : Nat → Prop} : ∀ {vs : List Value} {as : List AV}, AVRL w G H Av vs as → ∀ n, AVRL w G H Av (vs.drop n) (as.drop n)
  | _, _, .nil, n => by simpa using .nil
  | _, _, .cons v av vs as h hs, 0 => .cons v av vs as h hs
  | _, _, .cons v av vs as h hs, n + 1 => hs.drop n

theorem AVRL.take {w : World} {G : Nat → GI} {H : Nat → Option Ob} {Av : Nat → Prop} : ∀ {vs : List Value} {as : List AV}, AVRL w G H Av vs as → ∀ n, AVRL w G H Av (vs.take n) (as.take n)
  | _, _, .nil, n => by simpa using .nil
  | _, _, .cons v av vs as h hs, 0 => .nil
  | _, _, .cons v av vs as h hs, n + 1 => .cons v av _ _ h (hs.take n)

/-- The blocks that are a call's own through an object. -/
def ownOf (g : GI) : Option Ob → List Nat
  | some (.row _ _ dp false _) => if g.cap = 0 then [] else g.blk :: (if dp then g.sub else [])
  | some (.box _) => [g.blk]
  | some (.map _) => [g.blk]
  | some (.bld _) => g.blk :: g.sub
  | _ => []

def Own (G : Nat → GI) (H : Nat → Option Ob) (b : Nat) : Prop := ∃ k, b ∈ ownOf (G k) (H k)

/-- What a shared value does not come to: blocks that are written, and such as the call was not handed. -/
def Ban (F : Nat → Prop) (G : Nat → GI) (H : Nat → Option Ob) (b : Nat) : Prop := Own G H b ∨ F b

structure RowR (w : World) (Av : Nat → Prop) (g : GI) (sz : Nat) (xs : List (List D)) (dp fz : Bool) : Prop where
  cells : 0 < g.cap → ∃ cur e, w.heap[g.blk]? = some (.cells cur e (0, 0)) ∧ g.off + g.cap * sz ≤ cur.size ∧ ∀ j v, g.vs[j]? = some v → cur[g.off + j]? = some v
  cap : xs.length ≤ g.cap
  max : g.cap ≤ maxLen
  len : g.vs.length = xs.length * sz
  one : ∀ v ∈ g.vs, v.oneCell' = true
  uni : ∀ x ∈ xs, x.length = sz
  tr : TrL w dp g.vs xs.flatten g.sub
  nodup : dp = true → g.sub.Nodup
  sub : dp = false ∨ fz = true → ∀ b ∈ g.sub, ¬ Av b
  frz : fz = true → 0 < g.cap → ¬ Av g.blk

structure BoxR (w : World) (G : Nat → GI) (H : Nat → Option Ob) (Av : Nat → Prop) (g : GI) (cs : List AV) : Prop where
  cells : ∃ cur e, w.heap[g.blk]? = some (.cells cur e (0, 0)) ∧ AVRL w G H Av cur.toList cs ∧ ∀ v ∈ cur.toList, v.oneCell' = true

structure MapR (w : World) (g : GI) (kv : List (ByteArray × D)) : Prop where
  cells : ∃ es clock, w.heap[g.blk]? = some (.map es clock) ∧ es.toList.map (fun e => (e.key, e.val)) = kv.map fun x => (Value.string x.1, scalV x.2)
  ok : ∀ x ∈ kv, mapv x.2 = true

/-- A builder of a text. -/
structure BldR (w : World) (g : GI) (s : ByteArray) : Prop where
  ex : ∃ p v, (p = .pointer none ∨ p = .pointer (some ⟨g.blk, 0, none⟩)) ∧ w.heap[g.blk]? = some (.cells #[p, v] bT (0, 0)) ∧ w.ownsRowF 0 bE 1 v s.size (Lib.strCells s) ∧ g.sub = v.ownBlock.toList
theorem BldR.sub_lt {w : World} {g : GI} {s : ByteArray} (h : BldR w g s) : ∀ b ∈ g.sub, b < w.heap.size := by
  intro b hb
  obtain ⟨p, v, _, _, hv, e⟩ := h
  rw [e] at hb
  exact (hv.lt b (by simpa using hb)).2
theorem BldR.keep {w w' : World} {g : GI} {s : ByteArray} (h : BldR w g s) (hk : ∀ b ∈ g.blk :: g.sub, w'.heap[b]? = w.heap[b]?) : BldR w' g s := by
  obtain ⟨p, v, h1, h2, h3, h4⟩ := h
  refine ⟨p, v, h1, (hk _ (by simp)).trans h2, ⟨h3.1, ?_⟩, h4⟩
  rcases h3.2 with hn | ⟨b, cap, cur, fz, rfl, hb, hg, rest⟩
  · exact .inl hn
  · exact .inr ⟨b, cap, cur, fz, rfl, hb, (hk b (by rw [h4]; simp [Value.ownBlock])).trans hg, rest⟩

def ObR (w : World) (G : Nat → GI) (H : Nat → Option Ob) (Av : Nat → Prop) (g : GI) : Ob → Prop
  | .row sz xs dp fz _ => RowR w Av g sz xs dp fz
  | .box cs => BoxR w G H Av g cs
  | .map kv => MapR w g kv
  | .bld s => BldR w g s
  | .dead => True

/-- What a world has but its blocks is as it was; no block has gone. -/
structure Rest (w w' : World) : Prop where
  os : w'.os = w.os
  tape : w'.tape = w.tape
  output : w'.output = w.output
  size : w.heap.size ≤ w'.heap.size
theorem Rest.refl (w : World) : Rest w w := ⟨rfl, rfl, rfl, Nat.le_refl _⟩
theorem Rest.trans {a b c : World} (h : Rest a b) (k : Rest b c) : Rest a c := ⟨k.os.trans h.os, k.tape.trans h.tape, k.output.trans h.output, Nat.le_trans h.size k.size⟩

/-- Where a call begins: the first new block, the world, the blocks that it may not come to, the blocks that it may write. -/
structure Ctx where
  base : Nat
  w0 : World
  F : Nat → Prop
  M : Nat → Prop
  av : Value
  aa : AV
  kn : KnW w0 M
  kb : nG ≤ base
  kF : ∀ b, F b → nG ≤ b

structure RelG (B : Ctx) (G : Nat → GI) (s : St) (a : Act) (w : World) : Prop where
  obj : ∀ k o, s.heap k = some o → ObR w G s.heap (Ban B.F G s.heap) (G k) o
  env : ∀ t, AVR w G s.heap (Ban B.F G s.heap) (a.tmps.getD t undef) (s.env t)
  size : a.tmps.size = s.n
  defers : a.defers = []
  nodup : ∀ k, (ownOf (G k) (s.heap k)).Nodup
  disj : ∀ k k' b, b ∈ ownOf (G k) (s.heap k) → b ∈ ownOf (G k') (s.heap k') → k = k'
  ge : ∀ k b, b ∈ ownOf (G k) (s.heap k) → B.base ≤ b ∨ B.M b
  rest : Rest B.w0 w
  below : ∀ b, b < B.base → ¬ B.M b → w.heap[b]? = B.w0.heap[b]?
  ban : ∀ b, B.F b → b < B.base ∧ ¬ B.M b
  base : B.base ≤ w.heap.size
  anc : AVR w G s.heap (Ban B.F G s.heap) B.av B.aa

theorem RelG.knG {B : Ctx} {G : Nat → GI} {s : St} {a : Act} {w : World} (h : RelG B G s a w) : ∀ b, b < nG → w.heap[b]? = B.w0.heap[b]? := fun b hb => by
  refine h.below b (Nat.lt_of_lt_of_le hb B.kb) fun hm => ?_
  have := B.kn.ge b hm
  omega
theorem RelG.knO {B : Ctx} {G : Nat → GI} {s : St} {a : Act} {w : World} (h : RelG B G s a w) {k b : Nat} (hb : b ∈ ownOf (G k) (s.heap k)) : nG ≤ b := by
  rcases h.ge k b hb with h1 | h1
  · exact Nat.le_trans B.kb h1
  · exact B.kn.ge b h1
theorem RelG.knB {B : Ctx} {G : Nat → GI} {s : St} {a : Act} {w : World} (h : RelG B G s a w) {b : Nat} (hb : Ban B.F G s.heap b) : nG ≤ b := by
  rcases hb with ⟨k, hk⟩ | hf
  · exact h.knO hk
  · exact B.kF b hf
theorem RelG.kn {B : Ctx} {G : Nat → GI} {s : St} {a : Act} {w : World} (h : RelG B G s a w) : Kn w := B.kn.kn.keep h.knG
theorem RelG.knW {B : Ctx} {G : Nat → GI} {s : St} {a : Act} {w : World} (h : RelG B G s a w) {S : List Nat} (hS : ∀ b ∈ S, ∃ k, b ∈ ownOf (G k) (s.heap k)) : KnW w (· ∈ S) :=
  ⟨h.kn, Nat.le_trans B.kb h.base, fun b hb => by obtain ⟨k, hk⟩ := hS b hb; exact h.knO hk⟩


theorem RowR.void {w : World} {Av : Nat → Prop} {g : GI} {sz : Nat} {xs : List (List D)} {dp fz : Bool} (h : RowR w Av g sz xs dp fz) (hc : g.cap = 0) : xs = [] ∧ g.vs = [] ∧ g.sub = [] := by
  have hx : xs = [] := List.eq_nil_of_length_eq_zero (by have := h.cap; omega)
  subst hx
  have hv : g.vs = [] := List.eq_nil_of_length_eq_zero (by have := h.len; simpa using this)
  refine ⟨rfl, hv, ?_⟩
  have := h.tr
  rw [hv] at this
  generalize hs : g.sub = S at this
  cases this
  rfl

theorem RowR.mkVoid (w : World) (Av : Nat → Prop) (blk off sz : Nat) (dp fz : Bool) : RowR w Av { blk := blk, off := off, cap := 0, vs := [], sub := [] } sz [] dp fz :=
  ⟨fun h => absurd h (Nat.lt_irrefl 0), Nat.le_refl _, Nat.zero_le _, by simp, by simp, by simp, .nil, fun _ => List.nodup_nil, by simp, fun _ h => absurd h (Nat.lt_irrefl 0)⟩

theorem ObR.lt {w : World} {G : Nat → GI} {H : Nat → Option Ob} {Av : Nat → Prop} {g : GI} {o : Ob} (h : ObR w G H Av g o) : ∀ b, b ∈ ownOf g (some o) → b < w.heap.size := by
  intro b hb
  cases o with
  | row sz xs dp fz ve =>
    by_cases hc : g.cap = 0
    · cases fz <;> simp [ownOf, hc] at hb
    obtain ⟨cur, e, hg, _⟩ := h.cells (by omega)
    have hlt := (Array.getElem?_eq_some_iff.1 hg).1
    cases fz with
    | true => simp [ownOf] at hb
    | false =>
      cases dp with
      | true =>
        simp [ownOf, hc] at hb
        rcases hb with rfl | hb
        · exact hlt
        · exact h.tr.lt b hb
      | false => simp [ownOf, hc] at hb; subst hb; exact hlt
  | box cs =>
    obtain ⟨cur, e, hg, _⟩ := h.cells
    simp [ownOf] at hb
    subst hb
    exact (Array.getElem?_eq_some_iff.1 hg).1
  | map kv =>
    obtain ⟨es, clock, hg, _⟩ := h.cells
    simp [ownOf] at hb
    subst hb
    exact (Array.getElem?_eq_some_iff.1 hg).1
  | bld s =>
    have hs := BldR.sub_lt h
    obtain ⟨p, v, _, hg, _, _⟩ := h
    rcases List.mem_cons.1 hb with rfl | hb
    · exact (Array.getElem?_eq_some_iff.1 hg).1
    · exact hs b hb
  | dead => simp [ownOf] at hb

theorem RelG.noF {B : Ctx} {G : Nat → GI} {s : St} {a : Act} {w : World} (h : RelG B G s a w) {k b : Nat} (hb : b ∈ ownOf (G k) (s.heap k)) : ¬ B.F b := by
  intro hf
  have h1 := h.ban b hf
  rcases h.ge k b hb with h2 | h2
  · omega
  · exact h1.2 h2

theorem RelG.own_lt {B : Ctx} {G : Nat → GI} {s : St} {a : Act} {w : World} (h : RelG B G s a w) {b : Nat} (hb : Own G s.heap b) : b < w.heap.size := by
  obtain ⟨k, hk⟩ := hb
  cases ho : s.heap k with
  | none => rw [ho] at hk; simp [ownOf] at hk
  | some o => rw [ho] at hk; exact (h.obj k o ho).lt b hk

/-- An object that nobody has touched. -/
theorem ObR.mono {w w' : World} {G G' : Nat → GI} {H H' : Nat → Option Ob} {Av Av' : Nat → Prop} {g : GI} {o : Ob} (h : ObR w G H Av g o)
    (hw : ∀ b, b < w.heap.size → ¬ Av b → w'.heap[b]? = w.heap[b]?) (hA : ∀ b, b < w.heap.size → Av' b → Av b)
    (hH : ∀ k o, H k = some o → ∃ o', H' k = some o' ∧ Ob.to (G k) (G' k) o o')
    (hown : ∀ b, b ∈ ownOf g (some o) → w'.heap[b]? = w.heap[b]?) : ObR w' G' H' Av' g o := by
  cases o with
  | row sz xs dp fz ve =>
    by_cases hc : g.cap = 0
    · obtain ⟨rfl, hv, hs⟩ := RowR.void h hc
      obtain ⟨h1, h2, h3, h4, h5, h6, h7, h8, h9, h10⟩ := h
      exact ⟨fun hp => by omega, h2, h3, h4, h5, h6, by rw [hv, hs]; exact .nil, h8, fun _ b hb => by rw [hs] at hb; simp at hb, fun _ hp => by omega⟩
    obtain ⟨hcells, h2, h3, h4, h5, h6, h7, h8, h9, h10⟩ := h
    obtain ⟨cur, e, hg, hcap, hv⟩ := hcells (by omega)
    have hlt := (Array.getElem?_eq_some_iff.1 hg).1
    have hblk : w'.heap[g.blk]? = w.heap[g.blk]? := by
      cases fz with
      | true => exact hw _ hlt (h10 rfl (by omega))
      | false => exact hown _ (by simp [ownOf, hc])
    have hsub : ∀ b ∈ g.sub, w'.heap[b]? = w.heap[b]? := by
      intro b hb
      cases fz with
      | true => exact hw _ (h7.lt b hb) (h9 (.inr rfl) b hb)
      | false =>
        cases dp with
        | true => exact hown _ (by simp [ownOf, hc, hb])
        | false => exact hw _ (h7.lt b hb) (h9 (.inl rfl) b hb)
    exact ⟨fun _ => ⟨cur, e, hblk.trans hg, hcap, hv⟩, h2, h3, h4, h5, h6, h7.keep hsub, h8, fun hd b hb hn => h9 hd b hb (hA b (h7.lt b hb) hn), fun hf hp hn => h10 hf hp (hA _ hlt hn)⟩
  | box cs =>
    obtain ⟨cur, e, hg, hr, h1⟩ := h
    exact ⟨⟨cur, e, (hown _ (by simp [ownOf])).trans hg, (AVR.mono_both hw hA hH).2 hr, h1⟩⟩
  | map kv =>
    obtain ⟨⟨es, clock, hg, hr⟩, ho⟩ := h
    exact ⟨⟨es, clock, (hown _ (by simp [ownOf])).trans hg, hr⟩, ho⟩
  | bld s => exact BldR.keep h hown
  | dead => trivial

end Go.Fs
namespace Go.Fs
open Go.RowKit

/-- One function, turned at one place. -/
def upd {α : Type} (f : Nat → α) (k : Nat) (x : α) : Nat → α := fun i => if i = k then x else f i
@[simp] theorem upd_same {α : Type} (f : Nat → α) (k : Nat) (x : α) : upd f k x k = x := by simp [upd]
theorem upd_ne {α : Type} (f : Nat → α) {k i : Nat} (x : α) (h : i ≠ k) : upd f k x i = f i := by simp [upd, h]

theorem mem_ownRow {g : GI} {sz : Nat} {xs : List (List D)} {dp : Bool} {ve b : Nat} (h : b ∈ ownOf g (some (.row sz xs dp false ve))) : g.cap ≠ 0 ∧ (b = g.blk ∨ (dp = true ∧ b ∈ g.sub)) := by
  by_cases hc : g.cap = 0
  · simp [ownOf, hc] at h
  · refine ⟨hc, ?_⟩
    cases dp with
    | false => simp [ownOf, hc] at h; exact .inl h
    | true => simp [ownOf, hc] at h; exact h.imp id fun h => ⟨rfl, h⟩
theorem nodup_ownRow {g : GI} {sz : Nat} {xs : List (List D)} {dp : Bool} {ve : Nat} (h : dp = true → g.blk ∉ g.sub ∧ g.sub.Nodup) : (ownOf g (some (.row sz xs dp false ve))).Nodup := by
  by_cases hc : g.cap = 0
  · simp [ownOf, hc]
  · cases dp with
    | false => simp [ownOf, hc]
    | true => simp only [ownOf, hc, if_false, if_true]; exact List.nodup_cons.2 (h rfl)

section step
variable {B : Ctx} {G G' : Nat → GI} {s : St} {a : Act} {w w' : World}

theorem RelG.put (h : RelG B G s a w) {v : Value} {av : AV} (d : Nat) (hd : d < s.n) (hv : AVR w G s.heap (Ban B.F G s.heap) v av) :
    RelG B G { s with env := upd s.env d av } (a.put (some d) v) w := by
  obtain ⟨h1, h2, h3, h4, h5, h6, h7, h8, h9, h10, h11, h12⟩ := h
  refine ⟨h1, fun t => ?_, by simpa [Act.put] using h3, by simpa [Act.put] using h4, h5, h6, h7, h8, h9, h10, h11, h12⟩
  show AVR w G s.heap _ ((a.put (some d) v).tmps.getD t undef) (upd s.env d av t)
  by_cases ht : t = d
  · subst ht
    rw [upd_same]
    have : (a.put (some t) v).tmps.getD t undef = v := by
      simp [Act.put, Array.getD_eq_getD_getElem?, Array.getElem?_setIfInBounds_self_of_lt (h3.symm ▸ hd)]
    rw [this]
    exact hv
  · rw [upd_ne _ _ ht]
    have : (a.put (some d) v).tmps.getD t undef = a.tmps.getD t undef := by
      simp [Act.put, Array.getD_eq_getD_getElem?, Array.getElem?_setIfInBounds_ne (Ne.symm ht)]
    rw [this]
    exact h2 t

/-- The world goes on: keys of T have turned, their blocks alone are written. -/
theorem RelG.step (h : RelG B G s a w) (H' : Nat → Option Ob) (T : Nat → Prop) (hr : Rest w w')
    (hw : ∀ b, b < w.heap.size → (∀ k, T k → b ∉ ownOf (G k) (s.heap k)) → w'.heap[b]? = w.heap[b]?)
    (hk : ∀ k, ¬ T k → H' k = s.heap k ∧ G' k = G k)
    (hT : ∀ k o, T k → s.heap k = some o → ∃ o', H' k = some o' ∧ Ob.to (G k) (G' k) o o')
    (hsub : ∀ k, T k → ∀ b ∈ ownOf (G' k) (H' k), (∃ k0, T k0 ∧ b ∈ ownOf (G k0) (s.heap k0)) ∨ w.heap.size ≤ b)
    (hnd : ∀ k, T k → (ownOf (G' k) (H' k)).Nodup)
    (hdis : ∀ k k', T k → T k' → ∀ b, b ∈ ownOf (G' k) (H' k) → b ∈ ownOf (G' k') (H' k') → k = k')
    (hobj : ∀ k o, T k → H' k = some o → ObR w' G' H' (Ban B.F G' H') (G' k) o) : RelG B G' { s with heap := H' } a w' := by
  have hw1 : ∀ b, b < w.heap.size → ¬ Ban B.F G s.heap b → w'.heap[b]? = w.heap[b]? := fun b hb hn => hw b hb fun k _ hm => hn (.inl ⟨k, hm⟩)
  have hA : ∀ b, b < w.heap.size → Ban B.F G' H' b → Ban B.F G s.heap b := by
    rintro b hb (⟨k, hm⟩ | hf)
    case inr => exact .inr hf
    left
    by_cases ht : T k
    · rcases hsub k ht b hm with ⟨k0, _, hm0⟩ | hge
      · exact ⟨k0, hm0⟩
      · omega
    · obtain ⟨e1, e2⟩ := hk k ht
      rw [e1, e2] at hm
      exact ⟨k, hm⟩
  have hH : ∀ k o, s.heap k = some o → ∃ o', H' k = some o' ∧ Ob.to (G k) (G' k) o o' := by
    intro k o ho
    by_cases ht : T k
    · exact hT k o ht ho
    · obtain ⟨e1, e2⟩ := hk k ht
      exact ⟨o, e1.trans ho, e2 ▸ Ob.to.refl _ _⟩
  have hkw : ∀ k, ¬ T k → ∀ b ∈ ownOf (G k) (s.heap k), w'.heap[b]? = w.heap[b]? := by
    intro k ht b hb
    refine hw b (h.own_lt ⟨k, hb⟩) fun k0 ht0 hm => ?_
    have := h.disj k k0 b hb hm
    exact ht (this ▸ ht0)
  have hM := AVR.mono_both (w := w) (w' := w') (G := G) (G' := G') (H := s.heap) (H' := H') (Av := Ban B.F G s.heap) (Av' := Ban B.F G' H') hw1 hA hH
  refine ⟨?_, fun t => hM.1 (h.env t), h.size, h.defers, ?_, ?_, ?_, h.rest.trans hr, ?_, h.ban, Nat.le_trans h.base hr.size, hM.1 h.anc⟩
  · intro k o ho
    by_cases ht : T k
    · exact hobj k o ht ho
    · obtain ⟨e1, e2⟩ := hk k ht
      have ho' : s.heap k = some o := e1 ▸ ho
      rw [e2]
      exact (h.obj k o ho').mono hw1 hA hH fun b hb => hkw k ht b (by rw [ho']; exact hb)
  · intro k
    by_cases ht : T k
    · exact hnd k ht
    · obtain ⟨e1, e2⟩ := hk k ht
      show (ownOf (G' k) (H' k)).Nodup
      rw [e1, e2]
      exact h.nodup k
  · intro k k' b hb hb'
    have hb : b ∈ ownOf (G' k) (H' k) := hb
    have hb' : b ∈ ownOf (G' k') (H' k') := hb'
    by_cases ht : T k <;> by_cases ht' : T k'
    · exact hdis k k' ht ht' b hb hb'
    · obtain ⟨e1, e2⟩ := hk k' ht'
      rw [e1, e2] at hb'
      rcases hsub k ht b hb with ⟨k0, h0, hm⟩ | hge
      · exact absurd (h.disj k0 k' b hm hb' ▸ h0) ht'
      · have := h.own_lt ⟨k', hb'⟩; omega
    · obtain ⟨e1, e2⟩ := hk k ht
      rw [e1, e2] at hb
      rcases hsub k' ht' b hb' with ⟨k0, h0, hm⟩ | hge
      · exact absurd (h.disj k0 k b hm hb ▸ h0) ht
      · have := h.own_lt ⟨k, hb⟩; omega
    · obtain ⟨e1, e2⟩ := hk k ht
      obtain ⟨e3, e4⟩ := hk k' ht'
      rw [e1, e2] at hb
      rw [e3, e4] at hb'
      exact h.disj k k' b hb hb'
  · intro k b hb
    have hb : b ∈ ownOf (G' k) (H' k) := hb
    by_cases ht : T k
    · rcases hsub k ht b hb with ⟨k0, h0, hm⟩ | hge
      · exact h.ge k0 b hm
      · exact .inl (Nat.le_trans h.base hge)
    · obtain ⟨e1, e2⟩ := hk k ht
      rw [e1, e2] at hb
      exact h.ge k b hb
  · intro b hb hM
    rw [← h.below b hb hM]
    refine hw b (Nat.lt_of_lt_of_le hb h.base) fun k _ hm => ?_
    rcases h.ge k b hm with h1 | h1
    · omega
    · exact hM h1

/-- Nothing that is known has turned; the world has more blocks, or has drawn. -/
theorem RelG.grow (h : RelG B G s a w) (hr : Rest w w') (hw : ∀ b, b < w.heap.size → w'.heap[b]? = w.heap[b]?) : RelG B G s a w' :=
  h.step (w' := w') (G' := G) s.heap (fun _ => False) hr (fun b hb _ => hw b hb) (fun k _ => ⟨rfl, rfl⟩) (fun _ _ hf => hf.elim) (fun _ hf => hf.elim) (fun _ hf => hf.elim) (fun _ _ hf => hf.elim) (fun _ _ hf => hf.elim)

/-- A new object. -/
theorem RelG.new (h : RelG B G s a w) (k : Nat) (gi : GI) (o : Ob) (hk : s.heap k = none) (hr : Rest w w') (hw : ∀ b, b < w.heap.size → w'.heap[b]? = w.heap[b]?)
    (hnew : ∀ b ∈ ownOf gi (some o), w.heap.size ≤ b) (hnd : (ownOf gi (some o)).Nodup)
    (hobj : ObR w' (upd G k gi) (upd s.heap k (some o)) (Ban B.F (upd G k gi) (upd s.heap k (some o))) gi o) :
    RelG B (upd G k gi) { s with heap := upd s.heap k (some o) } a w' := by
  refine h.step (w' := w') (G' := upd G k gi) (upd s.heap k (some o)) (fun i => i = k) hr (fun b hb _ => hw b hb) (fun i hi => ⟨upd_ne _ _ hi, upd_ne _ _ hi⟩) ?_ ?_ ?_ ?_ ?_
  · rintro i o' rfl ho; rw [hk] at ho; cases ho
  · rintro i rfl b hb; rw [upd_same, upd_same] at hb; exact .inr (hnew b hb)
  · rintro i rfl; rw [upd_same, upd_same]; exact hnd
  · rintro i j rfl rfl _ _ _; rfl
  · rintro i o' rfl ho
    rw [upd_same] at ho ⊢
    cases ho
    exact hobj

/-- Own blocks of the state behind a new object. -/
theorem own_new {G : Nat → GI} {H : Nat → Option Ob} {k : Nat} {gi : GI} {o : Ob} {b : Nat} (hb : Own (upd G k gi) (upd H k (some o)) b) : Own G H b ∨ b ∈ ownOf gi (some o) := by
  obtain ⟨i, hi⟩ := hb
  by_cases e : i = k
  · subst e; rw [upd_same, upd_same] at hi; exact .inr hi
  · rw [upd_ne _ _ e, upd_ne _ _ e] at hi; exact .inl ⟨i, hi⟩

/-- The blocks that are barred behind a new object. -/
theorem ban_new {B : Ctx} {G : Nat → GI} {H : Nat → Option Ob} {k : Nat} {gi : GI} {o : Ob} {b : Nat} (hb : Ban B.F (upd G k gi) (upd H k (some o)) b) : Ban B.F G H b ∨ b ∈ ownOf gi (some o) := by
  rcases hb with hb | hb
  · exact (own_new hb).imp .inl id
  · exact .inl (.inr hb)

/-- An object is no more. -/
theorem RelG.kill (h : RelG B G s a w) (k : Nat) (hk : s.heap k ≠ none) : RelG B G { s with heap := upd s.heap k (some .dead) } a w := by
  refine h.step (w' := w) (G' := G) (upd s.heap k (some .dead)) (fun i => i = k) (.refl w) (fun _ _ _ => rfl) (fun i hi => ⟨upd_ne _ _ hi, rfl⟩) ?_ ?_ ?_ ?_ ?_
  · rintro i o' rfl ho; exact ⟨.dead, upd_same .., .dead _⟩
  · rintro i rfl b hb; rw [upd_same] at hb; simp [ownOf] at hb
  · rintro i rfl; rw [upd_same]; simp [ownOf]
  · rintro i j rfl rfl _ _ _; rfl
  · rintro i o' rfl ho
    rw [upd_same] at ho
    cases ho
    trivial

end step
end Go.Fs
namespace Go.Fs
open Go.RowKit

inductive TK where
  | bool | str | int (k : IntKind) | slice (e : TypeId) | strct (fs : List (Nat × TypeId)) | ref | other | arr (n : Nat) (e : TypeId) | iface
structure TI where
  size : Nat
  bytes : Nat
  kind : TK
  zero : List AV

def zeroOK : List Value → List AV → Bool
  | [], [] => true
  | v :: vs, av :: avs => (match v, av with
    | .bool a, .d (.b b) => a == b
    | .int k n, .d (.i k' n') => k == k' && n == n'
    | .string s, .d (.s s') => s.size == 0 && s'.size == 0
    | .slice none 0 0, .z _ => true
    | .pointer none, .d .n => true
    | .nilFunc, .d .n => true
    | .nilIface, .d (.e b) => !b
    | _, _ => false) && zeroOK vs avs
  | _, _ => false

def kindOK (P : Program) (d : Option TypeDesc) : TK → Bool
  | .bool => match d with | some .bool => true | _ => false
  | .str => match d with | some .string => true | _ => false
  | .int k => match d with | some (.int k') => k == k' | _ => false
  | .slice e => match d with | some (.slice e') => e == e' | _ => false
  | .strct fs => match d with | some (.struct fields) => (fields.toList.map fun f => (f.offset, f.type)) == fs && fields.toList.all (fun f => P.cellsOf f.type != 0) | _ => false
  | .ref => match d with | some (.pointer _) => true | some (.func ..) => true | some (.interface _) => true | some (.map ..) => true | _ => false
  | .other => true
  | .arr n e => match d with | some (.array n' e') => n == n' && e == e' | _ => false
  | .iface => match d with | some (.interface _) => true | _ => false

def tiOK (P : Program) (t : TypeId) (ti : TI) : Bool :=
  match P.info? t with
  | some i => (ti.zero.length == ti.size) && i.size == ti.size && i.bytes == ti.bytes && kindOK P (P.underlying t) ti.kind && (match i.zero with | some z => zeroOK z.cells.toList ti.zero | none => false)
  | none => false

structure Tab where
  types : List (Nat × TI)
  maps : List (Nat × TypeId × TypeId × D) := []
  bld : Bool := false

def zmap : Value → D → Bool
  | .int k n, .i k' n' => k == k' && n == n'
  | .bool b, .b b' => b == b'
  | .string s, .s s' => s.size == 0 && s'.size == 0
  | _, _ => false
def mapOK (P : Program) (t k e : TypeId) (z : D) : Bool :=
  (match P.info? e with | some i => (match i.zero with | some z' => zmap z' z | none => false) | none => false) &&
  (match P.underlying t with | some (.map k' e') => k == k' && e == e' | _ => false) && (match P.underlying k with | some .string => true | _ => false)

/-- What a builder of texts begins with. -/
def bzV : Value → Bool
  | .agg cs => match cs.toList with
    | [.pointer none, .slice none 0 0] => true
    | _ => false
  | _ => false
def bzOK (P : Program) : Bool := match P.info? bT with
  | some i => (match i.zero with | some z => bzV z | none => false)
  | none => false
def Tab.ok (P : Program) (T : Tab) : Bool := (T.types.all fun x => tiOK P x.1 x.2) && (T.maps.all fun x => mapOK P x.1 x.2.1 x.2.2.1 x.2.2.2) && (!T.bld || bzOK P)
def Tab.mp (T : Tab) (t : TypeId) : Option (TypeId × TypeId × D) := T.maps.lookup t
def Tab.ti (T : Tab) (t : TypeId) : Option TI := T.types.lookup t

theorem Tab.ti_ok {P : Program} {T : Tab} (h : T.ok P = true) {t : TypeId} {ti : TI} (ht : T.ti t = some ti) : tiOK P t ti = true := by
  have hm : (t, ti) ∈ T.types := by
    unfold Tab.ti at ht
    generalize T.types = l at ht
    induction l with
    | nil => simp at ht
    | cons x l ih =>
      rw [List.lookup_cons] at ht
      by_cases e : t == x.1
      · simp [e] at ht
        have : t = x.1 := by simpa using e
        subst this; subst ht
        simp
      · simp [e] at ht
        simp [ih ht]
  simp only [Tab.ok, Bool.and_eq_true] at h
  have := List.all_eq_true.1 h.1.1 _ hm
  simpa using this

structure TIOK (P : Program) (t : TypeId) (ti : TI) : Prop where
  info : ∃ i z, P.info? t = some i ∧ i.size = ti.size ∧ i.bytes = ti.bytes ∧ i.zero = some z ∧ zeroOK z.cells.toList ti.zero = true
  kind : kindOK P (P.underlying t) ti.kind = true
  zlen : ti.zero.length = ti.size

theorem tiok {P : Program} {T : Tab} (h : T.ok P = true) {t : TypeId} {ti : TI} (ht : T.ti t = some ti) : TIOK P t ti := by
  have := Tab.ti_ok h ht
  unfold tiOK at this
  cases hi : P.info? t with
  | none => simp [hi] at this
  | some i =>
    cases hz : i.zero with
    | none => simp [hi, hz] at this
    | some z =>
      simp [hi, hz] at this
      exact ⟨⟨i, z, hi, this.1.1.1.2, this.1.1.2, hz, this.2⟩, this.1.2, this.1.1.1.1⟩

section runs
variable {P : Program} {t : TypeId} {ti : TI} (w : World)
theorem TIOK.sizeOf (h : TIOK P t ti) : (sizeOf t).run P w = .ok ti.size w := by
  obtain ⟨i, z, hi, hs, _⟩ := h.info
  simp [Go.sizeOf, typeInfo, hi, hs]
theorem TIOK.cells (h : TIOK P t ti) : P.cellsOf t = ti.size := by
  obtain ⟨i, z, hi, hs, _⟩ := h.info
  simp [Program.cellsOf, hi, hs]
theorem TIOK.zeroValue (h : TIOK P t ti) : ∃ z, (zeroValue t).run P w = .ok z w ∧ zeroOK z.cells.toList ti.zero = true := by
  obtain ⟨i, z, hi, hs, hb, hz, hz'⟩ := h.info
  exact ⟨z, by simp [Go.zeroValue, typeInfo, hi, hz], hz'⟩
theorem TIOK.slice {e : TypeId} (h : TIOK P t ti) (hk : ti.kind = .slice e) : P.underlying t = some (.slice e) := by
  have := h.kind
  rw [hk] at this
  simp only [kindOK] at this
  split at this
  · rename_i e' he; rw [he]; simp at this; rw [this]
  · simp at this
theorem TIOK.arr {n : Nat} {e : TypeId} (h : TIOK P t ti) (hk : ti.kind = .arr n e) : P.underlying t = some (.array n e) := by
  have := h.kind
  rw [hk] at this
  simp only [kindOK] at this
  split at this
  · rename_i n' e' he
    simp at this
    rw [he, this.1, this.2]
  · simp at this
theorem TIOK.iface (h : TIOK P t ti) (hk : ti.kind = .iface) : ∃ ms, P.underlying t = some (.interface ms) := by
  have := h.kind
  rw [hk] at this
  simp only [kindOK] at this
  split at this
  · rename_i ms he; exact ⟨ms, he⟩
  · simp at this
theorem TIOK.strct {fs : List (Nat × TypeId)} (h : TIOK P t ti) (hk : ti.kind = .strct fs) : ∃ fields, P.underlying t = some (.struct fields) ∧ fields.toList.map (fun f => (f.offset, f.type)) = fs ∧ ∀ f ∈ fields.toList, P.cellsOf f.type ≠ 0 := by
  have := h.kind
  rw [hk] at this
  simp only [kindOK] at this
  split at this
  · rename_i fields he
    simp at this
    refine ⟨fields, he, this.1, fun f hf => ?_⟩
    obtain ⟨i, hi, rfl⟩ := Array.mem_iff_getElem.1 (Array.mem_toList_iff.1 hf)
    exact this.2 i hi
  · simp at this
theorem TIOK.bool (h : TIOK P t ti) (hk : ti.kind = .bool) : P.underlying t = some .bool := by
  have := h.kind
  rw [hk] at this
  simp only [kindOK] at this
  split at this
  · assumption
  · simp at this
theorem TIOK.str (h : TIOK P t ti) (hk : ti.kind = .str) : P.underlying t = some .string := by
  have := h.kind
  rw [hk] at this
  simp only [kindOK] at this
  split at this
  · assumption
  · simp at this
theorem TIOK.int {k : IntKind} (h : TIOK P t ti) (hk : ti.kind = .int k) : P.underlying t = some (.int k) := by
  have := h.kind
  rw [hk] at this
  simp only [kindOK] at this
  split at this
  · rename_i k' he; rw [he]; simp at this; rw [this]
  · simp at this
def TK.agg : TK → Option Bool
  | .strct _ => some true
  | .other => none
  | .arr _ _ => none
  | _ => some false
theorem TIOK.isAgg (h : TIOK P t ti) {b : Bool} (hk : ti.kind.agg = some b) : (isAgg t).run P w = .ok b w := by
  have := h.kind
  cases hq : ti.kind with
  | other => rw [hq] at hk; simp [TK.agg] at hk
  | arr n e => rw [hq] at hk; simp [TK.agg] at hk
  | iface =>
    rw [hq] at hk; simp [TK.agg] at hk; subst hk
    obtain ⟨ms, e⟩ := h.iface hq
    simp [Go.isAgg, run_underlying e]
  | strct fs =>
    rw [hq] at hk; simp [TK.agg] at hk; subst hk
    obtain ⟨fields, hu, _⟩ := h.strct hq
    simp [Go.isAgg, run_underlying hu]
  | bool => rw [hq] at hk; simp [TK.agg] at hk; subst hk; simp [Go.isAgg, run_underlying (h.bool hq)]
  | str => rw [hq] at hk; simp [TK.agg] at hk; subst hk; simp [Go.isAgg, run_underlying (h.str hq)]
  | int k => rw [hq] at hk; simp [TK.agg] at hk; subst hk; simp [Go.isAgg, run_underlying (h.int hq)]
  | slice e => rw [hq] at hk; simp [TK.agg] at hk; subst hk; simp [Go.isAgg, run_underlying (h.slice hq)]
  | ref =>
    rw [hq] at hk this; simp [TK.agg] at hk; subst hk
    simp only [kindOK] at this
    split at this
    · rename_i e; simp [Go.isAgg, run_underlying e]
    · rename_i e; simp [Go.isAgg, run_underlying e]
    · rename_i e; simp [Go.isAgg, run_underlying e]
    · rename_i e; simp [Go.isAgg, run_underlying e]
    · simp at this
end runs

def constAV : Value → AV
  | .bool b => .d (.b b)
  | .int k n => .d (.i k n)
  | .string s => .d (.s s)
  | .slice none 0 0 => .z 0
  | .pointer none => .d .n
  | .nilFunc => .d .n
  | .nilIface => .d (.e false)
  | _ => .x

def St.ev (s : St) : Operand → AV
  | .tmp t => s.env t
  | .const v => constAV v
  | .func f => .f f []
  | .global g => match gT g with | some ws => .d (.p (strD ws)) | none => .x

section base
variable {w : World} {G : Nat → GI} {H : Nat → Option Ob} {Av : Nat → Prop}
theorem AVR.sc {v : Value} {x : D} (h1 : v.oneCell' = true) (h : Tr w false v x []) : AVR w G H Av v (.d x) := .d v x [] h1 h (by simp)
theorem constAV_ok (v : Value) : AVR w G H Av v (constAV v) := by
  unfold constAV
  split
  · exact .sc rfl (.b _)
  · exact .sc rfl (.i _ _)
  · exact .sc rfl (.s _)
  · exact .z _
  · exact .sc rfl .np
  · exact .sc rfl .nf
  · exact .sc rfl .ni
  · exact .x _
theorem zeroOK_ok : ∀ {vs : List Value} {avs : List AV}, zeroOK vs avs = true → AVRL w G H Av vs avs ∧ ∀ v ∈ vs, v.oneCell' = true
  | [], [], _ => ⟨.nil, by simp⟩
  | v :: vs, av :: avs, h => by
    simp only [zeroOK, Bool.and_eq_true] at h
    obtain ⟨h1, h2⟩ := h
    obtain ⟨i1, i2⟩ := zeroOK_ok h2
    have key : AVR w G H Av v av ∧ v.oneCell' = true := by
      split at h1
      · rename_i a b; have : a = b := by simpa using h1
        subst this; exact ⟨.sc rfl (.b _), rfl⟩
      · rename_i k n k' n'
        simp at h1
        obtain ⟨rfl, rfl⟩ := h1
        exact ⟨.sc rfl (.i _ _), rfl⟩
      · rename_i s s'
        simp at h1
        have e1 : s = s' := by
          rw [h1.1, h1.2]
        subst e1
        exact ⟨.sc rfl (.s _), rfl⟩
      · exact ⟨.z _, rfl⟩
      · exact ⟨.sc rfl .np, rfl⟩
      · exact ⟨.sc rfl .nf, rfl⟩
      · rename_i b; simp at h1; subst h1; exact ⟨.sc rfl .ni, rfl⟩
      · simp at h1
    exact ⟨.cons v av vs avs key.1 i1, by
      intro u hu
      rcases List.mem_cons.1 hu with rfl | hu
      · exact key.2
      · exact i2 u hu⟩
  | [], _ :: _, h => by simp [zeroOK] at h
  | _ :: _, [], h => by simp [zeroOK] at h
end base

theorem strD_tr {w : World} : ∀ ws : List ByteArray, TrL w false (ws.map Value.string) (strD ws) []
  | [] => .nil
  | x :: ws => .cons _ _ [] _ _ [] (.s x) (strD_tr ws)
theorem RelG.ev {B : Ctx} {G : Nat → GI} {s : St} {a : Act} {w : World} (h : RelG B G s a w) (x : Operand) : AVR w G s.heap (Ban B.F G s.heap) (a.eval x) (s.ev x) := by
  cases x with
  | tmp t => exact h.env t
  | const v => exact constAV_ok v
  | func f => exact .f f #[] [] .nil
  | global g =>
    show AVR w G s.heap _ (.pointer (some ⟨g, 0, none⟩)) (match gT g with | some ws => .d (.p (strD ws)) | none => .x)
    split
    · rename_i ws e
      obtain ⟨cur, el, fr, hg, hv⟩ := h.kn.tab g ws e
      have hlt := gT_lt e
      refine .d _ _ [g] rfl (.p g 0 cur el fr (ws.map Value.string) (strD ws) [] hg (fun j v hj => by rw [Nat.zero_add]; exact hv j v hj) ?_ (by simp) (strD_tr ws)) fun b hb hn => ?_
      · intro v hv
        obtain ⟨x, _, rfl⟩ := List.mem_map.1 hv
        rfl
      · simp only [List.mem_singleton] at hb
        subst hb
        have := h.knB hn
        omega
    · exact .x _

/-- Two texts, one behind the other. -/
def cat (a b : ByteArray) : Option ByteArray := if a.size + b.size ≤ 9223372036854775807 then some (a ++ b) else none
def binD (op : BinOp) : D → D → Option D
  | .i k a, .i k' b => if k = k' then match op with
    | .add => some (.i k (k.wrap (a + b)))
    | .sub => some (.i k (k.wrap (a - b)))
    | .mul => some (.i k (k.wrap (a * b)))
    | .quo => if b = 0 then none else some (.i k (k.wrap (a.tdiv b)))
    | .rem => if b = 0 then none else some (.i k (a.tmod b))
    | .eql => some (.b (decide (a = b)))
    | .neq => some (.b (!decide (a = b)))
    | .lss => some (.b (decide (a < b)))
    | .leq => some (.b (decide (a ≤ b)))
    | .gtr => some (.b (decide (b < a)))
    | .geq => some (.b (decide (b ≤ a)))
    | _ => none else none
  | .s a, .s b => match op with
    | .add => (cat a b).map .s
    | .eql => some (.b (decide (a = b)))
    | .neq => some (.b (!decide (a = b)))
    | .lss => some (.b (Op.bytesLess a.data.toList b.data.toList))
    | .leq => some (.b (Op.bytesLess a.data.toList b.data.toList || decide (a = b)))
    | .gtr => some (.b (!(Op.bytesLess a.data.toList b.data.toList || decide (a = b))))
    | .geq => some (.b (!Op.bytesLess a.data.toList b.data.toList))
    | _ => none
  | .b a, .b b => match op with
    | .eql => some (.b (a == b))
    | .neq => some (.b (!(a == b)))
    | _ => none
  | _, _ => none


theorem strEq (a b : ByteArray) : (a.toList == b.toList) = decide (a = b) := by
  rw [ByteArray.toList_eq, ByteArray.toList_eq, Bool.eq_iff_iff]
  simp
  constructor
  · intro h
    obtain ⟨a⟩ := a
    obtain ⟨b⟩ := b
    simp_all
  · rintro rfl; rfl

theorem Tr.inv_i {w : World} {own : Bool} {v : Value} {k : IntKind} {n : Int} {S : List Nat} (h : Tr w own v (.i k n) S) : v = .int k n ∧ S = [] := by cases h; exact ⟨rfl, rfl⟩
theorem Tr.inv_b {w : World} {own : Bool} {v : Value} {x : Bool} {S : List Nat} (h : Tr w own v (.b x) S) : v = .bool x ∧ S = [] := by cases h; exact ⟨rfl, rfl⟩
theorem Tr.inv_s {w : World} {own : Bool} {v : Value} {x : ByteArray} {S : List Nat} (h : Tr w own v (.s x) S) : v = .string x ∧ S = [] := by cases h; exact ⟨rfl, rfl⟩

/-- Of one cell, without memory: a number, a truth, a text, or nothing. -/
def scal : D → Bool
  | .b _ | .i _ _ | .s _ | .n | .e _ => true
  | _ => false
theorem scal_tr {w : World} {own : Bool} {v : Value} {x : D} {S : List Nat} (h : Tr w own v x S) (hs : scal x = true) : S = [] ∧ (∀ w' own', Tr w' own' v x []) ∧ v.oneCell' = true := by
  cases h <;> simp [scal] at hs
  · exact ⟨rfl, fun _ _ => .b _, rfl⟩
  · exact ⟨rfl, fun _ _ => .i _ _, rfl⟩
  · exact ⟨rfl, fun _ _ => .s _, rfl⟩
  · exact ⟨rfl, fun _ _ => .np, rfl⟩
  · exact ⟨rfl, fun _ _ => .nf, rfl⟩
  · exact ⟨rfl, fun _ _ => .ni, rfl⟩
  · exact ⟨rfl, fun _ _ => .ei _ _, rfl⟩

theorem binD_ok {P : Program} {w : World} {own own' : Bool} {op : BinOp} {t : TypeId} {x y : Operand} {v u : Value} {a b d : D} {S S' : List Nat}
    (hv : Tr w own v a S) (hu : Tr w own' u b S') (h : binD op a b = some d) (hb : (∃ p, a = .b p) → P.underlying t = some .bool) :
    ∃ r, (do eqGuard op t x y v u; binOp op t v u : Sem Value).run P w = .ok r w ∧ scal d = true ∧ Tr w false r d [] := by
  unfold binD at h
  split at h
  · rename_i k p k' q
    obtain ⟨rfl, _⟩ := hv.inv_i
    obtain ⟨rfl, _⟩ := hu.inv_i
    split at h
    · rename_i e
      subst e
      have hq : (eqGuard op t x y (.int k p) (.int k q)).run P w = .ok () w := by cases op <;> simp [eqGuard]
      rw [Sem.run_bind, hq, Result.andThen_ok]
      cases op <;> simp only [Option.some.injEq, reduceCtorEq, Option.ite_none_left_eq_some] at h <;> first
        | (subst h; exact ⟨_, by simp [binOp, Op.intArith], rfl, .i _ _⟩)
        | (obtain ⟨hq0, rfl⟩ := h; exact ⟨_, by simp [binOp, Op.intDiv, hq0], rfl, .i _ _⟩)
        | (subst h; exact ⟨_, by simp only [binOp, Op.intCmp, ne_eq, not_true, if_false]; rfl, rfl, .b _⟩)
    · cases h
  · rename_i p q
    obtain ⟨rfl, _⟩ := hv.inv_s
    obtain ⟨rfl, _⟩ := hu.inv_s
    have hq : (eqGuard op t x y (.string p) (.string q)).run P w = .ok () w := by cases op <;> simp [eqGuard]
    rw [Sem.run_bind, hq, Result.andThen_ok]
    cases op <;> simp only [Option.some.injEq, reduceCtorEq, Option.map_eq_some_iff, cat, Option.ite_none_right_eq_some] at h <;> first
      | (obtain ⟨_, ⟨hs, rfl⟩, rfl⟩ := h
         refine ⟨.string (p ++ q), ?_, rfl, .s _⟩
         have : ¬ ((p.size + q.size : Nat) : Int) > IntKind.i64.max := by
           have : IntKind.i64.max = 9223372036854775807 := by decide
           rw [this]; omega
         simp only [binOp, Op.stringOp]
         rw [if_neg this]; rfl)
      | (subst h; exact ⟨_, by simp only [binOp, Op.stringOp, ← strEq, ByteArray.toList_eq]; rfl, rfl, .b _⟩)
  · rename_i p q
    obtain ⟨rfl, _⟩ := hv.inv_b
    obtain ⟨rfl, _⟩ := hu.inv_b
    have hq : (eqGuard op t x y (.bool p) (.bool q)).run P w = .ok () w := by cases op <;> simp [eqGuard]
    rw [Sem.run_bind, hq, Result.andThen_ok]
    have ht := hb ⟨p, rfl⟩
    cases op <;> simp only [Option.some.injEq, reduceCtorEq] at h <;> (subst h; exact ⟨_, by simp [binOp, run_equal_bool (w := w) t p q ht], rfl, .b _⟩)
  · cases h

end Go.Fs
namespace Go.Fs
open Go.RowKit

theorem add_at (g o n : Nat) : (⟨g, o, none⟩ : Addr).add n = ⟨g, o + n, none⟩ := by unfold Addr.add; split <;> simp_all
theorem cell_at {w : World} {g o : Nat} {cur : Array Value} {e : TypeId} {fr : Nat × Nat} (h : w.heap[g]? = some (.cells cur e fr)) : w.cell? ⟨g, o, none⟩ = cur[o]? := by simp [World.cell?, h]

theorem TrL.split {w : World} {own : Bool} : ∀ {vs : List Value} {ds : List D} {S : List Nat}, TrL w own vs ds S → ∀ n, ∃ S1 S2, TrL w own (vs.take n) (ds.take n) S1 ∧ TrL w own (vs.drop n) (ds.drop n) S2 ∧ S = S1 ++ S2
  | _, _, _, .nil, n => ⟨[], [], by simpa using .nil, by simpa using .nil, rfl⟩
  | _, _, _, .cons v d S vs ds Ss h hs, 0 => ⟨[], S ++ Ss, .nil, .cons v d S vs ds Ss h hs, rfl⟩
  | _, _, _, .cons v d S vs ds Ss h hs, n + 1 => by
    obtain ⟨S1, S2, h1, h2, rfl⟩ := hs.split n
    exact ⟨S ++ S1, S2, .cons v d S _ _ S1 h h1, h2, by simp⟩

theorem TrL.splice {w : World} {own : Bool} {vs : List Value} {ds : List D} {S : List Nat} (h : TrL w own vs ds S) {ms : List Value} {es : List D} {S' : List Nat} (h' : TrL w own ms es S') (n : Nat) :
    ∃ S'', TrL w own (vs.take n ++ ms ++ vs.drop (n + ms.length)) (ds.take n ++ es ++ ds.drop (n + es.length)) S'' ∧ (∀ b ∈ S'', b ∈ S ∨ b ∈ S') ∧ (S.Nodup → S'.Nodup → (∀ b ∈ S, b ∉ S') → S''.Nodup) := by
  obtain ⟨S1, S2, h1, h2, rfl⟩ := h.split n
  obtain ⟨S3, S4, h3, h4, rfl⟩ := h2.split ms.length
  have hl := h'.length
  refine ⟨S1 ++ S' ++ S4, ?_, ?_, ?_⟩
  · have := (h1.append h').append h4
    rw [List.drop_drop, List.drop_drop, hl] at this
    rw [hl]
    exact this
  · intro b hb
    simp at hb ⊢
    rcases hb with hb | hb | hb <;> simp [hb]
  · intro hn hn' hd
    rw [List.nodup_append] at hn
    obtain ⟨n1, n2, n3⟩ := hn
    rw [List.nodup_append] at n2
    obtain ⟨n4, n5, n6⟩ := n2
    rw [List.append_assoc, List.nodup_append]
    refine ⟨n1, ?_, ?_⟩
    · rw [List.nodup_append]
      exact ⟨hn', n5, fun x hx y hy e => hd y (by simp [hy]) (e ▸ hx)⟩
    · intro x hx y hy e
      subst e
      rcases List.mem_append.1 hy with hy | hy
      · exact hd x (by simp [hx]) hy
      · exact n3 x hx x (by simp [hy]) rfl

theorem seg_splice {vs ms : List Value} {cur : Array Value} {o n : Nat} (hv : ∀ j v, vs[j]? = some v → cur[o + j]? = some v) (hn : n + ms.length ≤ vs.length) (hc : o + vs.length ≤ cur.size) :
    ∀ j v, (vs.take n ++ ms ++ vs.drop (n + ms.length))[j]? = some v → (List.take (o + n) cur.toList ++ ms ++ List.drop (o + n + ms.length) cur.toList).toArray[o + j]? = some v := by
  intro j v h
  have e1 : (List.take (o + n) cur.toList).length = o + n := by rw [List.length_take, Array.length_toList]; omega
  have e2 : (vs.take n).length = n := by rw [List.length_take]; omega
  simp only [List.getElem?_toArray]
  by_cases h1 : j < n
  · rw [List.append_assoc, List.getElem?_append_left (by omega)] at h
    rw [List.append_assoc, List.getElem?_append_left (by omega)]
    rw [List.getElem?_take_of_lt (by omega)] at h ⊢
    simpa using hv j v h
  · by_cases h2 : j < n + ms.length
    · rw [List.append_assoc, List.getElem?_append_right (by omega), e2, List.getElem?_append_left (by omega)] at h
      rw [List.append_assoc, List.getElem?_append_right (by omega), e1, List.getElem?_append_left (by omega), show o + j - (o + n) = j - n by omega]
      exact h
    · rw [List.getElem?_append_right (by rw [List.length_append]; omega), List.length_append, e2, List.getElem?_drop] at h
      rw [List.getElem?_append_right (by rw [List.length_append]; omega), List.length_append, e1, List.getElem?_drop]
      rw [show n + ms.length + (j - (n + ms.length)) = j by omega] at h
      rw [show o + n + ms.length + (o + j - (o + n + ms.length)) = o + j by omega]
      simpa using hv j v h

theorem flat_splice {α : Type} {xs : List (List α)} {sz : Nat} (h : ∀ x ∈ xs, x.length = sz) {i o : Nat} {x es : List α} (hi : xs[i]? = some x) (ho : o + es.length ≤ sz) :
    (xs.set i (x.take o ++ es ++ x.drop (o + es.length))).flatten = xs.flatten.take (i * sz + o) ++ es ++ xs.flatten.drop (i * sz + o + es.length) := by
  induction xs generalizing i with
  | nil => simp at hi
  | cons y ys ih =>
    have hy : y.length = sz := h y (by simp)
    cases i with
    | zero =>
      simp at hi
      subst hi
      simp only [List.set_cons_zero, List.flatten_cons, Nat.zero_mul, Nat.zero_add]
      rw [List.take_append_of_le_length (by omega), List.drop_append_of_le_length (by omega)]
      simp
    | succ i =>
      simp only [List.getElem?_cons_succ] at hi
      simp only [List.set_cons_succ, List.flatten_cons]
      rw [ih (fun z hz => h z (by simp [hz])) hi, Nat.succ_mul]
      rw [show i * sz + sz + o = y.length + (i * sz + o) by omega, List.take_length_add_append, show y.length + (i * sz + o) + es.length = y.length + (i * sz + o + es.length) by omega, List.drop_length_add_append]
      simp

def moveC (H : Nat → Option Ob) : AV → Option (D × Bool × (Nat → Option Ob))
  | .d x => some (x, scal x, H)
  | .z sz => some (.l sz [], true, H)
  | .r k => match H k with
    | some (.row sz xs dp fz _) => some (.l sz xs, dp && !fz, if fz then H else upd H k (some .dead))
    | _ => none
  | _ => none
def moveCs (H : Nat → Option Ob) : List AV → Option (List D × Bool × (Nat → Option Ob))
  | [] => some ([], true, H)
  | av :: avs => (moveC H av).bind fun x => (moveCs x.2.2 avs).bind fun y => some (x.1 :: y.1, x.2.1 && y.2.1, y.2.2)

section rel
variable {B : Ctx} {G : Nat → GI} {s : St} {a : Act} {w : World}

/-- A row's window, as a value reads. -/
theorem RowR.window {Av : Nat → Prop} {g : GI} {sz : Nat} {xs : List (List D)} {dp fz : Bool} (h : RowR w Av g sz xs dp fz) {off len : Nat} {ad : Option Addr} (hl : off + len ≤ xs.length)
    (ha : off < g.cap → ad = some ⟨g.blk, g.off + off * sz, none⟩) : ∃ S, Tr w dp (.slice ad len (g.cap - off)) (.l sz ((xs.drop off).take len)) S ∧ (∀ b ∈ S, g.cap ≠ 0 ∧ b ∈ g.blk :: g.sub) ∧ (dp = true → g.blk ∉ g.sub → S.Nodup) := by
  obtain ⟨hcells, h2, h3, h4, h5, h6, h7, h8, h9, h10⟩ := h
  by_cases hoff : off < g.cap
  · obtain ⟨cur, e, hg, hcap, hv⟩ := hcells (by omega)
    have hle : ((xs.drop off).take len).length = len := by rw [List.length_take, List.length_drop]; omega
    have hm : (off + len) * sz ≤ g.vs.length := by rw [h4]; exact Nat.mul_le_mul_right _ hl
    have hadd : (off + len) * sz = off * sz + len * sz := Nat.add_mul ..
    obtain ⟨S1, t1, t2, t3⟩ := h7.drop (off * sz)
    obtain ⟨S2, t4, t5, t6⟩ := t1.take (len * sz)
    have hfl : ((xs.drop off).take len).flatten = (xs.flatten.drop (off * sz)).take (len * sz) := by
      rw [flat_take (fun x hx => h6 x (List.mem_of_mem_drop hx)), flat_drop h6]
    have hcs : (g.cap - off) * sz + off * sz = g.cap * sz := by rw [← Nat.add_mul]; congr 1; omega
    refine ⟨g.blk :: S2, ?_, ?_, ?_⟩
    · rw [ha hoff]
      have := Tr.l (own := dp) g.blk (g.off + off * sz) (g.cap - off) sz cur e (0, 0) ((g.vs.drop (off * sz)).take (len * sz)) ((xs.drop off).take len) S2 hg (by omega) (by omega)
        (by rw [List.length_take, List.length_drop, hle]; omega) (fun j v hj => by
          have hj' : j < len * sz := by
            rcases Nat.lt_or_ge j (len * sz) with h | h
            · exact h
            · rw [List.getElem?_eq_none (by rw [List.length_take]; omega)] at hj; cases hj
          rw [List.getElem?_take_of_lt hj', List.getElem?_drop] at hj
          rw [Nat.add_assoc]
          exact hv _ _ hj)
        (fun v hv' => h5 v (List.mem_of_mem_drop (List.mem_of_mem_take hv'))) (fun x hx => h6 x (List.mem_of_mem_drop (List.mem_of_mem_take hx)))
        (fun _ => ⟨rfl, by omega⟩) (by rw [hfl]; exact t4)
      rw [hle] at this
      exact this
    · intro b hb
      refine ⟨by omega, ?_⟩
      rcases List.mem_cons.1 hb with rfl | hb
      · simp
      · simp [t2 b (t5 b hb)]
    · intro hd hn
      exact List.nodup_cons.2 ⟨fun hm => hn (t2 _ (t5 _ hm)), t6 (t3 (h8 hd))⟩
  · obtain rfl : len = 0 := by omega
    refine ⟨[], ?_, by simp, fun _ _ => List.nodup_nil⟩
    rw [List.take_zero]
    exact .z ad _ sz (fun _ => by omega)

/-- The whole row. -/
theorem RowR.whole {Av : Nat → Prop} {g : GI} {sz : Nat} {xs : List (List D)} {dp fz : Bool} (h : RowR w Av g sz xs dp fz) {ad : Option Addr}
    (ha : 0 < g.cap → ad = some ⟨g.blk, g.off, none⟩) : ∃ S, Tr w dp (.slice ad xs.length g.cap) (.l sz xs) S ∧ (∀ b ∈ S, g.cap ≠ 0 ∧ b ∈ g.blk :: g.sub) ∧ (dp = true → g.blk ∉ g.sub → S.Nodup) := by
  obtain ⟨S, h1, h2, h3⟩ := h.window (off := 0) (len := xs.length) (ad := ad) (by omega) (by simpa using ha)
  exact ⟨S, by simpa using h1, h2, h3⟩

theorem AVR.kill {v : Value} {av : AV} (h : AVR w G s.heap (Ban B.F G s.heap) v av) (k : Nat) (hk : s.heap k ≠ none) :
    AVR w G (upd s.heap k (some .dead)) (Ban B.F G (upd s.heap k (some .dead))) v av := by
  refine (AVR.mono_both (w := w) (w' := w) (G := G) (G' := G) (fun _ _ _ => rfl) ?_ ?_).1 h
  · rintro b _ (⟨i, hi⟩ | hf)
    · by_cases e : i = k
      · subst e; rw [upd_same] at hi; simp [ownOf] at hi
      · rw [upd_ne _ _ e] at hi; exact .inl ⟨i, hi⟩
    · exact .inr hf
  · intro i o ho
    by_cases e : i = k
    · subst e; exact ⟨.dead, upd_same .., .dead _⟩
    · exact ⟨o, by rw [upd_ne _ _ e]; exact ho, Ob.to.refl _ _⟩

theorem own_kill {k b : Nat} (h : Own G (upd s.heap k (some .dead)) b) : Own G s.heap b ∧ ∃ i, i ≠ k ∧ b ∈ ownOf (G i) (s.heap i) := by
  obtain ⟨i, hi⟩ := h
  by_cases e : i = k
  · subst e; rw [upd_same] at hi; simp [ownOf] at hi
  · rw [upd_ne _ _ e] at hi; exact ⟨⟨i, hi⟩, i, e, hi⟩

structure Moved (B : Ctx) (G : Nat → GI) (s : St) (a : Act) (w : World) (H' : Nat → Option Ob) : Prop where
  rel : RelG B G { s with heap := H' } a w
  avr : ∀ {v : Value} {av : AV}, AVR w G s.heap (Ban B.F G s.heap) v av → AVR w G H' (Ban B.F G H') v av
  own : ∀ b, Own G H' b → Own G s.heap b
  keys : ∀ k, H' k = s.heap k ∨ (s.heap k ≠ none ∧ H' k = some .dead)

theorem Moved.ban {H' : Nat → Option Ob} (M : Moved B G s a w H') {b : Nat} (hb : Ban B.F G H' b) : Ban B.F G s.heap b := hb.imp (M.own b) id

theorem Moved.refl (h : RelG B G s a w) : Moved B G s a w s.heap := ⟨h, fun h => h, fun _ h => h, fun _ => .inl rfl⟩

theorem moveC_ok (h : RelG B G s a w) {v : Value} {av : AV} (hv : AVR w G s.heap (Ban B.F G s.heap) v av) {d : D} {f : Bool} {H' : Nat → Option Ob} (hm : moveC s.heap av = some (d, f, H')) :
    Moved B G s a w H' ∧ ∃ S, Tr w f v d S ∧ v.oneCell' = true ∧ (∀ b ∈ S, ¬ Ban B.F G H' b) ∧ (f = true → S.Nodup ∧ ∀ b ∈ S, Own G s.heap b) := by
  cases hv with
  | d v x S h1 ht hS =>
    simp only [moveC, Option.some.injEq, Prod.mk.injEq] at hm
    obtain ⟨rfl, rfl, rfl⟩ := hm
    refine ⟨.refl h, ?_⟩
    cases hsc : scal x with
    | false => exact ⟨S, ht, h1, hS, by simp⟩
    | true =>
      obtain ⟨rfl, hall, _⟩ := scal_tr ht hsc
      exact ⟨[], hall w true, h1, by simp, fun _ => ⟨List.nodup_nil, by simp⟩⟩
  | z sz =>
    simp only [moveC, Option.some.injEq, Prod.mk.injEq] at hm
    obtain ⟨rfl, rfl, rfl⟩ := hm
    exact ⟨.refl h, [], .z none 0 sz (fun _ => rfl), rfl, by simp, fun _ => ⟨List.nodup_nil, by simp⟩⟩
  | r k sz xs dp fz ve ad hk ha =>
    simp only [moveC, hk, Option.some.injEq, Prod.mk.injEq] at hm
    obtain ⟨rfl, rfl, rfl⟩ := hm
    have hR : RowR w (Ban B.F G s.heap) (G k) sz xs dp fz := h.obj k _ hk
    obtain ⟨S, t1, t2, t3⟩ := hR.whole ha
    cases fz with
    | true =>
      refine ⟨.refl h, S, by simpa using t1.shared, rfl, ?_, by simp⟩
      intro b hb
      obtain ⟨hc, hb⟩ := t2 b hb
      rcases List.mem_cons.1 hb with rfl | hb
      · exact hR.frz rfl (by omega)
      · exact hR.sub (.inr rfl) b hb
    | false =>
      have hne : s.heap k ≠ none := by rw [hk]; simp
      have hM : Moved B G s a w (upd s.heap k (some .dead)) := ⟨h.kill k hne, fun hv => hv.kill k hne, fun b hb => (own_kill hb).1, fun i => by
        by_cases e : i = k
        · subst e; exact .inr ⟨hne, upd_same ..⟩
        · exact .inl (upd_ne _ _ e)⟩
      refine ⟨by simpa using hM, S, by simpa using t1, rfl, ?_, ?_⟩
      · intro b hb
        obtain ⟨hc, hb'⟩ := t2 b hb
        simp only [Bool.false_eq_true, if_false]
        intro hn
        rcases hn with hn | hn
        case inr =>
          have key : b ∈ ownOf (G k) (s.heap k) → False := fun hm => h.noF hm hn
          rw [hk] at key
          cases dp with
          | true => exact key (by simpa [ownOf, hc] using hb')
          | false =>
            rcases List.mem_cons.1 hb' with rfl | hb'
            · exact key (by simp [ownOf, hc])
            · exact hR.sub (.inl rfl) b hb' (.inr hn)
        obtain ⟨ho, i, hi, hmem⟩ := own_kill hn
        have key : b ∈ ownOf (G k) (s.heap k) → False := fun hm => hi (h.disj i k b hmem hm)
        rw [hk] at key
        cases dp with
        | true => exact key (by simpa [ownOf, hc] using hb')
        | false =>
          rcases List.mem_cons.1 hb' with rfl | hb'
          · exact key (by simp [ownOf, hc])
          · exact hR.sub (.inl rfl) b hb' (.inl ho)
      · intro hf
        have hd : dp = true := by simpa using hf
        subst hd
        by_cases hc : (G k).cap = 0
        · have : S = [] := List.eq_nil_iff_forall_not_mem.2 fun b hb => (t2 b hb).1 hc
          subst this
          exact ⟨List.nodup_nil, by simp⟩
        have hnd := h.nodup k
        rw [hk] at hnd
        simp only [ownOf, if_true, hc, if_false] at hnd
        refine ⟨t3 rfl (List.nodup_cons.1 hnd).1, fun b hb => ⟨k, ?_⟩⟩
        rw [hk]
        simpa [ownOf, hc] using (t2 b hb).2
  | rd k v hk => simp [moveC, hk] at hm
  | a => simp [moveC] at hm
  | ad => simp [moveC] at hm
  | e => simp [moveC] at hm
  | m => simp [moveC] at hm
  | mo => simp [moveC] at hm
  | md => simp [moveC] at hm
  | ed => simp [moveC] at hm
  | q => simp [moveC] at hm
  | g => simp [moveC] at hm
  | f => simp [moveC] at hm
  | t => simp [moveC] at hm
  | mp => simp [moveC] at hm
  | mpd => simp [moveC] at hm
  | bp => simp [moveC] at hm
  | bpd => simp [moveC] at hm
  | x => simp [moveC] at hm

theorem Moved.trans {H1 H2 : Nat → Option Ob} (h1 : Moved B G s a w H1) (h2 : Moved B G { s with heap := H1 } a w H2) : Moved B G s a w H2 :=
  ⟨h2.rel, fun h => h2.avr (h1.avr h), fun b hb => h1.own b (h2.own b hb), fun k => by
    rcases h1.keys k with e1 | ⟨n1, e1⟩ <;> rcases h2.keys k with e2 | ⟨n2, e2⟩
    · exact .inl (e2.trans e1)
    · exact .inr ⟨by rw [← e1]; exact n2, e2⟩
    · exact .inr ⟨n1, e2.trans e1⟩
    · exact .inr ⟨n1, e2⟩⟩

theorem moveCs_ok : ∀ {s : St} (h : RelG B G s a w) {vs : List Value} {avs : List AV} (hv : AVRL w G s.heap (Ban B.F G s.heap) vs avs) {ds : List D} {f : Bool} {H' : Nat → Option Ob} (hm : moveCs s.heap avs = some (ds, f, H')),
    Moved B G s a w H' ∧ ∃ S, TrL w f vs ds S ∧ (∀ v ∈ vs, v.oneCell' = true) ∧ (∀ b ∈ S, ¬ Ban B.F G H' b) ∧ (f = true → S.Nodup ∧ ∀ b ∈ S, Own G s.heap b) := by
  intro s h vs avs hv
  induction avs generalizing s vs with
  | nil =>
    intro ds f H' hm
    cases hv
    simp only [moveCs, Option.some.injEq, Prod.mk.injEq] at hm
    obtain ⟨rfl, rfl, rfl⟩ := hm
    exact ⟨.refl h, [], .nil, by simp, by simp, fun _ => ⟨List.nodup_nil, by simp⟩⟩
  | cons av avs ih =>
    intro ds f H' hm
    cases hv with
    | cons v _ vs _ hv hvs =>
      simp only [moveCs, Option.bind_eq_some_iff] at hm
      obtain ⟨⟨d1, f1, H1⟩, m1, ⟨d2, f2, H2⟩, m2, hm⟩ := hm
      simp only [Option.some.injEq, Prod.mk.injEq] at hm
      obtain ⟨rfl, rfl, rfl⟩ := hm
      obtain ⟨M1, S1, t1, o1, n1, w1⟩ := moveC_ok h hv m1
      have hvs1 : AVRL w G H1 (Ban B.F G H1) vs avs := by
        have := M1.avr (.t vs.toArray avs (by simpa using hvs))
        cases this with
        | t _ _ h => simpa using h
      obtain ⟨M2, S2, t2, o2, n2, w2⟩ := ih M1.rel hvs1 m2
      refine ⟨M1.trans M2, S1 ++ S2, ?_, ?_, ?_, ?_⟩
      · by_cases e : (f1 && f2) = true
        · rw [e]
          simp at e
          rw [e.1] at t1
          rw [e.2] at t2
          exact .cons _ _ _ _ _ _ t1 t2
        · rw [Bool.not_eq_true] at e
          rw [e]
          exact .cons _ _ _ _ _ _ t1.shared t2.shared
      · intro u hu
        rcases List.mem_cons.1 hu with rfl | hu
        · exact o1
        · exact o2 u hu
      · intro b hb hn
        rcases List.mem_append.1 hb with hb | hb
        · exact n1 b hb (M2.ban hn)
        · exact n2 b hb hn
      · intro e
        simp at e
        obtain ⟨a1, a2⟩ := w1 e.1
        obtain ⟨b1, b2⟩ := w2 e.2
        refine ⟨List.nodup_append.2 ⟨a1, b1, fun x hx y hy e => ?_⟩, fun b hb => ?_⟩
        · subst e
          exact n1 x hx (.inl (b2 x hy))
        · rcases List.mem_append.1 hb with hb | hb
          · exact a2 b hb
          · exact M1.own b (b2 b hb)
end rel
end Go.Fs
