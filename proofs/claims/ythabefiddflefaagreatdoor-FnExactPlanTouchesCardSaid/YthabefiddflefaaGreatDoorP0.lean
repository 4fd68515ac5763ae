/- A part of the proof: an evaluator of the program's code over plain data, proved sound; the equations of its functions; what they compute. No conditions beyond those in the theorems. -/
import Derived.Maps.AppendAt
import Derived.Below
import Derived.Lib.ItoaNum
import Derived.Laws.MakeOwn
import Derived.Lib.FrozenHead
import Derived.Laws.Strings
import Derived.Laws.StructEq
import Derived.Laws.Slices
import Derived.IntWalk
import Derived.WideLaws
set_option linter.unusedVariables false
set_option linter.unusedSimpArgs false
set_option linter.constructorNameAsVariable false
set_option linter.unusedSectionVars false
set_option linter.defProp false
namespace Go.Fs
open Go.RowKit
def opW : List ByteArray := ["push", "flag", "load", "keep", "prim", "jump", "unless", "call", "back", "row"].map String.toUTF8
def tyW : List ByteArray := ["int", "bool", "row"].map String.toUTF8
def bT : Nat := 109
def bE : Nat := 5
def qFn (f : Nat) : Bool := ([] : List Nat).contains f
def nG : Nat := 7
def gT : Nat → Option (List ByteArray)
 | 0 => some tyW
 | _ => none
theorem gT_lt {g : Nat} {ws : List ByteArray} (h : gT g = some ws) : g < nG := by
 unfold gT at h
 split at h
 ·decide
 ·cases h
def ifV (v : Value) : Prop := v = .nilIface ∨ ∃ te pe, v = .iface te pe
structure Kn (w : World) : Prop where
 tab : ∀ g ws, gT g = some ws → ∃ cur el fr, w.heap[g]? = some (.cells cur el fr) ∧ ∀ (j : Nat) (v : Value), (ws.map Value.string)[j]? = some v → cur[j]? = some v
 max : ∃ m, w.cell? ⟨1, 0, none⟩ = some (.int .i64 m)
 syn : ∃ v, w.cell? ⟨2, 0, none⟩ = some v ∧ ifV v
 rng : ∃ v, w.cell? ⟨3, 0, none⟩ = some v ∧ ifV v
 pow : ∃ el fr, w.heap[4]? = some (.cells (Lib.pow10Tab.map fun z => Value.int .u64 z).toArray el fr)
theorem cell_keep {w w' : World} {g : Nat} (h : w'.heap[g]? = w.heap[g]?) {o : Nat} : w'.cell? ⟨g, o, none⟩ = w.cell? ⟨g, o, none⟩ := by
 unfold World.cell?
 simp only [h]
theorem Kn.keep {w w' : World} (h : Kn w) (hw : ∀ b, b < nG → w'.heap[b]? = w.heap[b]?) : Kn w' := by
 refine ⟨fun g ws e => ?_, ?_, ?_, ?_, ?_⟩
 ·rw [hw g (gT_lt e)]
  exact h.tab g ws e
 ·rw [cell_keep (hw 1 (by decide))]; exact h.max
 ·rw [cell_keep (hw 2 (by decide))]; exact h.syn
 ·rw [cell_keep (hw 3 (by decide))]; exact h.rng
 ·rw [hw 4 (by decide)]; exact h.pow
structure KnW (w : World) (M : Nat → Prop) : Prop where
 kn : Kn w
 size : nG ≤ w.heap.size
 ge : ∀ b, M b → nG ≤ b
end Go.Fs
namespace Go.Fs
open Go.RowKit
inductive D where
 | b (v : Bool)
 | i (k : IntKind) (n : Int)
 | s (v : ByteArray)
 | l (sz : Nat) (xs : List (List D))
 | g (cs : List D)
 | f (fn : FuncId) (caps : List D)
 | p (cs : List D)
 | n
 | t (vs : List D)
 | u
 | e (v : Bool)
 deriving Inhabited
def strD (ws : List ByteArray) : List D := ws.map .s
mutual
inductive Tr (w : World) (own : Bool) : Value → D → List Nat → Prop
 | b (x : Bool) : Tr w own (.bool x) (.b x) []
 | i (k : IntKind) (n : Int) : Tr w own (.int k n) (.i k n) []
 | s (x : ByteArray) : Tr w own (.string x) (.s x) []
 | np : Tr w own (.pointer none) .n []
 | nf : Tr w own .nilFunc .n []
 | ni : Tr w own .nilIface (.e false) []
 | ei (te : TypeId) (pv : Value) : Tr w own (.iface te pv) (.e true) []
 | z (a : Option Addr) (c sz : Nat) (h : own = true → c = 0) : Tr w own (.slice a 0 c) (.l sz []) []
 | l (g o c sz : Nat) (cur : Array Value) (e : TypeId) (fr : Nat × Nat) (vs : List Value) (xs : List (List D)) (S : List Nat)
  (hg : w.heap[g]? = some (.cells cur e fr)) (hc : xs.length ≤ c) (hm : c ≤ maxLen) (hl : vs.length = xs.length * sz)
  (hv : ∀ j v, vs[j]? = some v → cur[o + j]? = some v) (h1 : ∀ v ∈ vs, v.oneCell' = true) (hx : ∀ x ∈ xs, x.length = sz)
  (ho : own = true → fr = (0, 0) ∧ o + c * sz ≤ cur.size) (hs : TrL w own vs xs.flatten S) : Tr w own (.slice (some ⟨g, o, none⟩) xs.length c) (.l sz xs) (g :: S)
 | g (cs : Array Value) (ds : List D) (S : List Nat) (h : TrL w own cs.toList ds S) : Tr w own (.agg cs) (.g ds) S
 | f (fn : FuncId) (cs : Array Value) (ds : List D) (S : List Nat) (h : TrL w own cs.toList ds S) : Tr w own (.func (.func fn) #[] cs) (.f fn ds) S
 | p (g o : Nat) (cur : Array Value) (e : TypeId) (fr : Nat × Nat) (vs : List Value) (ds : List D) (S : List Nat)
  (hg : w.heap[g]? = some (.cells cur e fr)) (hv : ∀ j v, vs[j]? = some v → cur[o + j]? = some v) (h1 : ∀ v ∈ vs, v.oneCell' = true)
  (ho : own = true → fr = (0, 0) ∧ o = 0 ∧ cur.size = vs.length) (hs : TrL w own vs ds S) : Tr w own (.pointer (some ⟨g, o, none⟩)) (.p ds) (g :: S)
 | t (vs : Array Value) (ds : List D) (S : List Nat) (h : TrL w own vs.toList ds S) : Tr w own (.tuple vs) (.t ds) S
 | u (a : Option Addr) (len cap : Nat) : Tr w own (.slice a len cap) .u []
inductive TrL (w : World) (own : Bool) : List Value → List D → List Nat → Prop
 | nil : TrL w own [] [] []
 | cons (v : Value) (d : D) (S : List Nat) (vs : List Value) (ds : List D) (Ss : List Nat) (h : Tr w own v d S) (hs : TrL w own vs ds Ss) : TrL w own (v :: vs) (d :: ds) (S ++ Ss)
end
theorem Tr.lt {w : World} {own : Bool} {v : Value} {d : D} {S : List Nat} (h : Tr w own v d S) : ∀ b ∈ S, b < w.heap.size := by
 have lt : ∀ {g : Nat} {o : Obj}, w.heap[g]? = some o → g < w.heap.size := fun h => (Array.getElem?_eq_some_iff.1 h).1
 refine Tr.rec (w := w) (own := own) (motive_1 := fun v d S _ => ∀ b ∈ S, b < w.heap.size) (motive_2 := fun vs ds S _ => ∀ b ∈ S, b < w.heap.size)
  ?_ ?_ ?_ ?_ ?_ ?_ ?_ ?_ ?_ ?_ ?_ ?_ ?_ ?_ ?_ ?_ h
 all_goals intros
 all_goals simp_all
 all_goals first
  | (intro b hb; rcases hb with rfl | hb; first | exact lt (by assumption) | (rename_i ih; exact ih _ hb); done)
  | skip
 all_goals grind
theorem TrL.lt {w : World} {own : Bool} {vs : List Value} {ds : List D} {S : List Nat} (h : TrL w own vs ds S) : ∀ b ∈ S, b < w.heap.size := by
 have := Tr.lt (Tr.t vs.toArray ds S (by simpa using h))
 exact this
theorem Tr.keep {w w' : World} {own : Bool} {v : Value} {d : D} {S : List Nat} (h : Tr w own v d S) : (∀ b ∈ S, w'.heap[b]? = w.heap[b]?) → Tr w' own v d S := by
 refine Tr.rec (w := w) (own := own) (motive_1 := fun v d S _ => (∀ b ∈ S, w'.heap[b]? = w.heap[b]?) → Tr w' own v d S) (motive_2 := fun vs ds S _ => (∀ b ∈ S, w'.heap[b]? = w.heap[b]?) → TrL w' own vs ds S)
  ?_ ?_ ?_ ?_ ?_ ?_ ?_ ?_ ?_ ?_ ?_ ?_ ?_ ?_ ?_ ?_ h
 ·intro x _; exact .b x
 ·intro k n _; exact .i k n
 ·intro x _; exact .s x
 ·intro _; exact .np
 ·intro _; exact .nf
 ·intro _; exact .ni
 ·intro te pv _; exact .ei te pv
 ·intro a c sz h _; exact .z a c sz h
 ·intro g o c sz cur e fr vs xs S hg hc hm hl hv h1 hx ho hs ih hk
  exact .l g o c sz cur e fr vs xs S ((hk g (by simp)).trans hg) hc hm hl hv h1 hx ho (ih fun b hb => hk b (by simp [hb]))
 ·intro cs ds S hs ih hk; exact .g cs ds S (ih hk)
 ·intro fn cs ds S hs ih hk; exact .f fn cs ds S (ih hk)
 ·intro g o cur e fr vs ds S hg hv h1 ho hs ih hk
  exact .p g o cur e fr vs ds S ((hk g (by simp)).trans hg) hv h1 ho (ih fun b hb => hk b (by simp [hb]))
 ·intro cs ds S hs ih hk; exact .t cs ds S (ih hk)
 ·intro a l c _; exact .u a l c
 ·intro _; exact .nil
 ·intro v d S vs ds Ss h hs ih ihs hk
  exact .cons v d S vs ds Ss (ih fun b hb => hk b (by simp [hb])) (ihs fun b hb => hk b (by simp [hb]))
theorem TrL.keep {w w' : World} {own : Bool} {vs : List Value} {ds : List D} {S : List Nat} (h : TrL w own vs ds S) (hk : ∀ b ∈ S, w'.heap[b]? = w.heap[b]?) : TrL w' own vs ds S := by
 have := Tr.keep (Tr.t vs.toArray ds S (by simpa using h)) hk
 cases this with
 | t _ _ _ h => simpa using h
theorem Tr.shared {w : World} {own : Bool} {v : Value} {d : D} {S : List Nat} (h : Tr w own v d S) : Tr w false v d S := by
 refine Tr.rec (w := w) (own := own) (motive_1 := fun v d S _ => Tr w false v d S) (motive_2 := fun vs ds S _ => TrL w false vs ds S)
  ?_ ?_ ?_ ?_ ?_ ?_ ?_ ?_ ?_ ?_ ?_ ?_ ?_ ?_ ?_ ?_ h
 ·intro x; exact .b x
 ·intro k n; exact .i k n
 ·intro x; exact .s x
 ·exact .np
 ·exact .nf
 ·exact .ni
 ·intro te pv; exact .ei te pv
 ·intro a c sz h; exact .z a c sz (by simp)
 ·intro g o c sz cur e fr vs xs S hg hc hm hl hv h1 hx ho hs ih
  exact .l g o c sz cur e fr vs xs S hg hc hm hl hv h1 hx (by simp) ih
 ·intro cs ds S hs ih; exact .g cs ds S ih
 ·intro fn cs ds S hs ih; exact .f fn cs ds S ih
 ·intro g o cur e fr vs ds S hg hv h1 ho hs ih
  exact .p g o cur e fr vs ds S hg hv h1 (by simp) ih
 ·intro cs ds S hs ih; exact .t cs ds S ih
 ·intro a l c; exact .u a l c
 ·exact .nil
 ·intro v d S vs ds Ss h hs ih ihs
  exact .cons v d S vs ds Ss ih ihs
theorem TrL.shared {w : World} {own : Bool} {vs : List Value} {ds : List D} {S : List Nat} (h : TrL w own vs ds S) : TrL w false vs ds S := by
 have := Tr.shared (Tr.t vs.toArray ds S (by simpa using h))
 cases this with
 | t _ _ _ h => simpa using h
theorem TrL.length {w : World} {own : Bool} : ∀ {vs : List Value} {ds : List D} {S : List Nat}, TrL w own vs ds S → vs.length = ds.length
 | _, _, _, .nil => rfl
 | _, _, _, .cons _ _ _ _ _ _ _ hs => by simp [hs.length]
theorem TrL.append {w : World} {own : Bool} : ∀ {vs : List Value} {ds : List D} {S : List Nat} {vs' : List Value} {ds' : List D} {S' : List Nat}, TrL w own vs ds S → TrL w own vs' ds' S' → TrL w own (vs ++ vs') (ds ++ ds') (S ++ S')
 | _, _, _, _, _, _, .nil, h => h
 | _, _, _, _, _, _, .cons v d S vs ds Ss h hs, h' => by
  rw [List.cons_append, List.cons_append, List.append_assoc]
  exact .cons v d S _ _ _ h (hs.append h')
theorem TrL.get {w : World} {own : Bool} : ∀ {vs : List Value} {ds : List D} {S : List Nat}, TrL w own vs ds S → ∀ {j : Nat} {d : D}, ds[j]? = some d → ∃ v S1, vs[j]? = some v ∧ Tr w own v d S1 ∧ (∀ b ∈ S1, b ∈ S) ∧ (S.Nodup → S1.Nodup)
 | _, _, _, .nil, j, d, h => by simp at h
 | _, _, _, .cons v d S vs ds Ss h hs, 0, d', h' => by
  simp at h'
  subst h'
  exact ⟨v, S, rfl, h, fun b hb => by simp [hb], fun hn => (List.nodup_append.1 hn).1⟩
 | _, _, _, .cons v d S vs ds Ss h hs, j + 1, d', h' => by
  obtain ⟨v', S1, hv, ht, hS, hn⟩ := hs.get (j := j) (by simpa using h')
  exact ⟨v', S1, by simpa using hv, ht, fun b hb => by simp [hS b hb], fun h => hn (List.nodup_append.1 h).2.1⟩
theorem TrL.take {w : World} {own : Bool} : ∀ {vs : List Value} {ds : List D} {S : List Nat}, TrL w own vs ds S → ∀ n, ∃ S1, TrL w own (vs.take n) (ds.take n) S1 ∧ (∀ b ∈ S1, b ∈ S) ∧ (S.Nodup → S1.Nodup)
 | _, _, _, .nil, n => ⟨[], by simpa using .nil, by simp, by simp⟩
 | _, _, _, .cons v d S vs ds Ss h hs, 0 => ⟨[], .nil, by simp, by simp⟩
 | _, _, _, .cons v d S vs ds Ss h hs, n + 1 => by
  obtain ⟨S1, h1, h2, h3⟩ := hs.take n
  refine ⟨S ++ S1, .cons v d S _ _ S1 h h1, ?_, ?_⟩
  ·intro b hb
   rcases List.mem_append.1 hb with hb | hb
   ·simp [hb]
   ·simp [h2 b hb]
  ·intro hn
   obtain ⟨ha, hb, hc⟩ := List.nodup_append.1 hn
   exact List.nodup_append.2 ⟨ha, h3 hb, fun x hx y hy => hc x hx y (h2 y hy)⟩
theorem TrL.drop {w : World} {own : Bool} : ∀ {vs : List Value} {ds : List D} {S : List Nat}, TrL w own vs ds S → ∀ n, ∃ S1, TrL w own (vs.drop n) (ds.drop n) S1 ∧ (∀ b ∈ S1, b ∈ S) ∧ (S.Nodup → S1.Nodup)
 | _, _, _, .nil, n => ⟨[], by simpa using .nil, by simp, by simp⟩
 | _, _, _, .cons v d S0 vs ds Ss h hs, 0 => ⟨S0 ++ Ss, .cons v d S0 vs ds Ss h hs, fun _ h => h, fun h => h⟩
 | _, _, _, .cons v d S vs ds Ss h hs, n + 1 => by
  obtain ⟨S1, h1, h2, h3⟩ := hs.drop n
  exact ⟨S1, h1, fun b hb => by simp [h2 b hb], fun hn => h3 (List.nodup_append.1 hn).2.1⟩
theorem flat_length {α : Type} {xs : List (List α)} {sz : Nat} (h : ∀ x ∈ xs, x.length = sz) : xs.flatten.length = xs.length * sz := by
 induction xs with
 | nil => simp
 | cons x xs ih =>
  simp only [List.flatten_cons, List.length_append, List.length_cons]
  rw [h x (by simp), ih fun y hy => h y (by simp [hy]), Nat.succ_mul]
  omega
theorem flat_get {α : Type} {xs : List (List α)} {sz : Nat} (h : ∀ x ∈ xs, x.length = sz) : ∀ {i j : Nat} {x : List α}, xs[i]? = some x → j < sz → xs.flatten[i * sz + j]? = x[j]? := by
 induction xs with
 | nil => intro i j x hx; simp at hx
 | cons y ys ih =>
  intro i j x hx hj
  have hy : y.length = sz := h y (by simp)
  rw [List.flatten_cons]
  cases i with
  | zero =>
   simp at hx
   subst hx
   rw [Nat.zero_mul, Nat.zero_add, List.getElem?_append_left (by omega)]
  | succ i =>
   rw [List.getElem?_append_right (by rw [hy, Nat.succ_mul]; omega), hy, show (i + 1) * sz + j - sz = i * sz + j by rw [Nat.succ_mul]; omega]
   exact ih (fun z hz => h z (by simp [hz])) (by simpa using hx) hj
theorem flat_take {α : Type} {xs : List (List α)} {sz : Nat} (h : ∀ x ∈ xs, x.length = sz) (n : Nat) : (xs.take n).flatten = xs.flatten.take (n * sz) := by
 induction xs generalizing n with
 | nil => simp
 | cons y ys ih =>
  cases n with
  | zero => simp
  | succ n =>
   have hy : y.length = sz := h y (by simp)
   rw [List.take_succ_cons, List.flatten_cons, List.flatten_cons, ih (fun z hz => h z (by simp [hz])), List.take_append, hy, Nat.succ_mul, List.take_of_length_le (l := y) (by rw [hy]; omega), show n * sz + sz - sz = n * sz by omega]
theorem flat_drop {α : Type} {xs : List (List α)} {sz : Nat} (h : ∀ x ∈ xs, x.length = sz) (n : Nat) : (xs.drop n).flatten = xs.flatten.drop (n * sz) := by
 induction xs generalizing n with
 | nil => simp
 | cons y ys ih =>
  cases n with
  | zero => simp
  | succ n =>
   have hy : y.length = sz := h y (by simp)
   rw [List.drop_succ_cons, List.flatten_cons, ih (fun z hz => h z (by simp [hz])), List.drop_append, hy, Nat.succ_mul, List.drop_of_length_le (l := y) (by rw [hy]; omega), show n * sz + sz - sz = n * sz by omega, List.nil_append]
end Go.Fs
namespace Go.Fs
open Go.RowKit
inductive AV where
 | d (x : D)
 | z (sz : Nat)
 | r (k : Nat)
 | a (k o : Nat)
 | e (k i o : Nat)
 | m (k ve i o : Nat)
 | q (cs : List D) (o : Nat)
 | g (cs : List AV)
 | f (fn : FuncId) (caps : List AV)
 | t (vs : List AV)
 | mp (k : Nat)
 | x
 | nl
 | bp (k : Nat)
 deriving Inhabited
def scalV : D → Value
 | .b v => .bool v
 | .i k n => .int k n
 | .s v => .string v
 | _ => undef
def mapv : D → Bool
 | .b _ | .i _ _ | .s _ => true
 | _ => false
inductive Ob where
 | row (sz : Nat) (xs : List (List D)) (deep frozen : Bool) (ver : Nat)
 | box (cs : List AV)
 | map (kv : List (ByteArray × D))
 | bld (s : ByteArray)
 | dead
structure St where
 n : Nat
 env : Nat → AV
 heap : Nat → Option Ob
structure GI where
 blk : Nat
 off : Nat
 cap : Nat
 vs : List Value
 sub : List Nat
 deriving Inhabited
mutual
inductive AVR (w : World) (G : Nat → GI) (H : Nat → Option Ob) (Av : Nat → Prop) : Value → AV → Prop
 | d (v : Value) (x : D) (S : List Nat) (h1 : v.oneCell' = true) (h : Tr w false v x S) (hS : ∀ b ∈ S, ¬ Av b) : AVR w G H Av v (.d x)
 | z (sz : Nat) : AVR w G H Av (.slice none 0 0) (.z sz)
 | r (k sz : Nat) (xs : List (List D)) (dp fz : Bool) (ve : Nat) (a : Option Addr) (hk : H k = some (.row sz xs dp fz ve))
  (ha : 0 < (G k).cap → a = some ⟨(G k).blk, (G k).off, none⟩) : AVR w G H Av (.slice a xs.length (G k).cap) (.r k)
 | rd (k : Nat) (v : Value) (hk : H k = some .dead) : AVR w G H Av v (.r k)
 | a (k o : Nat) (cs : List AV) (hk : H k = some (.box cs)) : AVR w G H Av (.pointer (some ⟨(G k).blk, o, none⟩)) (.a k o)
 | ad (k o : Nat) (v : Value) (hk : H k = some .dead) : AVR w G H Av v (.a k o)
 | e (k i o sz : Nat) (xs : List (List D)) (dp fz : Bool) (ve : Nat) (hk : H k = some (.row sz xs dp fz ve)) (hi : i < xs.length) :
  AVR w G H Av (.pointer (some ⟨(G k).blk, (G k).off + i * sz + o, none⟩)) (.e k i o)
 | ed (k i o : Nat) (v : Value) (hk : H k = some .dead) : AVR w G H Av v (.e k i o)
 | m (k i o sz : Nat) (xs : List (List D)) (dp fz : Bool) (ve : Nat) (v : Value) (z : Nat) (ys : List (List D)) (hk : H k = some (.row sz xs dp fz ve)) (hj : xs.flatten[i * sz + o]? = some (.l z ys))
  (hv : (G k).vs[i * sz + o]? = some v) (h1 : v.oneCell' = true) : AVR w G H Av v (.m k ve i o)
 | mo (k i o sz : Nat) (xs : List (List D)) (dp fz : Bool) (ve ve' : Nat) (v : Value) (hk : H k = some (.row sz xs dp fz ve')) (hlt : ve < ve') : AVR w G H Av v (.m k ve i o)
 | md (k ve i o : Nat) (v : Value) (hk : H k = some .dead) : AVR w G H Av v (.m k ve i o)
 | q (g base o : Nat) (cur : Array Value) (el : TypeId) (fr : Nat × Nat) (vs : List Value) (cs : List D) (S : List Nat)
  (hg : w.heap[g]? = some (.cells cur el fr)) (hv : ∀ j v, vs[j]? = some v → cur[base + j]? = some v) (h1 : ∀ v ∈ vs, v.oneCell' = true)
  (h : TrL w false vs cs S) (hb : ¬ Av g) (hS : ∀ b ∈ S, ¬ Av b) : AVR w G H Av (.pointer (some ⟨g, base + o, none⟩)) (.q cs o)
 | g (cs : Array Value) (as : List AV) (h : AVRL w G H Av cs.toList as) : AVR w G H Av (.agg cs) (.g as)
 | f (fn : FuncId) (cs : Array Value) (as : List AV) (h : AVRL w G H Av cs.toList as) : AVR w G H Av (.func (.func fn) #[] cs) (.f fn as)
 | t (vs : Array Value) (as : List AV) (h : AVRL w G H Av vs.toList as) : AVR w G H Av (.tuple vs) (.t as)
 | mp (k : Nat) (kv : List (ByteArray × D)) (hk : H k = some (.map kv)) : AVR w G H Av (.map (some (G k).blk)) (.mp k)
 | mpd (k : Nat) (v : Value) (hk : H k = some .dead) : AVR w G H Av v (.mp k)
 | bp (k : Nat) (s : ByteArray) (hk : H k = some (.bld s)) : AVR w G H Av (.pointer (some ⟨(G k).blk, 0, none⟩)) (.bp k)
 | bpd (k : Nat) (v : Value) (hk : H k = some .dead) : AVR w G H Av v (.bp k)
 | x (v : Value) : AVR w G H Av v .x
inductive AVRL (w : World) (G : Nat → GI) (H : Nat → Option Ob) (Av : Nat → Prop) : List Value → List AV → Prop
 | nil : AVRL w G H Av [] []
 | cons (v : Value) (av : AV) (vs : List Value) (as : List AV) (h : AVR w G H Av v av) (hs : AVRL w G H Av vs as) : AVRL w G H Av (v :: vs) (av :: as)
end
inductive Ob.to (g g' : GI) : Ob → Ob → Prop
 | row (sz : Nat) (xs xs' : List (List D)) (dp fz dp' fz' : Bool) (ve ve' : Nat) (hl : xs'.length = xs.length) (hb : g'.blk = g.blk) (ho : g'.off = g.off) (hc : g'.cap = g.cap)
  (hve : ve < ve' ∨ (ve' = ve ∧ xs' = xs ∧ g'.vs = g.vs)) : Ob.to g g' (.row sz xs dp fz ve) (.row sz xs' dp' fz' ve')
 | box (cs cs' : List AV) (hb : g'.blk = g.blk) : Ob.to g g' (.box cs) (.box cs')
 | map (kv kv' : List (ByteArray × D)) (hb : g'.blk = g.blk) : Ob.to g g' (.map kv) (.map kv')
 | bld (s s' : ByteArray) (hb : g'.blk = g.blk) : Ob.to g g' (.bld s) (.bld s')
 | dead (o : Ob) : Ob.to g g' o .dead
theorem Ob.to.refl (g : GI) (o : Ob) : Ob.to g g o o := by
 cases o with
 | row sz xs dp fz ve => exact .row sz xs xs dp fz dp fz ve ve rfl rfl rfl rfl (.inr ⟨rfl, rfl, rfl⟩)
 | box cs => exact .box cs cs rfl
 | map kv => exact .map kv kv rfl
 | bld s => exact .bld s s rfl
 | dead => exact .dead _
section mono
variable {w w' : World} {G G' : Nat → GI} {H H' : Nat → Option Ob} {Av Av' : Nat → Prop}
theorem AVR.mono_both (hw : ∀ b, b < w.heap.size → ¬ Av b → w'.heap[b]? = w.heap[b]?) (hA : ∀ b, b < w.heap.size → Av' b → Av b)
 (hH : ∀ k o, H k = some o → ∃ o', H' k = some o' ∧ Ob.to (G k) (G' k) o o') :
 (∀ {v : Value} {av : AV}, AVR w G H Av v av → AVR w' G' H' Av' v av) ∧ (∀ {vs : List Value} {as : List AV}, AVRL w G H Av vs as → AVRL w' G' H' Av' vs as) := by
 have key : ∀ {v : Value} {av : AV}, AVR w G H Av v av → AVR w' G' H' Av' v av := by
  intro v av h
  refine AVR.rec (w := w) (G := G) (H := H) (Av := Av) (motive_1 := fun v av _ => AVR w' G' H' Av' v av) (motive_2 := fun vs as _ => AVRL w' G' H' Av' vs as)
   ?_ ?_ ?_ ?_ ?_ ?_ ?_ ?_ ?_ ?_ ?_ ?_ ?_ ?_ ?_ ?_ ?_ ?_ ?_ ?_ ?_ ?_ h
  ·intro v x S h1 h hS
   have hlt := h.lt
   exact .d v x S h1 (h.keep fun b hb => hw b (hlt b hb) (hS b hb)) fun b hb hn => hS b hb (hA b (hlt b hb) hn)
  ·intro sz; exact .z sz
  ·intro k sz xs dp fz ve a hk ha
   obtain ⟨o', ho', hto⟩ := hH k _ hk
   cases hto with
   | row _ _ xs' _ _ dp' fz' _ ve' hle hb ho hc =>
    rw [← hc, ← hle]
    exact .r k sz xs' dp' fz' ve' a ho' (by rw [hb, ho, hc]; exact ha)
   | dead => exact .rd k _ ho'
  ·intro k v hk
   obtain ⟨o', ho', hto⟩ := hH k _ hk
   cases hto with
   | dead => exact .rd k _ ho'
  ·intro k o cs hk
   obtain ⟨o', ho', hto⟩ := hH k _ hk
   cases hto with
   | box _ cs' hb => rw [← hb]; exact .a k o cs' ho'
   | dead => exact .ad k o _ ho'
  ·intro k o v hk
   obtain ⟨o', ho', hto⟩ := hH k _ hk
   cases hto with
   | dead => exact .ad k o _ ho'
  ·intro k i o sz xs dp fz ve hk hi
   obtain ⟨o', ho', hto⟩ := hH k _ hk
   cases hto with
   | row _ _ xs' _ _ dp' fz' _ ve' hle hb ho hc =>
    rw [← hb, ← ho]
    exact .e k i o sz xs' dp' fz' ve' ho' (by omega)
   | dead => exact .ed k i o _ ho'
  ·intro k i o v hk
   obtain ⟨o', ho', hto⟩ := hH k _ hk
   cases hto with
   | dead => exact .ed k i o _ ho'
  ·intro k i o sz xs dp fz ve v z ys hk hj hv h1
   obtain ⟨o', ho', hto⟩ := hH k _ hk
   cases hto with
   | row _ _ xs' _ _ dp' fz' _ ve' hle hb ho hc hve =>
    rcases hve with hlt | ⟨rfl, rfl, hvs⟩
    ·exact .mo k i o sz xs' dp' fz' ve ve' _ ho' hlt
    ·exact .m k i o sz _ dp' fz' _ _ z ys ho' hj (by rw [hvs]; exact hv) h1
   | dead => exact .md k _ i o _ ho'
  ·intro k i o sz xs dp fz ve ve1 v hk hlt
   obtain ⟨o', ho', hto⟩ := hH k _ hk
   cases hto with
   | row _ _ xs' _ _ dp' fz' _ ve' hle hb ho hc hve => exact .mo k i o sz xs' dp' fz' ve ve' _ ho' (by rcases hve with h | ⟨h, _⟩ <;> omega)
   | dead => exact .md k _ i o _ ho'
  ·intro k ve i o v hk
   obtain ⟨o', ho', hto⟩ := hH k _ hk
   cases hto with
   | dead => exact .md k _ i o _ ho'
  ·intro g base o cur el fr vs cs S hg hv h1 h hb hS
   have hlt := h.lt
   have hgl : g < w.heap.size := (Array.getElem?_eq_some_iff.1 hg).1
   exact .q g base o cur el fr vs cs S ((hw g hgl hb).trans hg) hv h1 (h.keep fun b hb => hw b (hlt b hb) (hS b hb)) (fun hn => hb (hA g hgl hn)) fun b hb hn => hS b hb (hA b (hlt b hb) hn)
  ·intro cs as _ ih; exact .g cs as ih
  ·intro fn cs as _ ih; exact .f fn cs as ih
  ·intro vs as _ ih; exact .t vs as ih
  ·intro k kv hk
   obtain ⟨o', ho', hto⟩ := hH k _ hk
   cases hto with
   | map _ kv' hb => rw [← hb]; exact .mp k kv' ho'
   | dead => exact .mpd k _ ho'
  ·intro k v hk
   obtain ⟨o', ho', hto⟩ := hH k _ hk
   cases hto with
   | dead => exact .mpd k _ ho'
  ·intro k s hk
   obtain ⟨o', ho', hto⟩ := hH k _ hk
   cases hto with
   | bld _ s' hb => rw [← hb]; exact .bp k s' ho'
   | dead => exact .bpd k _ ho'
  ·intro k v hk
   obtain ⟨o', ho', hto⟩ := hH k _ hk
   cases hto with
   | dead => exact .bpd k _ ho'
  ·intro v; exact .x v
  ·exact .nil
  ·intro v av vs as _ _ ih ihs; exact .cons v av vs as ih ihs
 refine ⟨key, fun {vs as} h => ?_⟩
 have := key (.t vs.toArray as (by simpa using h))
 cases this with
 | t _ _ h => simpa using h
end mono
theorem AVRL.length {w : World} {G : Nat → GI} {H : Nat → Option Ob} {Av : Nat → Prop} : ∀ {vs : List Value} {as : List AV}, AVRL w G H Av vs as → vs.length = as.length
 | _, _, .nil => rfl
 | _, _, .cons _ _ _ _ _ hs => by simp [hs.length]
theorem AVRL.get {w : World} {G : Nat → GI} {H : Nat → Option Ob} {Av : Nat → Prop} : ∀ {vs : List Value} {as : List AV}, AVRL w G H Av vs as → ∀ {j : Nat} {v : Value} {av : AV}, vs[j]? = some v → as[j]? = some av → AVR w G H Av v av
 | _, _, .nil, j, v, av, h, _ => by simp at h
 | _, _, .cons v av vs as h hs, 0, v', av', h1, h2 => by simp at h1 h2; subst h1 h2; exact h
 | _, _, .cons v av vs as h hs, j + 1, v', av', h1, h2 => hs.get (by simpa using h1) (by simpa using h2)
theorem AVRL.of {w : World} {G : Nat → GI} {H : Nat → Option Ob} {Av : Nat → Prop} : ∀ {vs : List Value} {as : List AV}, vs.length = as.length → (∀ (j : Nat) (v : Value) (av : AV), vs[j]? = some v → as[j]? = some av → AVR w G H Av v av) → AVRL w G H Av vs as
 | [], [], _, _ => .nil
 | v :: vs, av :: as, hl, h => .cons v av vs as (h 0 v av rfl rfl) (AVRL.of (by simpa using hl) fun j v' av' h1 h2 => h (j + 1) v' av' (by simpa using h1) (by simpa using h2))
 | [], _ :: _, hl, _ => by simp at hl
 | _ :: _, [], hl, _ => by simp at hl
theorem AVRL.append {w : World} {G : Nat → GI} {H : Nat → Option Ob} {Av : Nat → Prop} : ∀ {vs : List Value} {as : List AV} {vs' : List Value} {as' : List AV}, AVRL w G H Av vs as → AVRL w G H Av vs' as' → AVRL w G H Av (vs ++ vs') (as ++ as')
 | _, _, _, _, .nil, h => h
 | _, _, _, _, .cons v av vs as h hs, h' => .cons v av _ _ h (hs.append h')
theorem AVRL.set {w : World} {G : Nat → GI} {H : Nat → Option Ob} {Av : Nat → Prop} : ∀ {vs : List Value} {as : List AV}, AVRL w G H Av vs as → ∀ (j : Nat) {v : Value} {av : AV}, AVR w G H Av v av → AVRL w G H Av (vs.set j v) (as.set j av)
 | _, _, .nil, j, v, av, h => .nil
 | _, _, .cons v av vs as h hs, 0, v', av', h' => .cons v' av' vs as h' hs
 | _, _, .cons v av vs as h hs, j + 1, v', av', h' => .cons v av _ _ h (hs.set j h')
theorem AVRL.drop {w : World} {G : Nat → GI} {H : Nat → Option Ob} {Av : Nat → Prop} : ∀ {vs : List Value} {as : List AV}, AVRL w G H Av vs as → ∀ n, AVRL w G H Av (vs.drop n) (as.drop n)
 | _, _, .nil, n => by simpa using .nil
 | _, _, .cons v av vs as h hs, 0 => .cons v av vs as h hs
 | _, _, .cons v av vs as h hs, n + 1 => hs.drop n
theorem AVRL.take {w : World} {G : Nat → GI} {H : Nat → Option Ob} {Av : Nat → Prop} : ∀ {vs : List Value} {as : List AV}, AVRL w G H Av vs as → ∀ n, AVRL w G H Av (vs.take n) (as.take n)
 | _, _, .nil, n => by simpa using .nil
 | _, _, .cons v av vs as h hs, 0 => .nil
 | _, _, .cons v av vs as h hs, n + 1 => .cons v av _ _ h (hs.take n)
def ownOf (g : GI) : Option Ob → List Nat
 | some (.row _ _ dp false _) => if g.cap = 0 then [] else g.blk :: (if dp then g.sub else [])
 | some (.box _) => [g.blk]
 | some (.map _) => [g.blk]
 | some (.bld _) => g.blk :: g.sub
 | _ => []
def Own (G : Nat → GI) (H : Nat → Option Ob) (b : Nat) : Prop := ∃ k, b ∈ ownOf (G k) (H k)
def Ban (F : Nat → Prop) (G : Nat → GI) (H : Nat → Option Ob) (b : Nat) : Prop := Own G H b ∨ F b
structure RowR (w : World) (Av : Nat → Prop) (g : GI) (sz : Nat) (xs : List (List D)) (dp fz : Bool) : Prop where
 cells : 0 < g.cap → ∃ cur e, w.heap[g.blk]? = some (.cells cur e (0, 0)) ∧ g.off + g.cap * sz ≤ cur.size ∧ ∀ j v, g.vs[j]? = some v → cur[g.off + j]? = some v
 cap : xs.length ≤ g.cap
 max : g.cap ≤ maxLen
 len : g.vs.length = xs.length * sz
 one : ∀ v ∈ g.vs, v.oneCell' = true
 uni : ∀ x ∈ xs, x.length = sz
 tr : TrL w dp g.vs xs.flatten g.sub
 nodup : dp = true → g.sub.Nodup
 sub : dp = false ∨ fz = true → ∀ b ∈ g.sub, ¬ Av b
 frz : fz = true → 0 < g.cap → ¬ Av g.blk
structure BoxR (w : World) (G : Nat → GI) (H : Nat → Option Ob) (Av : Nat → Prop) (g : GI) (cs : List AV) : Prop where
 cells : ∃ cur e, w.heap[g.blk]? = some (.cells cur e (0, 0)) ∧ AVRL w G H Av cur.toList cs ∧ ∀ v ∈ cur.toList, v.oneCell' = true
structure MapR (w : World) (g : GI) (kv : List (ByteArray × D)) : Prop where
 cells : ∃ es clock, w.heap[g.blk]? = some (.map es clock) ∧ es.toList.map (fun e => (e.key, e.val)) = kv.map fun x => (Value.string x.1, scalV x.2)
 ok : ∀ x ∈ kv, mapv x.2 = true
structure BldR (w : World) (g : GI) (s : ByteArray) : Prop where
 ex : ∃ p v, (p = .pointer none ∨ p = .pointer (some ⟨g.blk, 0, none⟩)) ∧ w.heap[g.blk]? = some (.cells #[p, v] bT (0, 0)) ∧ w.ownsRowF 0 bE 1 v s.size (Lib.strCells s) ∧ g.sub = v.ownBlock.toList
theorem BldR.sub_lt {w : World} {g : GI} {s : ByteArray} (h : BldR w g s) : ∀ b ∈ g.sub, b < w.heap.size := by
 intro b hb
 obtain ⟨p, v, _, _, hv, e⟩ := h
 rw [e] at hb
 exact (hv.lt b (by simpa using hb)).2
theorem BldR.keep {w w' : World} {g : GI} {s : ByteArray} (h : BldR w g s) (hk : ∀ b ∈ g.blk :: g.sub, w'.heap[b]? = w.heap[b]?) : BldR w' g s := by
 obtain ⟨p, v, h1, h2, h3, h4⟩ := h
 refine ⟨p, v, h1, (hk _ (by simp)).trans h2, ⟨h3.1, ?_⟩, h4⟩
 rcases h3.2 with hn | ⟨b, cap, cur, fz, rfl, hb, hg, rest⟩
 ·exact .inl hn
 ·exact .inr ⟨b, cap, cur, fz, rfl, hb, (hk b (by rw [h4]; simp [Value.ownBlock])).trans hg, rest⟩
def ObR (w : World) (G : Nat → GI) (H : Nat → Option Ob) (Av : Nat → Prop) (g : GI) : Ob → Prop
 | .row sz xs dp fz _ => RowR w Av g sz xs dp fz
 | .box cs => BoxR w G H Av g cs
 | .map kv => MapR w g kv
 | .bld s => BldR w g s
 | .dead => True
structure Rest (w w' : World) : Prop where
 os : w'.os = w.os
 tape : w'.tape = w.tape
 output : w'.output = w.output
 size : w.heap.size ≤ w'.heap.size
theorem Rest.refl (w : World) : Rest w w := ⟨rfl, rfl, rfl, Nat.le_refl _⟩
theorem Rest.trans {a b c : World} (h : Rest a b) (k : Rest b c) : Rest a c := ⟨k.os.trans h.os, k.tape.trans h.tape, k.output.trans h.output, Nat.le_trans h.size k.size⟩
structure Ctx where
 base : Nat
 w0 : World
 F : Nat → Prop
 M : Nat → Prop
 av : Value
 aa : AV
 kn : KnW w0 M
 kb : nG ≤ base
 kF : ∀ b, F b → nG ≤ b
structure RelG (B : Ctx) (G : Nat → GI) (s : St) (a : Act) (w : World) : Prop where
 obj : ∀ k o, s.heap k = some o → ObR w G s.heap (Ban B.F G s.heap) (G k) o
 env : ∀ t, AVR w G s.heap (Ban B.F G s.heap) (a.tmps.getD t undef) (s.env t)
 size : a.tmps.size = s.n
 defers : a.defers = []
 nodup : ∀ k, (ownOf (G k) (s.heap k)).Nodup
 disj : ∀ k k' b, b ∈ ownOf (G k) (s.heap k) → b ∈ ownOf (G k') (s.heap k') → k = k'
 ge : ∀ k b, b ∈ ownOf (G k) (s.heap k) → B.base ≤ b ∨ B.M b
 rest : Rest B.w0 w
 below : ∀ b, b < B.base → ¬ B.M b → w.heap[b]? = B.w0.heap[b]?
 ban : ∀ b, B.F b → b < B.base ∧ ¬ B.M b
 base : B.base ≤ w.heap.size
 anc : AVR w G s.heap (Ban B.F G s.heap) B.av B.aa
theorem RelG.knG {B : Ctx} {G : Nat → GI} {s : St} {a : Act} {w : World} (h : RelG B G s a w) : ∀ b, b < nG → w.heap[b]? = B.w0.heap[b]? := fun b hb => by
 refine h.below b (Nat.lt_of_lt_of_le hb B.kb) fun hm => ?_
 have := B.kn.ge b hm
 omega
theorem RelG.knO {B : Ctx} {G : Nat → GI} {s : St} {a : Act} {w : World} (h : RelG B G s a w) {k b : Nat} (hb : b ∈ ownOf (G k) (s.heap k)) : nG ≤ b := by
 rcases h.ge k b hb with h1 | h1
 ·exact Nat.le_trans B.kb h1
 ·exact B.kn.ge b h1
theorem RelG.knB {B : Ctx} {G : Nat → GI} {s : St} {a : Act} {w : World} (h : RelG B G s a w) {b : Nat} (hb : Ban B.F G s.heap b) : nG ≤ b := by
 rcases hb with ⟨k, hk⟩ | hf
 ·exact h.knO hk
 ·exact B.kF b hf
theorem RelG.kn {B : Ctx} {G : Nat → GI} {s : St} {a : Act} {w : World} (h : RelG B G s a w) : Kn w := B.kn.kn.keep h.knG
theorem RelG.knW {B : Ctx} {G : Nat → GI} {s : St} {a : Act} {w : World} (h : RelG B G s a w) {S : List Nat} (hS : ∀ b ∈ S, ∃ k, b ∈ ownOf (G k) (s.heap k)) : KnW w (· ∈ S) :=
 ⟨h.kn, Nat.le_trans B.kb h.base, fun b hb => by obtain ⟨k, hk⟩ := hS b hb; exact h.knO hk⟩
theorem RowR.void {w : World} {Av : Nat → Prop} {g : GI} {sz : Nat} {xs : List (List D)} {dp fz : Bool} (h : RowR w Av g sz xs dp fz) (hc : g.cap = 0) : xs = [] ∧ g.vs = [] ∧ g.sub = [] := by
 have hx : xs = [] := List.eq_nil_of_length_eq_zero (by have := h.cap; omega)
 subst hx
 have hv : g.vs = [] := List.eq_nil_of_length_eq_zero (by have := h.len; simpa using this)
 refine ⟨rfl, hv, ?_⟩
 have := h.tr
 rw [hv] at this
 generalize hs : g.sub = S at this
 cases this
 rfl
theorem RowR.mkVoid (w : World) (Av : Nat → Prop) (blk off sz : Nat) (dp fz : Bool) : RowR w Av { blk := blk, off := off, cap := 0, vs := [], sub := [] } sz [] dp fz :=
 ⟨fun h => absurd h (Nat.lt_irrefl 0), Nat.le_refl _, Nat.zero_le _, by simp, by simp, by simp, .nil, fun _ => List.nodup_nil, by simp, fun _ h => absurd h (Nat.lt_irrefl 0)⟩
theorem ObR.lt {w : World} {G : Nat → GI} {H : Nat → Option Ob} {Av : Nat → Prop} {g : GI} {o : Ob} (h : ObR w G H Av g o) : ∀ b, b ∈ ownOf g (some o) → b < w.heap.size := by
 intro b hb
 cases o with
 | row sz xs dp fz ve =>
  by_cases hc : g.cap = 0
  ·cases fz <;> simp [ownOf, hc] at hb
  obtain ⟨cur, e, hg, _⟩ := h.cells (by omega)
  have hlt := (Array.getElem?_eq_some_iff.1 hg).1
  cases fz with
  | true => simp [ownOf] at hb
  | false =>
   cases dp with
   | true =>
    simp [ownOf, hc] at hb
    rcases hb with rfl | hb
    ·exact hlt
    ·exact h.tr.lt b hb
   | false => simp [ownOf, hc] at hb; subst hb; exact hlt
 | box cs =>
  obtain ⟨cur, e, hg, _⟩ := h.cells
  simp [ownOf] at hb
  subst hb
  exact (Array.getElem?_eq_some_iff.1 hg).1
 | map kv =>
  obtain ⟨es, clock, hg, _⟩ := h.cells
  simp [ownOf] at hb
  subst hb
  exact (Array.getElem?_eq_some_iff.1 hg).1
 | bld s =>
  have hs := BldR.sub_lt h
  obtain ⟨p, v, _, hg, _, _⟩ := h
  rcases List.mem_cons.1 hb with rfl | hb
  ·exact (Array.getElem?_eq_some_iff.1 hg).1
  ·exact hs b hb
 | dead => simp [ownOf] at hb
theorem RelG.noF {B : Ctx} {G : Nat → GI} {s : St} {a : Act} {w : World} (h : RelG B G s a w) {k b : Nat} (hb : b ∈ ownOf (G k) (s.heap k)) : ¬ B.F b := by
 intro hf
 have h1 := h.ban b hf
 rcases h.ge k b hb with h2 | h2
 ·omega
 ·exact h1.2 h2
theorem RelG.own_lt {B : Ctx} {G : Nat → GI} {s : St} {a : Act} {w : World} (h : RelG B G s a w) {b : Nat} (hb : Own G s.heap b) : b < w.heap.size := by
 obtain ⟨k, hk⟩ := hb
 cases ho : s.heap k with
 | none => rw [ho] at hk; simp [ownOf] at hk
 | some o => rw [ho] at hk; exact (h.obj k o ho).lt b hk
theorem ObR.mono {w w' : World} {G G' : Nat → GI} {H H' : Nat → Option Ob} {Av Av' : Nat → Prop} {g : GI} {o : Ob} (h : ObR w G H Av g o)
 (hw : ∀ b, b < w.heap.size → ¬ Av b → w'.heap[b]? = w.heap[b]?) (hA : ∀ b, b < w.heap.size → Av' b → Av b)
 (hH : ∀ k o, H k = some o → ∃ o', H' k = some o' ∧ Ob.to (G k) (G' k) o o')
 (hown : ∀ b, b ∈ ownOf g (some o) → w'.heap[b]? = w.heap[b]?) : ObR w' G' H' Av' g o := by
 cases o with
 | row sz xs dp fz ve =>
  by_cases hc : g.cap = 0
  ·obtain ⟨rfl, hv, hs⟩ := RowR.void h hc
   obtain ⟨h1, h2, h3, h4, h5, h6, h7, h8, h9, h10⟩ := h
   exact ⟨fun hp => by omega, h2, h3, h4, h5, h6, by rw [hv, hs]; exact .nil, h8, fun _ b hb => by rw [hs] at hb; simp at hb, fun _ hp => by omega⟩
  obtain ⟨hcells, h2, h3, h4, h5, h6, h7, h8, h9, h10⟩ := h
  obtain ⟨cur, e, hg, hcap, hv⟩ := hcells (by omega)
  have hlt := (Array.getElem?_eq_some_iff.1 hg).1
  have hblk : w'.heap[g.blk]? = w.heap[g.blk]? := by
   cases fz with
   | true => exact hw _ hlt (h10 rfl (by omega))
   | false => exact hown _ (by simp [ownOf, hc])
  have hsub : ∀ b ∈ g.sub, w'.heap[b]? = w.heap[b]? := by
   intro b hb
   cases fz with
   | true => exact hw _ (h7.lt b hb) (h9 (.inr rfl) b hb)
   | false =>
    cases dp with
    | true => exact hown _ (by simp [ownOf, hc, hb])
    | false => exact hw _ (h7.lt b hb) (h9 (.inl rfl) b hb)
  exact ⟨fun _ => ⟨cur, e, hblk.trans hg, hcap, hv⟩, h2, h3, h4, h5, h6, h7.keep hsub, h8, fun hd b hb hn => h9 hd b hb (hA b (h7.lt b hb) hn), fun hf hp hn => h10 hf hp (hA _ hlt hn)⟩
 | box cs =>
  obtain ⟨cur, e, hg, hr, h1⟩ := h
  exact ⟨⟨cur, e, (hown _ (by simp [ownOf])).trans hg, (AVR.mono_both hw hA hH).2 hr, h1⟩⟩
 | map kv =>
  obtain ⟨⟨es, clock, hg, hr⟩, ho⟩ := h
  exact ⟨⟨es, clock, (hown _ (by simp [ownOf])).trans hg, hr⟩, ho⟩
 | bld s => exact BldR.keep h hown
 | dead => trivial
end Go.Fs
namespace Go.Fs
open Go.RowKit
def upd {α : Type} (f : Nat → α) (k : Nat) (x : α) : Nat → α := fun i => if i = k then x else f i
@[simp] theorem upd_same {α : Type} (f : Nat → α) (k : Nat) (x : α) : upd f k x k = x := by simp [upd]
theorem upd_ne {α : Type} (f : Nat → α) {k i : Nat} (x : α) (h : i ≠ k) : upd f k x i = f i := by simp [upd, h]
theorem mem_ownRow {g : GI} {sz : Nat} {xs : List (List D)} {dp : Bool} {ve b : Nat} (h : b ∈ ownOf g (some (.row sz xs dp false ve))) : g.cap ≠ 0 ∧ (b = g.blk ∨ (dp = true ∧ b ∈ g.sub)) := by
 by_cases hc : g.cap = 0
 ·simp [ownOf, hc] at h
 ·refine ⟨hc, ?_⟩
  cases dp with
  | false => simp [ownOf, hc] at h; exact .inl h
  | true => simp [ownOf, hc] at h; exact h.imp id fun h => ⟨rfl, h⟩
theorem nodup_ownRow {g : GI} {sz : Nat} {xs : List (List D)} {dp : Bool} {ve : Nat} (h : dp = true → g.blk ∉ g.sub ∧ g.sub.Nodup) : (ownOf g (some (.row sz xs dp false ve))).Nodup := by
 by_cases hc : g.cap = 0
 ·simp [ownOf, hc]
 ·cases dp with
  | false => simp [ownOf, hc]
  | true => simp only [ownOf, hc, if_false, if_true]; exact List.nodup_cons.2 (h rfl)
section step
variable {B : Ctx} {G G' : Nat → GI} {s : St} {a : Act} {w w' : World}
theorem RelG.put (h : RelG B G s a w) {v : Value} {av : AV} (d : Nat) (hd : d < s.n) (hv : AVR w G s.heap (Ban B.F G s.heap) v av) :
 RelG B G { s with env := upd s.env d av } (a.put (some d) v) w := by
 obtain ⟨h1, h2, h3, h4, h5, h6, h7, h8, h9, h10, h11, h12⟩ := h
 refine ⟨h1, fun t => ?_, by simpa [Act.put] using h3, by simpa [Act.put] using h4, h5, h6, h7, h8, h9, h10, h11, h12⟩
 show AVR w G s.heap _ ((a.put (some d) v).tmps.getD t undef) (upd s.env d av t)
 by_cases ht : t = d
 ·subst ht
  rw [upd_same]
  have : (a.put (some t) v).tmps.getD t undef = v := by
   simp [Act.put, Array.getD_eq_getD_getElem?, Array.getElem?_setIfInBounds_self_of_lt (h3.symm ▸ hd)]
  rw [this]
  exact hv
 ·rw [upd_ne _ _ ht]
  have : (a.put (some d) v).tmps.getD t undef = a.tmps.getD t undef := by
   simp [Act.put, Array.getD_eq_getD_getElem?, Array.getElem?_setIfInBounds_ne (Ne.symm ht)]
  rw [this]
  exact h2 t
theorem RelG.step (h : RelG B G s a w) (H' : Nat → Option Ob) (T : Nat → Prop) (hr : Rest w w')
 (hw : ∀ b, b < w.heap.size → (∀ k, T k → b ∉ ownOf (G k) (s.heap k)) → w'.heap[b]? = w.heap[b]?)
 (hk : ∀ k, ¬ T k → H' k = s.heap k ∧ G' k = G k)
 (hT : ∀ k o, T k → s.heap k = some o → ∃ o', H' k = some o' ∧ Ob.to (G k) (G' k) o o')
 (hsub : ∀ k, T k → ∀ b ∈ ownOf (G' k) (H' k), (∃ k0, T k0 ∧ b ∈ ownOf (G k0) (s.heap k0)) ∨ w.heap.size ≤ b)
 (hnd : ∀ k, T k → (ownOf (G' k) (H' k)).Nodup)
 (hdis : ∀ k k', T k → T k' → ∀ b, b ∈ ownOf (G' k) (H' k) → b ∈ ownOf (G' k') (H' k') → k = k')
 (hobj : ∀ k o, T k → H' k = some o → ObR w' G' H' (Ban B.F G' H') (G' k) o) : RelG B G' { s with heap := H' } a w' := by
 have hw1 : ∀ b, b < w.heap.size → ¬ Ban B.F G s.heap b → w'.heap[b]? = w.heap[b]? := fun b hb hn => hw b hb fun k _ hm => hn (.inl ⟨k, hm⟩)
 have hA : ∀ b, b < w.heap.size → Ban B.F G' H' b → Ban B.F G s.heap b := by
  rintro b hb (⟨k, hm⟩ | hf)
  case inr => exact .inr hf
  left
  by_cases ht : T k
  ·rcases hsub k ht b hm with ⟨k0, _, hm0⟩ | hge
   ·exact ⟨k0, hm0⟩
   ·omega
  ·obtain ⟨e1, e2⟩ := hk k ht
   rw [e1, e2] at hm
   exact ⟨k, hm⟩
 have hH : ∀ k o, s.heap k = some o → ∃ o', H' k = some o' ∧ Ob.to (G k) (G' k) o o' := by
  intro k o ho
  by_cases ht : T k
  ·exact hT k o ht ho
  ·obtain ⟨e1, e2⟩ := hk k ht
   exact ⟨o, e1.trans ho, e2 ▸ Ob.to.refl _ _⟩
 have hkw : ∀ k, ¬ T k → ∀ b ∈ ownOf (G k) (s.heap k), w'.heap[b]? = w.heap[b]? := by
  intro k ht b hb
  refine hw b (h.own_lt ⟨k, hb⟩) fun k0 ht0 hm => ?_
  have := h.disj k k0 b hb hm
  exact ht (this ▸ ht0)
 have hM := AVR.mono_both (w := w) (w' := w') (G := G) (G' := G') (H := s.heap) (H' := H') (Av := Ban B.F G s.heap) (Av' := Ban B.F G' H') hw1 hA hH
 refine ⟨?_, fun t => hM.1 (h.env t), h.size, h.defers, ?_, ?_, ?_, h.rest.trans hr, ?_, h.ban, Nat.le_trans h.base hr.size, hM.1 h.anc⟩
 ·intro k o ho
  by_cases ht : T k
  ·exact hobj k o ht ho
  ·obtain ⟨e1, e2⟩ := hk k ht
   have ho' : s.heap k = some o := e1 ▸ ho
   rw [e2]
   exact (h.obj k o ho').mono hw1 hA hH fun b hb => hkw k ht b (by rw [ho']; exact hb)
 ·intro k
  by_cases ht : T k
  ·exact hnd k ht
  ·obtain ⟨e1, e2⟩ := hk k ht
   show (ownOf (G' k) (H' k)).Nodup
   rw [e1, e2]
   exact h.nodup k
 ·intro k k' b hb hb'
  have hb : b ∈ ownOf (G' k) (H' k) := hb
  have hb' : b ∈ ownOf (G' k') (H' k') := hb'
  by_cases ht : T k <;> by_cases ht' : T k'
  ·exact hdis k k' ht ht' b hb hb'
  ·obtain ⟨e1, e2⟩ := hk k' ht'
   rw [e1, e2] at hb'
   rcases hsub k ht b hb with ⟨k0, h0, hm⟩ | hge
   ·exact absurd (h.disj k0 k' b hm hb' ▸ h0) ht'
   ·have := h.own_lt ⟨k', hb'⟩; omega
  ·obtain ⟨e1, e2⟩ := hk k ht
   rw [e1, e2] at hb
   rcases hsub k' ht' b hb' with ⟨k0, h0, hm⟩ | hge
   ·exact absurd (h.disj k0 k b hm hb ▸ h0) ht
   ·have := h.own_lt ⟨k, hb⟩; omega
  ·obtain ⟨e1, e2⟩ := hk k ht
   obtain ⟨e3, e4⟩ := hk k' ht'
   rw [e1, e2] at hb
   rw [e3, e4] at hb'
   exact h.disj k k' b hb hb'
 ·intro k b hb
  have hb : b ∈ ownOf (G' k) (H' k) := hb
  by_cases ht : T k
  ·rcases hsub k ht b hb with ⟨k0, h0, hm⟩ | hge
   ·exact h.ge k0 b hm
   ·exact .inl (Nat.le_trans h.base hge)
  ·obtain ⟨e1, e2⟩ := hk k ht
   rw [e1, e2] at hb
   exact h.ge k b hb
 ·intro b hb hM
  rw [← h.below b hb hM]
  refine hw b (Nat.lt_of_lt_of_le hb h.base) fun k _ hm => ?_
  rcases h.ge k b hm with h1 | h1
  ·omega
  ·exact hM h1
theorem RelG.grow (h : RelG B G s a w) (hr : Rest w w') (hw : ∀ b, b < w.heap.size → w'.heap[b]? = w.heap[b]?) : RelG B G s a w' :=
 h.step (w' := w') (G' := G) s.heap (fun _ => False) hr (fun b hb _ => hw b hb) (fun k _ => ⟨rfl, rfl⟩) (fun _ _ hf => hf.elim) (fun _ hf => hf.elim) (fun _ hf => hf.elim) (fun _ _ hf => hf.elim) (fun _ _ hf => hf.elim)
theorem RelG.new (h : RelG B G s a w) (k : Nat) (gi : GI) (o : Ob) (hk : s.heap k = none) (hr : Rest w w') (hw : ∀ b, b < w.heap.size → w'.heap[b]? = w.heap[b]?)
 (hnew : ∀ b ∈ ownOf gi (some o), w.heap.size ≤ b) (hnd : (ownOf gi (some o)).Nodup)
 (hobj : ObR w' (upd G k gi) (upd s.heap k (some o)) (Ban B.F (upd G k gi) (upd s.heap k (some o))) gi o) :
 RelG B (upd G k gi) { s with heap := upd s.heap k (some o) } a w' := by
 refine h.step (w' := w') (G' := upd G k gi) (upd s.heap k (some o)) (fun i => i = k) hr (fun b hb _ => hw b hb) (fun i hi => ⟨upd_ne _ _ hi, upd_ne _ _ hi⟩) ?_ ?_ ?_ ?_ ?_
 ·rintro i o' rfl ho; rw [hk] at ho; cases ho
 ·rintro i rfl b hb; rw [upd_same, upd_same] at hb; exact .inr (hnew b hb)
 ·rintro i rfl; rw [upd_same, upd_same]; exact hnd
 ·rintro i j rfl rfl _ _ _; rfl
 ·rintro i o' rfl ho
  rw [upd_same] at ho ⊢
  cases ho
  exact hobj
theorem own_new {G : Nat → GI} {H : Nat → Option Ob} {k : Nat} {gi : GI} {o : Ob} {b : Nat} (hb : Own (upd G k gi) (upd H k (some o)) b) : Own G H b ∨ b ∈ ownOf gi (some o) := by
 obtain ⟨i, hi⟩ := hb
 by_cases e : i = k
 ·subst e; rw [upd_same, upd_same] at hi; exact .inr hi
 ·rw [upd_ne _ _ e, upd_ne _ _ e] at hi; exact .inl ⟨i, hi⟩
theorem ban_new {B : Ctx} {G : Nat → GI} {H : Nat → Option Ob} {k : Nat} {gi : GI} {o : Ob} {b : Nat} (hb : Ban B.F (upd G k gi) (upd H k (some o)) b) : Ban B.F G H b ∨ b ∈ ownOf gi (some o) := by
 rcases hb with hb | hb
 ·exact (own_new hb).imp .inl id
 ·exact .inl (.inr hb)
theorem RelG.kill (h : RelG B G s a w) (k : Nat) (hk : s.heap k ≠ none) : RelG B G { s with heap := upd s.heap k (some .dead) } a w := by
 refine h.step (w' := w) (G' := G) (upd s.heap k (some .dead)) (fun i => i = k) (.refl w) (fun _ _ _ => rfl) (fun i hi => ⟨upd_ne _ _ hi, rfl⟩) ?_ ?_ ?_ ?_ ?_
 ·rintro i o' rfl ho; exact ⟨.dead, upd_same .., .dead _⟩
 ·rintro i rfl b hb; rw [upd_same] at hb; simp [ownOf] at hb
 ·rintro i rfl; rw [upd_same]; simp [ownOf]
 ·rintro i j rfl rfl _ _ _; rfl
 ·rintro i o' rfl ho
  rw [upd_same] at ho
  cases ho
  trivial
end step
end Go.Fs
namespace Go.Fs
open Go.RowKit
inductive TK where
 | bool | str | int (k : IntKind) | slice (e : TypeId) | strct (fs : List (Nat × TypeId)) | ref | other | arr (n : Nat) (e : TypeId) | iface
structure TI where
 size : Nat
 bytes : Nat
 kind : TK
 zero : List AV
def zeroOK : List Value → List AV → Bool
 | [], [] => true
 | v :: vs, av :: avs => (match v, av with
  | .bool a, .d (.b b) => a == b
  | .int k n, .d (.i k' n') => k == k' && n == n'
  | .string s, .d (.s s') => s.size == 0 && s'.size == 0
  | .slice none 0 0, .z _ => true
  | .pointer none, .d .n => true
  | .nilFunc, .d .n => true
  | .nilIface, .d (.e b) => !b
  | _, _ => false) && zeroOK vs avs
 | _, _ => false
def kindOK (P : Program) (d : Option TypeDesc) : TK → Bool
 | .bool => match d with | some .bool => true | _ => false
 | .str => match d with | some .string => true | _ => false
 | .int k => match d with | some (.int k') => k == k' | _ => false
 | .slice e => match d with | some (.slice e') => e == e' | _ => false
 | .strct fs => match d with | some (.struct fields) => (fields.toList.map fun f => (f.offset, f.type)) == fs && fields.toList.all (fun f => P.cellsOf f.type != 0) | _ => false
 | .ref => match d with | some (.pointer _) => true | some (.func ..) => true | some (.interface _) => true | some (.map ..) => true | _ => false
 | .other => true
 | .arr n e => match d with | some (.array n' e') => n == n' && e == e' | _ => false
 | .iface => match d with | some (.interface _) => true | _ => false
def tiOK (P : Program) (t : TypeId) (ti : TI) : Bool :=
 match P.info? t with
 | some i => (ti.zero.length == ti.size) && i.size == ti.size && i.bytes == ti.bytes && kindOK P (P.underlying t) ti.kind && (match i.zero with | some z => zeroOK z.cells.toList ti.zero | none => false)
 | none => false
structure Tab where
 types : List (Nat × TI)
 maps : List (Nat × TypeId × TypeId × D) := []
 bld : Bool := false
def zmap : Value → D → Bool
 | .int k n, .i k' n' => k == k' && n == n'
 | .bool b, .b b' => b == b'
 | .string s, .s s' => s.size == 0 && s'.size == 0
 | _, _ => false
def mapOK (P : Program) (t k e : TypeId) (z : D) : Bool :=
 (match P.info? e with | some i => (match i.zero with | some z' => zmap z' z | none => false) | none => false) &&
 (match P.underlying t with | some (.map k' e') => k == k' && e == e' | _ => false) && (match P.underlying k with | some .string => true | _ => false)
def bzV : Value → Bool
 | .agg cs => match cs.toList with
  | [.pointer none, .slice none 0 0] => true
  | _ => false
 | _ => false
def bzOK (P : Program) : Bool := match P.info? bT with
 | some i => (match i.zero with | some z => bzV z | none => false)
 | none => false
def Tab.ok (P : Program) (T : Tab) : Bool := (T.types.all fun x => tiOK P x.1 x.2) && (T.maps.all fun x => mapOK P x.1 x.2.1 x.2.2.1 x.2.2.2) && (!T.bld || bzOK P)
def Tab.mp (T : Tab) (t : TypeId) : Option (TypeId × TypeId × D) := T.maps.lookup t
def Tab.ti (T : Tab) (t : TypeId) : Option TI := T.types.lookup t
theorem Tab.ti_ok {P : Program} {T : Tab} (h : T.ok P = true) {t : TypeId} {ti : TI} (ht : T.ti t = some ti) : tiOK P t ti = true := by
 have hm : (t, ti) ∈ T.types := by
  unfold Tab.ti at ht
  generalize T.types = l at ht
  induction l with
  | nil => simp at ht
  | cons x l ih =>
   rw [List.lookup_cons] at ht
   by_cases e : t == x.1
   ·simp [e] at ht
    have : t = x.1 := by simpa using e
    subst this; subst ht
    simp
   ·simp [e] at ht
    simp [ih ht]
 simp only [Tab.ok, Bool.and_eq_true] at h
 have := List.all_eq_true.1 h.1.1 _ hm
 simpa using this
structure TIOK (P : Program) (t : TypeId) (ti : TI) : Prop where
 info : ∃ i z, P.info? t = some i ∧ i.size = ti.size ∧ i.bytes = ti.bytes ∧ i.zero = some z ∧ zeroOK z.cells.toList ti.zero = true
 kind : kindOK P (P.underlying t) ti.kind = true
 zlen : ti.zero.length = ti.size
theorem tiok {P : Program} {T : Tab} (h : T.ok P = true) {t : TypeId} {ti : TI} (ht : T.ti t = some ti) : TIOK P t ti := by
 have := Tab.ti_ok h ht
 unfold tiOK at this
 cases hi : P.info? t with
 | none => simp [hi] at this
 | some i =>
  cases hz : i.zero with
  | none => simp [hi, hz] at this
  | some z =>
   simp [hi, hz] at this
   exact ⟨⟨i, z, hi, this.1.1.1.2, this.1.1.2, hz, this.2⟩, this.1.2, this.1.1.1.1⟩
section runs
variable {P : Program} {t : TypeId} {ti : TI} (w : World)
theorem TIOK.sizeOf (h : TIOK P t ti) : (sizeOf t).run P w = .ok ti.size w := by
 obtain ⟨i, z, hi, hs, _⟩ := h.info
 simp [Go.sizeOf, typeInfo, hi, hs]
theorem TIOK.cells (h : TIOK P t ti) : P.cellsOf t = ti.size := by
 obtain ⟨i, z, hi, hs, _⟩ := h.info
 simp [Program.cellsOf, hi, hs]
theorem TIOK.zeroValue (h : TIOK P t ti) : ∃ z, (zeroValue t).run P w = .ok z w ∧ zeroOK z.cells.toList ti.zero = true := by
 obtain ⟨i, z, hi, hs, hb, hz, hz'⟩ := h.info
 exact ⟨z, by simp [Go.zeroValue, typeInfo, hi, hz], hz'⟩
theorem TIOK.slice {e : TypeId} (h : TIOK P t ti) (hk : ti.kind = .slice e) : P.underlying t = some (.slice e) := by
 have := h.kind
 rw [hk] at this
 simp only [kindOK] at this
 split at this
 ·rename_i e' he; rw [he]; simp at this; rw [this]
 ·simp at this
theorem TIOK.arr {n : Nat} {e : TypeId} (h : TIOK P t ti) (hk : ti.kind = .arr n e) : P.underlying t = some (.array n e) := by
 have := h.kind
 rw [hk] at this
 simp only [kindOK] at this
 split at this
 ·rename_i n' e' he
  simp at this
  rw [he, this.1, this.2]
 ·simp at this
theorem TIOK.iface (h : TIOK P t ti) (hk : ti.kind = .iface) : ∃ ms, P.underlying t = some (.interface ms) := by
 have := h.kind
 rw [hk] at this
 simp only [kindOK] at this
 split at this
 ·rename_i ms he; exact ⟨ms, he⟩
 ·simp at this
theorem TIOK.strct {fs : List (Nat × TypeId)} (h : TIOK P t ti) (hk : ti.kind = .strct fs) : ∃ fields, P.underlying t = some (.struct fields) ∧ fields.toList.map (fun f => (f.offset, f.type)) = fs ∧ ∀ f ∈ fields.toList, P.cellsOf f.type ≠ 0 := by
 have := h.kind
 rw [hk] at this
 simp only [kindOK] at this
 split at this
 ·rename_i fields he
  simp at this
  refine ⟨fields, he, this.1, fun f hf => ?_⟩
  obtain ⟨i, hi, rfl⟩ := Array.mem_iff_getElem.1 (Array.mem_toList_iff.1 hf)
  exact this.2 i hi
 ·simp at this
theorem TIOK.bool (h : TIOK P t ti) (hk : ti.kind = .bool) : P.underlying t = some .bool := by
 have := h.kind
 rw [hk] at this
 simp only [kindOK] at this
 split at this
 ·assumption
 ·simp at this
theorem TIOK.str (h : TIOK P t ti) (hk : ti.kind = .str) : P.underlying t = some .string := by
 have := h.kind
 rw [hk] at this
 simp only [kindOK] at this
 split at this
 ·assumption
 ·simp at this
theorem TIOK.int {k : IntKind} (h : TIOK P t ti) (hk : ti.kind = .int k) : P.underlying t = some (.int k) := by
 have := h.kind
 rw [hk] at this
 simp only [kindOK] at this
 split at this
 ·rename_i k' he; rw [he]; simp at this; rw [this]
 ·simp at this
def TK.agg : TK → Option Bool
 | .strct _ => some true
 | .other => none
 | .arr _ _ => none
 | _ => some false
theorem TIOK.isAgg (h : TIOK P t ti) {b : Bool} (hk : ti.kind.agg = some b) : (isAgg t).run P w = .ok b w := by
 have := h.kind
 cases hq : ti.kind with
 | other => rw [hq] at hk; simp [TK.agg] at hk
 | arr n e => rw [hq] at hk; simp [TK.agg] at hk
 | iface =>
  rw [hq] at hk; simp [TK.agg] at hk; subst hk
  obtain ⟨ms, e⟩ := h.iface hq
  simp [Go.isAgg, run_underlying e]
 | strct fs =>
  rw [hq] at hk; simp [TK.agg] at hk; subst hk
  obtain ⟨fields, hu, _⟩ := h.strct hq
  simp [Go.isAgg, run_underlying hu]
 | bool => rw [hq] at hk; simp [TK.agg] at hk; subst hk; simp [Go.isAgg, run_underlying (h.bool hq)]
 | str => rw [hq] at hk; simp [TK.agg] at hk; subst hk; simp [Go.isAgg, run_underlying (h.str hq)]
 | int k => rw [hq] at hk; simp [TK.agg] at hk; subst hk; simp [Go.isAgg, run_underlying (h.int hq)]
 | slice e => rw [hq] at hk; simp [TK.agg] at hk; subst hk; simp [Go.isAgg, run_underlying (h.slice hq)]
 | ref =>
  rw [hq] at hk this; simp [TK.agg] at hk; subst hk
  simp only [kindOK] at this
  split at this
  ·rename_i e; simp [Go.isAgg, run_underlying e]
  ·rename_i e; simp [Go.isAgg, run_underlying e]
  ·rename_i e; simp [Go.isAgg, run_underlying e]
  ·rename_i e; simp [Go.isAgg, run_underlying e]
  ·simp at this
end runs
def constAV : Value → AV
 | .bool b => .d (.b b)
 | .int k n => .d (.i k n)
 | .string s => .d (.s s)
 | .slice none 0 0 => .z 0
 | .pointer none => .d .n
 | .nilFunc => .d .n
 | .nilIface => .d (.e false)
 | _ => .x
def St.ev (s : St) : Operand → AV
 | .tmp t => s.env t
 | .const v => constAV v
 | .func f => .f f []
 | .global g => match gT g with | some ws => .d (.p (strD ws)) | none => .x
section base
variable {w : World} {G : Nat → GI} {H : Nat → Option Ob} {Av : Nat → Prop}
theorem AVR.sc {v : Value} {x : D} (h1 : v.oneCell' = true) (h : Tr w false v x []) : AVR w G H Av v (.d x) := .d v x [] h1 h (by simp)
theorem constAV_ok (v : Value) : AVR w G H Av v (constAV v) := by
 unfold constAV
 split
 ·exact .sc rfl (.b _)
 ·exact .sc rfl (.i _ _)
 ·exact .sc rfl (.s _)
 ·exact .z _
 ·exact .sc rfl .np
 ·exact .sc rfl .nf
 ·exact .sc rfl .ni
 ·exact .x _
theorem zeroOK_ok : ∀ {vs : List Value} {avs : List AV}, zeroOK vs avs = true → AVRL w G H Av vs avs ∧ ∀ v ∈ vs, v.oneCell' = true
 | [], [], _ => ⟨.nil, by simp⟩
 | v :: vs, av :: avs, h => by
  simp only [zeroOK, Bool.and_eq_true] at h
  obtain ⟨h1, h2⟩ := h
  obtain ⟨i1, i2⟩ := zeroOK_ok h2
  have key : AVR w G H Av v av ∧ v.oneCell' = true := by
   split at h1
   ·rename_i a b; have : a = b := by simpa using h1
    subst this; exact ⟨.sc rfl (.b _), rfl⟩
   ·rename_i k n k' n'
    simp at h1
    obtain ⟨rfl, rfl⟩ := h1
    exact ⟨.sc rfl (.i _ _), rfl⟩
   ·rename_i s s'
    simp at h1
    have e1 : s = s' := by
     rw [h1.1, h1.2]
    subst e1
    exact ⟨.sc rfl (.s _), rfl⟩
   ·exact ⟨.z _, rfl⟩
   ·exact ⟨.sc rfl .np, rfl⟩
   ·exact ⟨.sc rfl .nf, rfl⟩
   ·rename_i b; simp at h1; subst h1; exact ⟨.sc rfl .ni, rfl⟩
   ·simp at h1
  exact ⟨.cons v av vs avs key.1 i1, by
   intro u hu
   rcases List.mem_cons.1 hu with rfl | hu
   ·exact key.2
   ·exact i2 u hu⟩
 | [], _ :: _, h => by simp [zeroOK] at h
 | _ :: _, [], h => by simp [zeroOK] at h
end base
theorem strD_tr {w : World} : ∀ ws : List ByteArray, TrL w false (ws.map Value.string) (strD ws) []
 | [] => .nil
 | x :: ws => .cons _ _ [] _ _ [] (.s x) (strD_tr ws)
theorem RelG.ev {B : Ctx} {G : Nat → GI} {s : St} {a : Act} {w : World} (h : RelG B G s a w) (x : Operand) : AVR w G s.heap (Ban B.F G s.heap) (a.eval x) (s.ev x) := by
 cases x with
 | tmp t => exact h.env t
 | const v => exact constAV_ok v
 | func f => exact .f f #[] [] .nil
 | global g =>
  show AVR w G s.heap _ (.pointer (some ⟨g, 0, none⟩)) (match gT g with | some ws => .d (.p (strD ws)) | none => .x)
  split
  ·rename_i ws e
   obtain ⟨cur, el, fr, hg, hv⟩ := h.kn.tab g ws e
   have hlt := gT_lt e
   refine .d _ _ [g] rfl (.p g 0 cur el fr (ws.map Value.string) (strD ws) [] hg (fun j v hj => by rw [Nat.zero_add]; exact hv j v hj) ?_ (by simp) (strD_tr ws)) fun b hb hn => ?_
   ·intro v hv
    obtain ⟨x, _, rfl⟩ := List.mem_map.1 hv
    rfl
   ·simp only [List.mem_singleton] at hb
    subst hb
    have := h.knB hn
    omega
  ·exact .x _
def cat (a b : ByteArray) : Option ByteArray := if a.size + b.size ≤ 9223372036854775807 then some (a ++ b) else none
def binD (op : BinOp) : D → D → Option D
 | .i k a, .i k' b => if k = k' then match op with
  | .add => some (.i k (k.wrap (a + b)))
  | .sub => some (.i k (k.wrap (a - b)))
  | .mul => some (.i k (k.wrap (a * b)))
  | .quo => if b = 0 then none else some (.i k (k.wrap (a.tdiv b)))
  | .rem => if b = 0 then none else some (.i k (a.tmod b))
  | .eql => some (.b (decide (a = b)))
  | .neq => some (.b (!decide (a = b)))
  | .lss => some (.b (decide (a < b)))
  | .leq => some (.b (decide (a ≤ b)))
  | .gtr => some (.b (decide (b < a)))
  | .geq => some (.b (decide (b ≤ a)))
  | _ => none else none
 | .s a, .s b => match op with
  | .add => (cat a b).map .s
  | .eql => some (.b (decide (a = b)))
  | .neq => some (.b (!decide (a = b)))
  | .lss => some (.b (Op.bytesLess a.data.toList b.data.toList))
  | .leq => some (.b (Op.bytesLess a.data.toList b.data.toList || decide (a = b)))
  | .gtr => some (.b (!(Op.bytesLess a.data.toList b.data.toList || decide (a = b))))
  | .geq => some (.b (!Op.bytesLess a.data.toList b.data.toList))
  | _ => none
 | .b a, .b b => match op with
  | .eql => some (.b (a == b))
  | .neq => some (.b (!(a == b)))
  | _ => none
 | _, _ => none
theorem strEq (a b : ByteArray) : (a.toList == b.toList) = decide (a = b) := by
 rw [ByteArray.toList_eq, ByteArray.toList_eq, Bool.eq_iff_iff]
 simp
 constructor
 ·intro h
  obtain ⟨a⟩ := a
  obtain ⟨b⟩ := b
  simp_all
 ·rintro rfl; rfl
theorem Tr.inv_i {w : World} {own : Bool} {v : Value} {k : IntKind} {n : Int} {S : List Nat} (h : Tr w own v (.i k n) S) : v = .int k n ∧ S = [] := by cases h; exact ⟨rfl, rfl⟩
theorem Tr.inv_b {w : World} {own : Bool} {v : Value} {x : Bool} {S : List Nat} (h : Tr w own v (.b x) S) : v = .bool x ∧ S = [] := by cases h; exact ⟨rfl, rfl⟩
theorem Tr.inv_s {w : World} {own : Bool} {v : Value} {x : ByteArray} {S : List Nat} (h : Tr w own v (.s x) S) : v = .string x ∧ S = [] := by cases h; exact ⟨rfl, rfl⟩
def scal : D → Bool
 | .b _ | .i _ _ | .s _ | .n | .e _ => true
 | _ => false
theorem scal_tr {w : World} {own : Bool} {v : Value} {x : D} {S : List Nat} (h : Tr w own v x S) (hs : scal x = true) : S = [] ∧ (∀ w' own', Tr w' own' v x []) ∧ v.oneCell' = true := by
 cases h <;> simp [scal] at hs
 ·exact ⟨rfl, fun _ _ => .b _, rfl⟩
 ·exact ⟨rfl, fun _ _ => .i _ _, rfl⟩
 ·exact ⟨rfl, fun _ _ => .s _, rfl⟩
 ·exact ⟨rfl, fun _ _ => .np, rfl⟩
 ·exact ⟨rfl, fun _ _ => .nf, rfl⟩
 ·exact ⟨rfl, fun _ _ => .ni, rfl⟩
 ·exact ⟨rfl, fun _ _ => .ei _ _, rfl⟩
theorem binD_ok {P : Program} {w : World} {own own' : Bool} {op : BinOp} {t : TypeId} {x y : Operand} {v u : Value} {a b d : D} {S S' : List Nat}
 (hv : Tr w own v a S) (hu : Tr w own' u b S') (h : binD op a b = some d) (hb : (∃ p, a = .b p) → P.underlying t = some .bool) :
 ∃ r, (do eqGuard op t x y v u; binOp op t v u : Sem Value).run P w = .ok r w ∧ scal d = true ∧ Tr w false r d [] := by
 unfold binD at h
 split at h
 ·rename_i k p k' q
  obtain ⟨rfl, _⟩ := hv.inv_i
  obtain ⟨rfl, _⟩ := hu.inv_i
  split at h
  ·rename_i e
   subst e
   have hq : (eqGuard op t x y (.int k p) (.int k q)).run P w = .ok () w := by cases op <;> simp [eqGuard]
   rw [Sem.run_bind, hq, Result.andThen_ok]
   cases op <;> simp only [Option.some.injEq, reduceCtorEq, Option.ite_none_left_eq_some] at h <;> first
    | (subst h; exact ⟨_, by simp [binOp, Op.intArith], rfl, .i _ _⟩)
    | (obtain ⟨hq0, rfl⟩ := h; exact ⟨_, by simp [binOp, Op.intDiv, hq0], rfl, .i _ _⟩)
    | (subst h; exact ⟨_, by simp only [binOp, Op.intCmp, ne_eq, not_true, if_false]; rfl, rfl, .b _⟩)
  ·cases h
 ·rename_i p q
  obtain ⟨rfl, _⟩ := hv.inv_s
  obtain ⟨rfl, _⟩ := hu.inv_s
  have hq : (eqGuard op t x y (.string p) (.string q)).run P w = .ok () w := by cases op <;> simp [eqGuard]
  rw [Sem.run_bind, hq, Result.andThen_ok]
  cases op <;> simp only [Option.some.injEq, reduceCtorEq, Option.map_eq_some_iff, cat, Option.ite_none_right_eq_some] at h <;> first
   | (obtain ⟨_, ⟨hs, rfl⟩, rfl⟩ := h
      refine ⟨.string (p ++ q), ?_, rfl, .s _⟩
      have : ¬ ((p.size + q.size : Nat) : Int) > IntKind.i64.max := by
       have : IntKind.i64.max = 9223372036854775807 := by decide
       rw [this]; omega
      simp only [binOp, Op.stringOp]
      rw [if_neg this]; rfl)
   | (subst h; exact ⟨_, by simp only [binOp, Op.stringOp, ← strEq, ByteArray.toList_eq]; rfl, rfl, .b _⟩)
 ·rename_i p q
  obtain ⟨rfl, _⟩ := hv.inv_b
  obtain ⟨rfl, _⟩ := hu.inv_b
  have hq : (eqGuard op t x y (.bool p) (.bool q)).run P w = .ok () w := by cases op <;> simp [eqGuard]
  rw [Sem.run_bind, hq, Result.andThen_ok]
  have ht := hb ⟨p, rfl⟩
  cases op <;> simp only [Option.some.injEq, reduceCtorEq] at h <;> (subst h; exact ⟨_, by simp [binOp, run_equal_bool (w := w) t p q ht], rfl, .b _⟩)
 ·cases h
end Go.Fs
namespace Go.Fs
open Go.RowKit
theorem add_at (g o n : Nat) : (⟨g, o, none⟩ : Addr).add n = ⟨g, o + n, none⟩ := by unfold Addr.add; split <;> simp_all
theorem cell_at {w : World} {g o : Nat} {cur : Array Value} {e : TypeId} {fr : Nat × Nat} (h : w.heap[g]? = some (.cells cur e fr)) : w.cell? ⟨g, o, none⟩ = cur[o]? := by simp [World.cell?, h]
theorem TrL.split {w : World} {own : Bool} : ∀ {vs : List Value} {ds : List D} {S : List Nat}, TrL w own vs ds S → ∀ n, ∃ S1 S2, TrL w own (vs.take n) (ds.take n) S1 ∧ TrL w own (vs.drop n) (ds.drop n) S2 ∧ S = S1 ++ S2
 | _, _, _, .nil, n => ⟨[], [], by simpa using .nil, by simpa using .nil, rfl⟩
 | _, _, _, .cons v d S vs ds Ss h hs, 0 => ⟨[], S ++ Ss, .nil, .cons v d S vs ds Ss h hs, rfl⟩
 | _, _, _, .cons v d S vs ds Ss h hs, n + 1 => by
  obtain ⟨S1, S2, h1, h2, rfl⟩ := hs.split n
  exact ⟨S ++ S1, S2, .cons v d S _ _ S1 h h1, h2, by simp⟩
theorem TrL.splice {w : World} {own : Bool} {vs : List Value} {ds : List D} {S : List Nat} (h : TrL w own vs ds S) {ms : List Value} {es : List D} {S' : List Nat} (h' : TrL w own ms es S') (n : Nat) :
 ∃ S'', TrL w own (vs.take n ++ ms ++ vs.drop (n + ms.length)) (ds.take n ++ es ++ ds.drop (n + es.length)) S'' ∧ (∀ b ∈ S'', b ∈ S ∨ b ∈ S') ∧ (S.Nodup → S'.Nodup → (∀ b ∈ S, b ∉ S') → S''.Nodup) := by
 obtain ⟨S1, S2, h1, h2, rfl⟩ := h.split n
 obtain ⟨S3, S4, h3, h4, rfl⟩ := h2.split ms.length
 have hl := h'.length
 refine ⟨S1 ++ S' ++ S4, ?_, ?_, ?_⟩
 ·have := (h1.append h').append h4
  rw [List.drop_drop, List.drop_drop, hl] at this
  rw [hl]
  exact this
 ·intro b hb
  simp at hb ⊢
  rcases hb with hb | hb | hb <;> simp [hb]
 ·intro hn hn' hd
  rw [List.nodup_append] at hn
  obtain ⟨n1, n2, n3⟩ := hn
  rw [List.nodup_append] at n2
  obtain ⟨n4, n5, n6⟩ := n2
  rw [List.append_assoc, List.nodup_append]
  refine ⟨n1, ?_, ?_⟩
  ·rw [List.nodup_append]
   exact ⟨hn', n5, fun x hx y hy e => hd y (by simp [hy]) (e ▸ hx)⟩
  ·intro x hx y hy e
   subst e
   rcases List.mem_append.1 hy with hy | hy
   ·exact hd x (by simp [hx]) hy
   ·exact n3 x hx x (by simp [hy]) rfl
theorem seg_splice {vs ms : List Value} {cur : Array Value} {o n : Nat} (hv : ∀ j v, vs[j]? = some v → cur[o + j]? = some v) (hn : n + ms.length ≤ vs.length) (hc : o + vs.length ≤ cur.size) :
 ∀ j v, (vs.take n ++ ms ++ vs.drop (n + ms.length))[j]? = some v → (List.take (o + n) cur.toList ++ ms ++ List.drop (o + n + ms.length) cur.toList).toArray[o + j]? = some v := by
 intro j v h
 have e1 : (List.take (o + n) cur.toList).length = o + n := by rw [List.length_take, Array.length_toList]; omega
 have e2 : (vs.take n).length = n := by rw [List.length_take]; omega
 simp only [List.getElem?_toArray]
 by_cases h1 : j < n
 ·rw [List.append_assoc, List.getElem?_append_left (by omega)] at h
  rw [List.append_assoc, List.getElem?_append_left (by omega)]
  rw [List.getElem?_take_of_lt (by omega)] at h ⊢
  simpa using hv j v h
 ·by_cases h2 : j < n + ms.length
  ·rw [List.append_assoc, List.getElem?_append_right (by omega), e2, List.getElem?_append_left (by omega)] at h
   rw [List.append_assoc, List.getElem?_append_right (by omega), e1, List.getElem?_append_left (by omega), show o + j - (o + n) = j - n by omega]
   exact h
  ·rw [List.getElem?_append_right (by rw [List.length_append]; omega), List.length_append, e2, List.getElem?_drop] at h
   rw [List.getElem?_append_right (by rw [List.length_append]; omega), List.length_append, e1, List.getElem?_drop]
   rw [show n + ms.length + (j - (n + ms.length)) = j by omega] at h
   rw [show o + n + ms.length + (o + j - (o + n + ms.length)) = o + j by omega]
   simpa using hv j v h
theorem flat_splice {α : Type} {xs : List (List α)} {sz : Nat} (h : ∀ x ∈ xs, x.length = sz) {i o : Nat} {x es : List α} (hi : xs[i]? = some x) (ho : o + es.length ≤ sz) :
 (xs.set i (x.take o ++ es ++ x.drop (o + es.length))).flatten = xs.flatten.take (i * sz + o) ++ es ++ xs.flatten.drop (i * sz + o + es.length) := by
 induction xs generalizing i with
 | nil => simp at hi
 | cons y ys ih =>
  have hy : y.length = sz := h y (by simp)
  cases i with
  | zero =>
   simp at hi
   subst hi
   simp only [List.set_cons_zero, List.flatten_cons, Nat.zero_mul, Nat.zero_add]
   rw [List.take_append_of_le_length (by omega), List.drop_append_of_le_length (by omega)]
   simp
  | succ i =>
   simp only [List.getElem?_cons_succ] at hi
   simp only [List.set_cons_succ, List.flatten_cons]
   rw [ih (fun z hz => h z (by simp [hz])) hi, Nat.succ_mul]
   rw [show i * sz + sz + o = y.length + (i * sz + o) by omega, List.take_length_add_append, show y.length + (i * sz + o) + es.length = y.length + (i * sz + o + es.length) by omega, List.drop_length_add_append]
   simp
def moveC (H : Nat → Option Ob) : AV → Option (D × Bool × (Nat → Option Ob))
 | .d x => some (x, scal x, H)
 | .z sz => some (.l sz [], true, H)
 | .r k => match H k with
  | some (.row sz xs dp fz _) => some (.l sz xs, dp && !fz, if fz then H else upd H k (some .dead))
  | _ => none
 | _ => none
def moveCs (H : Nat → Option Ob) : List AV → Option (List D × Bool × (Nat → Option Ob))
 | [] => some ([], true, H)
 | av :: avs => (moveC H av).bind fun x => (moveCs x.2.2 avs).bind fun y => some (x.1 :: y.1, x.2.1 && y.2.1, y.2.2)
section rel
variable {B : Ctx} {G : Nat → GI} {s : St} {a : Act} {w : World}
theorem RowR.window {Av : Nat → Prop} {g : GI} {sz : Nat} {xs : List (List D)} {dp fz : Bool} (h : RowR w Av g sz xs dp fz) {off len : Nat} {ad : Option Addr} (hl : off + len ≤ xs.length)
 (ha : off < g.cap → ad = some ⟨g.blk, g.off + off * sz, none⟩) : ∃ S, Tr w dp (.slice ad len (g.cap - off)) (.l sz ((xs.drop off).take len)) S ∧ (∀ b ∈ S, g.cap ≠ 0 ∧ b ∈ g.blk :: g.sub) ∧ (dp = true → g.blk ∉ g.sub → S.Nodup) := by
 obtain ⟨hcells, h2, h3, h4, h5, h6, h7, h8, h9, h10⟩ := h
 by_cases hoff : off < g.cap
 ·obtain ⟨cur, e, hg, hcap, hv⟩ := hcells (by omega)
  have hle : ((xs.drop off).take len).length = len := by rw [List.length_take, List.length_drop]; omega
  have hm : (off + len) * sz ≤ g.vs.length := by rw [h4]; exact Nat.mul_le_mul_right _ hl
  have hadd : (off + len) * sz = off * sz + len * sz := Nat.add_mul ..
  obtain ⟨S1, t1, t2, t3⟩ := h7.drop (off * sz)
  obtain ⟨S2, t4, t5, t6⟩ := t1.take (len * sz)
  have hfl : ((xs.drop off).take len).flatten = (xs.flatten.drop (off * sz)).take (len * sz) := by
   rw [flat_take (fun x hx => h6 x (List.mem_of_mem_drop hx)), flat_drop h6]
  have hcs : (g.cap - off) * sz + off * sz = g.cap * sz := by rw [← Nat.add_mul]; congr 1; omega
  refine ⟨g.blk :: S2, ?_, ?_, ?_⟩
  ·rw [ha hoff]
   have := Tr.l (own := dp) g.blk (g.off + off * sz) (g.cap - off) sz cur e (0, 0) ((g.vs.drop (off * sz)).take (len * sz)) ((xs.drop off).take len) S2 hg (by omega) (by omega)
    (by rw [List.length_take, List.length_drop, hle]; omega) (fun j v hj => by
      have hj' : j < len * sz := by
       rcases Nat.lt_or_ge j (len * sz) with h | h
       ·exact h
       ·rw [List.getElem?_eq_none (by rw [List.length_take]; omega)] at hj; cases hj
      rw [List.getElem?_take_of_lt hj', List.getElem?_drop] at hj
      rw [Nat.add_assoc]
      exact hv _ _ hj)
    (fun v hv' => h5 v (List.mem_of_mem_drop (List.mem_of_mem_take hv'))) (fun x hx => h6 x (List.mem_of_mem_drop (List.mem_of_mem_take hx)))
    (fun _ => ⟨rfl, by omega⟩) (by rw [hfl]; exact t4)
   rw [hle] at this
   exact this
  ·intro b hb
   refine ⟨by omega, ?_⟩
   rcases List.mem_cons.1 hb with rfl | hb
   ·simp
   ·simp [t2 b (t5 b hb)]
  ·intro hd hn
   exact List.nodup_cons.2 ⟨fun hm => hn (t2 _ (t5 _ hm)), t6 (t3 (h8 hd))⟩
 ·obtain rfl : len = 0 := by omega
  refine ⟨[], ?_, by simp, fun _ _ => List.nodup_nil⟩
  rw [List.take_zero]
  exact .z ad _ sz (fun _ => by omega)
theorem RowR.whole {Av : Nat → Prop} {g : GI} {sz : Nat} {xs : List (List D)} {dp fz : Bool} (h : RowR w Av g sz xs dp fz) {ad : Option Addr}
 (ha : 0 < g.cap → ad = some ⟨g.blk, g.off, none⟩) : ∃ S, Tr w dp (.slice ad xs.length g.cap) (.l sz xs) S ∧ (∀ b ∈ S, g.cap ≠ 0 ∧ b ∈ g.blk :: g.sub) ∧ (dp = true → g.blk ∉ g.sub → S.Nodup) := by
 obtain ⟨S, h1, h2, h3⟩ := h.window (off := 0) (len := xs.length) (ad := ad) (by omega) (by simpa using ha)
 exact ⟨S, by simpa using h1, h2, h3⟩
theorem AVR.kill {v : Value} {av : AV} (h : AVR w G s.heap (Ban B.F G s.heap) v av) (k : Nat) (hk : s.heap k ≠ none) :
 AVR w G (upd s.heap k (some .dead)) (Ban B.F G (upd s.heap k (some .dead))) v av := by
 refine (AVR.mono_both (w := w) (w' := w) (G := G) (G' := G) (fun _ _ _ => rfl) ?_ ?_).1 h
 ·rintro b _ (⟨i, hi⟩ | hf)
  ·by_cases e : i = k
   ·subst e; rw [upd_same] at hi; simp [ownOf] at hi
   ·rw [upd_ne _ _ e] at hi; exact .inl ⟨i, hi⟩
  ·exact .inr hf
 ·intro i o ho
  by_cases e : i = k
  ·subst e; exact ⟨.dead, upd_same .., .dead _⟩
  ·exact ⟨o, by rw [upd_ne _ _ e]; exact ho, Ob.to.refl _ _⟩
theorem own_kill {k b : Nat} (h : Own G (upd s.heap k (some .dead)) b) : Own G s.heap b ∧ ∃ i, i ≠ k ∧ b ∈ ownOf (G i) (s.heap i) := by
 obtain ⟨i, hi⟩ := h
 by_cases e : i = k
 ·subst e; rw [upd_same] at hi; simp [ownOf] at hi
 ·rw [upd_ne _ _ e] at hi; exact ⟨⟨i, hi⟩, i, e, hi⟩
structure Moved (B : Ctx) (G : Nat → GI) (s : St) (a : Act) (w : World) (H' : Nat → Option Ob) : Prop where
 rel : RelG B G { s with heap := H' } a w
 avr : ∀ {v : Value} {av : AV}, AVR w G s.heap (Ban B.F G s.heap) v av → AVR w G H' (Ban B.F G H') v av
 own : ∀ b, Own G H' b → Own G s.heap b
 keys : ∀ k, H' k = s.heap k ∨ (s.heap k ≠ none ∧ H' k = some .dead)
theorem Moved.ban {H' : Nat → Option Ob} (M : Moved B G s a w H') {b : Nat} (hb : Ban B.F G H' b) : Ban B.F G s.heap b := hb.imp (M.own b) id
theorem Moved.refl (h : RelG B G s a w) : Moved B G s a w s.heap := ⟨h, fun h => h, fun _ h => h, fun _ => .inl rfl⟩
theorem moveC_ok (h : RelG B G s a w) {v : Value} {av : AV} (hv : AVR w G s.heap (Ban B.F G s.heap) v av) {d : D} {f : Bool} {H' : Nat → Option Ob} (hm : moveC s.heap av = some (d, f, H')) :
 Moved B G s a w H' ∧ ∃ S, Tr w f v d S ∧ v.oneCell' = true ∧ (∀ b ∈ S, ¬ Ban B.F G H' b) ∧ (f = true → S.Nodup ∧ ∀ b ∈ S, Own G s.heap b) := by
 cases hv with
 | d v x S h1 ht hS =>
  simp only [moveC, Option.some.injEq, Prod.mk.injEq] at hm
  obtain ⟨rfl, rfl, rfl⟩ := hm
  refine ⟨.refl h, ?_⟩
  cases hsc : scal x with
  | false => exact ⟨S, ht, h1, hS, by simp⟩
  | true =>
   obtain ⟨rfl, hall, _⟩ := scal_tr ht hsc
   exact ⟨[], hall w true, h1, by simp, fun _ => ⟨List.nodup_nil, by simp⟩⟩
 | z sz =>
  simp only [moveC, Option.some.injEq, Prod.mk.injEq] at hm
  obtain ⟨rfl, rfl, rfl⟩ := hm
  exact ⟨.refl h, [], .z none 0 sz (fun _ => rfl), rfl, by simp, fun _ => ⟨List.nodup_nil, by simp⟩⟩
 | r k sz xs dp fz ve ad hk ha =>
  simp only [moveC, hk, Option.some.injEq, Prod.mk.injEq] at hm
  obtain ⟨rfl, rfl, rfl⟩ := hm
  have hR : RowR w (Ban B.F G s.heap) (G k) sz xs dp fz := h.obj k _ hk
  obtain ⟨S, t1, t2, t3⟩ := hR.whole ha
  cases fz with
  | true =>
   refine ⟨.refl h, S, by simpa using t1.shared, rfl, ?_, by simp⟩
   intro b hb
   obtain ⟨hc, hb⟩ := t2 b hb
   rcases List.mem_cons.1 hb with rfl | hb
   ·exact hR.frz rfl (by omega)
   ·exact hR.sub (.inr rfl) b hb
  | false =>
   have hne : s.heap k ≠ none := by rw [hk]; simp
   have hM : Moved B G s a w (upd s.heap k (some .dead)) := ⟨h.kill k hne, fun hv => hv.kill k hne, fun b hb => (own_kill hb).1, fun i => by
    by_cases e : i = k
    ·subst e; exact .inr ⟨hne, upd_same ..⟩
    ·exact .inl (upd_ne _ _ e)⟩
   refine ⟨by simpa using hM, S, by simpa using t1, rfl, ?_, ?_⟩
   ·intro b hb
    obtain ⟨hc, hb'⟩ := t2 b hb
    simp only [Bool.false_eq_true, if_false]
    intro hn
    rcases hn with hn | hn
    case inr =>
     have key : b ∈ ownOf (G k) (s.heap k) → False := fun hm => h.noF hm hn
     rw [hk] at key
     cases dp with
     | true => exact key (by simpa [ownOf, hc] using hb')
     | false =>
      rcases List.mem_cons.1 hb' with rfl | hb'
      ·exact key (by simp [ownOf, hc])
      ·exact hR.sub (.inl rfl) b hb' (.inr hn)
    obtain ⟨ho, i, hi, hmem⟩ := own_kill hn
    have key : b ∈ ownOf (G k) (s.heap k) → False := fun hm => hi (h.disj i k b hmem hm)
    rw [hk] at key
    cases dp with
    | true => exact key (by simpa [ownOf, hc] using hb')
    | false =>
     rcases List.mem_cons.1 hb' with rfl | hb'
     ·exact key (by simp [ownOf, hc])
     ·exact hR.sub (.inl rfl) b hb' (.inl ho)
   ·intro hf
    have hd : dp = true := by simpa using hf
    subst hd
    by_cases hc : (G k).cap = 0
    ·have : S = [] := List.eq_nil_iff_forall_not_mem.2 fun b hb => (t2 b hb).1 hc
     subst this
     exact ⟨List.nodup_nil, by simp⟩
    have hnd := h.nodup k
    rw [hk] at hnd
    simp only [ownOf, if_true, hc, if_false] at hnd
    refine ⟨t3 rfl (List.nodup_cons.1 hnd).1, fun b hb => ⟨k, ?_⟩⟩
    rw [hk]
    simpa [ownOf, hc] using (t2 b hb).2
 | rd k v hk => simp [moveC, hk] at hm
 | a => simp [moveC] at hm
 | ad => simp [moveC] at hm
 | e => simp [moveC] at hm
 | m => simp [moveC] at hm
 | mo => simp [moveC] at hm
 | md => simp [moveC] at hm
 | ed => simp [moveC] at hm
 | q => simp [moveC] at hm
 | g => simp [moveC] at hm
 | f => simp [moveC] at hm
 | t => simp [moveC] at hm
 | mp => simp [moveC] at hm
 | mpd => simp [moveC] at hm
 | bp => simp [moveC] at hm
 | bpd => simp [moveC] at hm
 | x => simp [moveC] at hm
theorem Moved.trans {H1 H2 : Nat → Option Ob} (h1 : Moved B G s a w H1) (h2 : Moved B G { s with heap := H1 } a w H2) : Moved B G s a w H2 :=
 ⟨h2.rel, fun h => h2.avr (h1.avr h), fun b hb => h1.own b (h2.own b hb), fun k => by
  rcases h1.keys k with e1 | ⟨n1, e1⟩ <;> rcases h2.keys k with e2 | ⟨n2, e2⟩
  ·exact .inl (e2.trans e1)
  ·exact .inr ⟨by rw [← e1]; exact n2, e2⟩
  ·exact .inr ⟨n1, e2.trans e1⟩
  ·exact .inr ⟨n1, e2⟩⟩
theorem moveCs_ok : ∀ {s : St} (h : RelG B G s a w) {vs : List Value} {avs : List AV} (hv : AVRL w G s.heap (Ban B.F G s.heap) vs avs) {ds : List D} {f : Bool} {H' : Nat → Option Ob} (hm : moveCs s.heap avs = some (ds, f, H')),
 Moved B G s a w H' ∧ ∃ S, TrL w f vs ds S ∧ (∀ v ∈ vs, v.oneCell' = true) ∧ (∀ b ∈ S, ¬ Ban B.F G H' b) ∧ (f = true → S.Nodup ∧ ∀ b ∈ S, Own G s.heap b) := by
 intro s h vs avs hv
 induction avs generalizing s vs with
 | nil =>
  intro ds f H' hm
  cases hv
  simp only [moveCs, Option.some.injEq, Prod.mk.injEq] at hm
  obtain ⟨rfl, rfl, rfl⟩ := hm
  exact ⟨.refl h, [], .nil, by simp, by simp, fun _ => ⟨List.nodup_nil, by simp⟩⟩
 | cons av avs ih =>
  intro ds f H' hm
  cases hv with
  | cons v _ vs _ hv hvs =>
   simp only [moveCs, Option.bind_eq_some_iff] at hm
   obtain ⟨⟨d1, f1, H1⟩, m1, ⟨d2, f2, H2⟩, m2, hm⟩ := hm
   simp only [Option.some.injEq, Prod.mk.injEq] at hm
   obtain ⟨rfl, rfl, rfl⟩ := hm
   obtain ⟨M1, S1, t1, o1, n1, w1⟩ := moveC_ok h hv m1
   have hvs1 : AVRL w G H1 (Ban B.F G H1) vs avs := by
    have := M1.avr (.t vs.toArray avs (by simpa using hvs))
    cases this with
    | t _ _ h => simpa using h
   obtain ⟨M2, S2, t2, o2, n2, w2⟩ := ih M1.rel hvs1 m2
   refine ⟨M1.trans M2, S1 ++ S2, ?_, ?_, ?_, ?_⟩
   ·by_cases e : (f1 && f2) = true
    ·rw [e]
     simp at e
     rw [e.1] at t1
     rw [e.2] at t2
     exact .cons _ _ _ _ _ _ t1 t2
    ·rw [Bool.not_eq_true] at e
     rw [e]
     exact .cons _ _ _ _ _ _ t1.shared t2.shared
   ·intro u hu
    rcases List.mem_cons.1 hu with rfl | hu
    ·exact o1
    ·exact o2 u hu
   ·intro b hb hn
    rcases List.mem_append.1 hb with hb | hb
    ·exact n1 b hb (M2.ban hn)
    ·exact n2 b hb hn
   ·intro e
    simp at e
    obtain ⟨a1, a2⟩ := w1 e.1
    obtain ⟨b1, b2⟩ := w2 e.2
    refine ⟨List.nodup_append.2 ⟨a1, b1, fun x hx y hy e => ?_⟩, fun b hb => ?_⟩
    ·subst e
     exact n1 x hx (.inl (b2 x hy))
    ·rcases List.mem_append.1 hb with hb | hb
     ·exact a2 b hb
     ·exact M1.own b (b2 b hb)
end rel
end Go.Fs
namespace Go.Fs
open Go.RowKit
def pack (ag : Bool) (cs : List AV) : AV := if ag then .g cs else cs.headD .x
def mCell (k ve i o : Nat) : D → Option AV
 | .l _ _ => some (.m k ve i o)
 | c => if scal c then some (.d c) else none
def mCells (k ve i : Nat) : Nat → List D → Option (List AV)
 | _, [] => some []
 | o, c :: cs => (mCell k ve i o c).bind fun a => (mCells k ve i (o + 1) cs).map (a :: ·)
def opLoad (T : Tab) (H : Nat → Option Ob) (ty : TypeId) (p : AV) : Option AV :=
 (T.ti ty).bind fun ti => ti.kind.agg.bind fun ag => if ag = true ∨ ti.size = 1 then match p with
 | .a k o => match H k with
  | some (.box cs) => if o + ti.size ≤ cs.length then some (pack ag ((cs.drop o).take ti.size)) else none
  | _ => none
 | .q cs o => if o + ti.size ≤ cs.length then some (pack ag (((cs.drop o).take ti.size).map .d)) else none
 | .d (.p cs) => if ti.size ≤ cs.length then some (pack ag ((cs.take ti.size).map .d)) else none
 | .e k i o => match H k with
  | some (.row sz xs dp fz ve) => if o + ti.size ≤ sz then
   (if (dp && !fz) = true then (mCells k ve i o (((xs.getD i []).drop o).take ti.size)).map (pack ag) else some (pack ag ((((xs.getD i []).drop o).take ti.size).map .d)))
   else none
  | _ => none
 | _ => none else none
def demote1 (H : Nat → Option Ob) : AV → Option (AV × (Nat → Option Ob))
 | .m k ve i o => match H k with
  | some (.row sz xs dp fz ve') => if ve = ve' ∧ i < xs.length ∧ o < sz then some (.d ((xs.getD i []).getD o .u), if (dp && !fz) = true then upd H k (some (.row sz xs dp true ve')) else H) else none
  | _ => none
 | av => some (av, H)
def demoteL (H : Nat → Option Ob) : List AV → Option (List AV × (Nat → Option Ob))
 | [] => some ([], H)
 | av :: avs => (demote1 H av).bind fun x => (demoteL x.2 avs).bind fun y => some (x.1 :: y.1, y.2)
def demote (H : Nat → Option Ob) : AV → Option (AV × (Nat → Option Ob))
 | .g cs => (demoteL H cs).map fun x => (.g x.1, x.2)
 | av => demote1 H av
section
variable {P : Program} {w : World}
theorem run_loadVar_at {t : TypeId} {ti : TI} (h : TIOK P t ti) {ag : Bool} (hk : ti.kind.agg = some ag) {g o : Nat} {cur : Array Value} {e : TypeId} {fr : Nat × Nat} (hg : w.heap[g]? = some (.cells cur e fr))
 {vs : List Value} (hl : vs.length = ti.size) (hv : ∀ j v, vs[j]? = some v → cur[o + j]? = some v) (h1 : ag = true ∨ ti.size = 1) :
 ∃ v, (loadVar t ⟨g, o, none⟩).run P w = .ok v w ∧ (ag = true → v = .agg vs.toArray) ∧ (ag = false → vs = [v]) := by
 cases ag with
 | true =>
  refine ⟨.agg vs.toArray, ?_, fun _ => rfl, by simp⟩
  have := run_loadCells_list (P := P) w ⟨g, o, none⟩ vs (fun j v hj => by rw [add_at, cell_at hg]; exact hv j v hj)
  rw [hl] at this
  simp [loadVar, h.isAgg w hk, h.sizeOf w, this]
 | false =>
  have hs : ti.size = 1 := by simpa using h1
  rw [hs] at hl
  obtain ⟨v, rfl⟩ := List.length_eq_one_iff.1 hl
  refine ⟨v, ?_, by simp, fun _ => rfl⟩
  have hc : cur[o]? = some v := by simpa using hv 0 v rfl
  simp [loadVar, h.isAgg w hk, cell_at hg, hc]
end
section rel
variable {P : Program} {T : Tab} {B : Ctx} {G : Nat → GI} {s : St} {a : Act} {w : World}
theorem pack_ok {H : Nat → Option Ob} {Av : Nat → Prop} {vs : List Value} {cs : List AV} {ag : Bool} {v : Value} (h : AVRL w G H Av vs cs) (h1 : ag = true → v = .agg vs.toArray) (h2 : ag = false → vs = [v]) : AVR w G H Av v (pack ag cs) := by
 cases ag with
 | true => rw [h1 rfl]; exact .g _ _ (by simpa using h)
 | false =>
  have := h2 rfl
  subst this
  cases h with
  | cons _ av _ _ h hs => cases hs; exact h
theorem TrL.avrl {H : Nat → Option Ob} {Av : Nat → Prop} {own : Bool} : ∀ {vs : List Value} {ds : List D} {S : List Nat}, TrL w own vs ds S → (∀ v ∈ vs, v.oneCell' = true) → (∀ b ∈ S, ¬ Av b) → AVRL w G H Av vs (ds.map .d)
 | _, _, _, .nil, _, _ => .nil
 | _, _, _, .cons v d S vs ds Ss h hs, h1, hS => .cons _ _ _ _ (.d v d S (h1 v (by simp)) h.shared fun b hb => hS b (by simp [hb])) (hs.avrl (fun v hv => h1 v (by simp [hv])) fun b hb => hS b (by simp [hb]))
theorem RelG.freeze (h : RelG B G s a w) {k sz : Nat} {xs : List (List D)} {dp : Bool} {ve : Nat} (hk : s.heap k = some (.row sz xs dp false ve)) :
 RelG B G { s with heap := upd s.heap k (some (.row sz xs dp true ve)) } a w ∧ (∀ b, Ban B.F G (upd s.heap k (some (.row sz xs dp true ve))) b → Ban B.F G s.heap b ∧ ((G k).cap ≠ 0 → b ≠ (G k).blk) ∧ b ∉ (G k).sub) ∧
  ∀ {v : Value} {av : AV}, AVR w G s.heap (Ban B.F G s.heap) v av → AVR w G (upd s.heap k (some (.row sz xs dp true ve))) (Ban B.F G (upd s.heap k (some (.row sz xs dp true ve)))) v av := by
 have hR : RowR w (Ban B.F G s.heap) (G k) sz xs dp false := h.obj k _ hk
 have hown : ∀ b, Ban B.F G (upd s.heap k (some (.row sz xs dp true ve))) b → Ban B.F G s.heap b ∧ ((G k).cap ≠ 0 → b ≠ (G k).blk) ∧ b ∉ (G k).sub := by
  rintro b (⟨i, hi⟩ | hf)
  case inr =>
   have key : b ∈ ownOf (G k) (s.heap k) → False := fun hm => h.noF hm hf
   rw [hk] at key
   refine ⟨.inr hf, fun hc hb => key (by simp [ownOf, hb, hc]), fun hb => ?_⟩
   have hc : (G k).cap ≠ 0 := fun hc => by rw [(hR.void hc).2.2] at hb; simp at hb
   cases dp with
   | true => exact key (by simp [ownOf, hb, hc])
   | false => exact hR.sub (.inl rfl) b hb (.inr hf)
  by_cases e : i = k
  ·subst e; rw [upd_same] at hi; simp [ownOf] at hi
  ·rw [upd_ne _ _ e] at hi
   have key : b ∈ ownOf (G k) (s.heap k) → False := fun hm => e (h.disj i k b hi hm)
   rw [hk] at key
   refine ⟨.inl ⟨i, hi⟩, fun hc hb => key (by simp [ownOf, hb, hc]), fun hb => ?_⟩
   have hc : (G k).cap ≠ 0 := fun hc => by rw [(hR.void hc).2.2] at hb; simp at hb
   cases dp with
   | true => exact key (by simp [ownOf, hb, hc])
   | false => exact hR.sub (.inl rfl) b hb (.inl ⟨i, hi⟩)
 have hto : ∀ i o, s.heap i = some o → ∃ o', upd s.heap k (some (.row sz xs dp true ve)) i = some o' ∧ Ob.to (G i) (G i) o o' := by
  intro i o ho
  by_cases e : i = k
  ·subst e
   rw [hk] at ho
   cases ho
   exact ⟨_, upd_same .., .row _ _ _ _ _ _ _ _ _ rfl rfl rfl rfl (.inr ⟨rfl, rfl, rfl⟩)⟩
  ·exact ⟨o, by rw [upd_ne _ _ e]; exact ho, .refl _ _⟩
 refine ⟨?_, hown, fun hv => (AVR.mono_both (fun _ _ _ => rfl) (fun b _ hb => (hown b hb).1) hto).1 hv⟩
 refine h.step (w' := w) (G' := G) _ (fun i => i = k) (.refl w) (fun _ _ _ => rfl) (fun i hi => ⟨upd_ne _ _ hi, rfl⟩) ?_ ?_ ?_ ?_ ?_
 ·rintro i o' rfl ho
  rw [hk] at ho
  cases ho
  exact ⟨_, upd_same .., .row _ _ _ _ _ _ _ _ _ rfl rfl rfl rfl (.inr ⟨rfl, rfl, rfl⟩)⟩
 ·rintro i rfl b hb; rw [upd_same] at hb; simp [ownOf] at hb
 ·rintro i rfl; rw [upd_same]; simp [ownOf]
 ·rintro i j rfl rfl _ _ _; rfl
 ·rintro i o' rfl ho
  rw [upd_same] at ho
  cases ho
  exact ⟨hR.cells, hR.cap, hR.max, hR.len, hR.one, hR.uni, hR.tr, hR.nodup, fun _ b hb hn => (hown b hn).2.2 hb, fun _ hp hn => (hown _ hn).2.1 (by omega) rfl⟩
theorem mCells_ok {k i sz : Nat} {xs : List (List D)} {dp fz : Bool} {ve : Nat} {H : Nat → Option Ob} {Av : Nat → Prop} (hk : H k = some (.row sz xs dp fz ve)) {own : Bool} :
 ∀ {vs : List Value} {ds : List D} {S : List Nat} (h : TrL w own vs ds S) (o : Nat) {l : List AV}, mCells k ve i o ds = some l → (∀ v ∈ vs, v.oneCell' = true) →
 (∀ j d, ds[j]? = some d → xs.flatten[i * sz + (o + j)]? = some d) → (∀ j v, vs[j]? = some v → (G k).vs[i * sz + (o + j)]? = some v) → AVRL w G H Av vs l
 | _, _, _, .nil, o, l, hm, _, _, _ => by
  simp only [mCells, Option.some.injEq] at hm
  subst hm
  exact .nil
 | _, _, _, .cons v d S vs ds Ss h hs, o, l, hm, h1, hd, hv => by
  simp only [mCells, Option.bind_eq_some_iff, Option.map_eq_some_iff] at hm
  obtain ⟨a, ha, l', hl', rfl⟩ := hm
  refine .cons _ _ _ _ ?_ (mCells_ok hk hs (o + 1) hl' (fun v hv => h1 v (by simp [hv])) (fun j d' hj => ?_) (fun j v' hj => ?_))
  ·unfold mCell at ha
   split at ha
   ·simp only [Option.some.injEq] at ha
    subst ha
    have e1 := hd 0 _ rfl
    have e2 := hv 0 _ rfl
    exact .m k i o sz xs dp fz ve v _ _ hk (by simpa using e1) (by simpa using e2) (h1 v (by simp))
   ·split at ha
    ·rename_i hsc
     simp only [Option.some.injEq] at ha
     subst ha
     obtain ⟨_, hany, ho⟩ := scal_tr h hsc
     exact .sc ho (hany w false)
    ·cases ha
  ·have := hd (j + 1) d' (by simpa using hj)
   rw [← this]; congr 2; omega
  ·have := hv (j + 1) v' (by simpa using hj)
   rw [← this]; congr 2; omega
theorem opLoad_ok (hT : T.ok P = true) (h : RelG B G s a w) {ty : TypeId} {p : AV} {pv : Value} (hp : AVR w G s.heap (Ban B.F G s.heap) pv p) {av : AV} (hm : opLoad T s.heap ty p = some av) :
 ∃ v, (Instr.loadAt ty pv).run P w = .ok v w ∧ AVR w G s.heap (Ban B.F G s.heap) v av := by
 simp only [opLoad, Option.bind_eq_some_iff] at hm
 obtain ⟨ti, hti, ag, hag, hm⟩ := hm
 have hok := tiok hT hti
 split at hm
 case isFalse => cases hm
 rename_i h1
 cases hp with
 | a k o cs hk =>
  simp only [hk] at hm
  split at hm
  case isFalse => cases hm
  rename_i hle
  simp only [Option.some.injEq] at hm
  subst hm
  obtain ⟨cur, e, hg, hr, _⟩ := (h.obj k _ hk : BoxR w G s.heap _ (G k) cs).cells
  have hl := hr.length
  obtain ⟨v, hv, ha, hb⟩ := run_loadVar_at hok hag (o := o) hg (vs := (cur.toList.drop o).take ti.size) (by rw [List.length_take, List.length_drop]; omega) (fun j v hj => by
   rw [List.getElem?_take] at hj
   split at hj
   ·rw [List.getElem?_drop] at hj; simpa using hj
   ·cases hj) h1
  exact ⟨v, by simpa [Instr.loadAt, Instr.sureAddr] using hv, pack_ok ((hr.drop o).take ti.size) ha hb⟩
 | q g bs o cur el fr vs cs S hg hv h1' ht hbn hS =>
  simp only at hm
  split at hm
  case isFalse => cases hm
  rename_i hle
  simp only [Option.some.injEq] at hm
  subst hm
  have hl := ht.length
  obtain ⟨S1, t1, t2, _⟩ := ht.drop o
  obtain ⟨S2, t3, t4, _⟩ := t1.take ti.size
  obtain ⟨v, hv', ha, hb⟩ := run_loadVar_at hok hag (o := bs + o) hg (vs := (vs.drop o).take ti.size) (by rw [List.length_take, List.length_drop]; omega) (fun j v hj => by
   rw [List.getElem?_take] at hj
   split at hj
   ·rw [List.getElem?_drop] at hj; rw [Nat.add_assoc]; exact hv _ _ hj
   ·cases hj) h1
  exact ⟨v, by simpa [Instr.loadAt, Instr.sureAddr] using hv', pack_ok (t3.avrl (fun v hv => h1' v (List.mem_of_mem_drop (List.mem_of_mem_take hv))) fun b hb => hS b (t2 b (t4 b hb))) ha hb⟩
 | d v x S h1c ht hS =>
  cases ht with
  | p g o cur e fr vs ds S hg hv h1' ho hs =>
   simp only at hm
   split at hm
   case isFalse => cases hm
   rename_i hle
   simp only [Option.some.injEq] at hm
   subst hm
   have hl := hs.length
   obtain ⟨S2, t3, t4, _⟩ := hs.take ti.size
   obtain ⟨v, hv', ha, hb⟩ := run_loadVar_at hok hag (o := o) hg (vs := vs.take ti.size) (by rw [List.length_take]; omega) (fun j v hj => by
    rw [List.getElem?_take] at hj
    split at hj
    ·exact hv _ _ hj
    ·cases hj) h1
   exact ⟨v, by simpa [Instr.loadAt, Instr.sureAddr] using hv', pack_ok (t3.avrl (fun v hv => h1' v (List.mem_of_mem_take hv)) fun b hb => hS b (by simp [t4 b hb])) ha hb⟩
  | _ => simp_all
 | e k i o sz xs dp fz ve hk hi =>
  simp only [hk] at hm
  split at hm
  case isFalse => cases hm
  rename_i hle
  have hR : RowR w (Ban B.F G s.heap) (G k) sz xs dp fz := h.obj k _ hk
  obtain ⟨hcells, r2, r3, r4, r5, r6, r7, r8, r9, r10⟩ := hR
  obtain ⟨cur, e, hg, hcap, hvs⟩ := hcells (by omega)
  obtain ⟨x, hx⟩ : ∃ x, xs[i]? = some x := ⟨_, List.getElem?_eq_getElem hi⟩
  have hxl : x.length = sz := r6 x (List.mem_of_getElem? hx)
  have hgd : xs.getD i [] = x := by rw [List.getD_eq_getElem?_getD, hx]; rfl
  rw [hgd] at hm
  have hmul : (i + 1) * sz ≤ xs.length * sz := Nat.mul_le_mul_right _ hi
  rw [Nat.succ_mul] at hmul
  obtain ⟨S1, t1, t2, t2n⟩ := r7.drop (i * sz + o)
  obtain ⟨S2, t3, t4, t4n⟩ := t1.take ti.size
  have hds : (xs.flatten.drop (i * sz + o)).take ti.size = (x.drop o).take ti.size := by
   apply List.ext_getElem?
   intro j
   rw [List.getElem?_take, List.getElem?_take]
   split
   ·rename_i hj
    rw [List.getElem?_drop, List.getElem?_drop, Nat.add_assoc, flat_get r6 hx (by omega)]
   ·rfl
  obtain ⟨v, hv', ha, hb⟩ := run_loadVar_at hok hag (o := (G k).off + i * sz + o) hg (vs := ((G k).vs.drop (i * sz + o)).take ti.size) (by rw [List.length_take, List.length_drop, r4]; omega) (fun j v hj => by
   rw [List.getElem?_take] at hj
   split at hj
   ·rw [List.getElem?_drop] at hj
    have := hvs _ _ hj
    rw [← this]; congr 1; omega
   ·cases hj) h1
  have hone : ∀ v ∈ ((G k).vs.drop (i * sz + o)).take ti.size, v.oneCell' = true := fun v hv => r5 v (List.mem_of_mem_drop (List.mem_of_mem_take hv))
  have hSs : ∀ b ∈ S2, b ∈ (G k).sub := fun b hb => t2 b (t4 b hb)
  refine ⟨v, by simpa [Instr.loadAt, Instr.sureAddr] using hv', ?_⟩
  rw [hds] at t3
  split at hm
  ·simp only [Option.map_eq_some_iff] at hm
   obtain ⟨l, hl, rfl⟩ := hm
   refine pack_ok (mCells_ok hk t3 o hl hone (fun j d hj => ?_) (fun j v' hj => ?_)) ha hb
   ·rw [← hds, List.getElem?_take] at hj
    split at hj
    ·rw [List.getElem?_drop] at hj; rw [← hj]; congr 1; omega
    ·cases hj
   ·rw [List.getElem?_take] at hj
    split at hj
    ·rw [List.getElem?_drop] at hj; rw [← hj]; congr 1; omega
    ·cases hj
  ·rename_i hfr
   simp only [Option.some.injEq] at hm
   subst hm
   refine pack_ok (t3.avrl hone fun b hb hn => ?_) ha hb
   have : dp = false ∨ fz = true := by
    cases dp <;> cases fz <;> simp_all
   exact r9 this b (hSs b hb) hn
 | _ => simp_all
structure Eased (B : Ctx) (G : Nat → GI) (s : St) (a : Act) (w : World) (H' : Nat → Option Ob) : Prop where
 rel : RelG B G { s with heap := H' } a w
 avr : ∀ {v : Value} {av : AV}, AVR w G s.heap (Ban B.F G s.heap) v av → AVR w G H' (Ban B.F G H') v av
theorem Eased.refl (h : RelG B G s a w) : Eased B G s a w s.heap := ⟨h, fun h => h⟩
theorem Eased.trans {H1 H2 : Nat → Option Ob} (h1 : Eased B G s a w H1) (h2 : Eased B G { s with heap := H1 } a w H2) : Eased B G s a w H2 := ⟨h2.rel, fun h => h2.avr (h1.avr h)⟩
theorem Eased.avrl {H' : Nat → Option Ob} (h : Eased B G s a w H') {vs : List Value} {as : List AV} (hv : AVRL w G s.heap (Ban B.F G s.heap) vs as) : AVRL w G H' (Ban B.F G H') vs as := by
 have := h.avr (.t vs.toArray as (by simpa using hv))
 cases this with
 | t _ _ h => simpa using h
theorem demote1_ok (h : RelG B G s a w) {v : Value} {av av' : AV} {H' : Nat → Option Ob} (hv : AVR w G s.heap (Ban B.F G s.heap) v av) (hm : demote1 s.heap av = some (av', H')) :
 Eased B G s a w H' ∧ AVR w G H' (Ban B.F G H') v av' := by
 have easy : some (av, s.heap) = some (av', H') → Eased B G s a w H' ∧ AVR w G H' (Ban B.F G H') v av' := by
  intro hm
  simp only [Option.some.injEq, Prod.mk.injEq] at hm
  obtain ⟨rfl, rfl⟩ := hm
  exact ⟨.refl h, hv⟩
 cases hav : av with
 | m k ve i o =>
  subst hav
  simp only [demote1] at hm
  split at hm
  case h_2 => cases hm
  rename_i sz xs dp fz ve' hk
  split at hm
  case isFalse => cases hm
  rename_i hc
  obtain ⟨rfl, hi, ho⟩ := hc
  simp only [Option.some.injEq, Prod.mk.injEq] at hm
  obtain ⟨rfl, rfl⟩ := hm
  have hR : RowR w (Ban B.F G s.heap) (G k) sz xs dp fz := h.obj k _ hk
  cases hv with
  | m _ _ _ sz0 xs0 dp0 fz0 _ _ z ys hk0 hj hvj h1 =>
   rw [hk] at hk0
   cases hk0
   obtain ⟨x, hx⟩ : ∃ x, xs[i]? = some x := ⟨_, List.getElem?_eq_getElem hi⟩
   have hxl : x.length = sz := hR.uni x (List.mem_of_getElem? hx)
   have hgd : xs.getD i [] = x := by rw [List.getD_eq_getElem?_getD, hx]; rfl
   have hfx := flat_get hR.uni hx ho
   rw [hfx] at hj
   have hgo : x.getD o .u = .l z ys := by rw [List.getD_eq_getElem?_getD, hj]; rfl
   rw [hgd, hgo]
   obtain ⟨u, S1, hu, ht, hS, _⟩ := hR.tr.get (hfx.trans hj)
   rw [hvj] at hu
   cases hu
   split
   ·rename_i hdf
    simp only [Bool.and_eq_true, Bool.not_eq_true'] at hdf
    obtain ⟨rfl, rfl⟩ := hdf
    obtain ⟨f1, f2, f3⟩ := h.freeze hk
    exact ⟨⟨f1, f3⟩, .d _ _ S1 h1 ht.shared fun b hb hn => (f2 b hn).2.2 (hS b hb)⟩
   ·rename_i hdf
    refine ⟨.refl h, .d _ _ S1 h1 ht.shared fun b hb hn => hR.sub ?_ b (hS b hb) hn⟩
    cases dp <;> cases fz <;> simp_all
  | mo _ _ _ sz0 xs0 dp0 fz0 _ ve1 _ hk0 hlt => rw [hk] at hk0; cases hk0; omega
  | md _ _ _ _ _ hk0 => rw [hk] at hk0; cases hk0
 | _ => subst hav; exact easy hm
theorem demoteL_ok : ∀ {s : St} (h : RelG B G s a w) {vs : List Value} {as as' : List AV} {H' : Nat → Option Ob} (hv : AVRL w G s.heap (Ban B.F G s.heap) vs as) (hm : demoteL s.heap as = some (as', H')),
 Eased B G s a w H' ∧ AVRL w G H' (Ban B.F G H') vs as'
 | s, h, _, _, as', H', .nil, hm => by
  simp only [demoteL, Option.some.injEq, Prod.mk.injEq] at hm
  obtain ⟨rfl, rfl⟩ := hm
  exact ⟨.refl h, .nil⟩
 | s, h, _, _, as', H', .cons v av vs as hv hvs, hm => by
  simp only [demoteL, Option.bind_eq_some_iff, Option.some.injEq, Prod.mk.injEq] at hm
  obtain ⟨⟨a1, H1⟩, m1, ⟨as2, H2⟩, m2, rfl, rfl⟩ := hm
  obtain ⟨e1, v1⟩ := demote1_ok h hv m1
  obtain ⟨e2, v2⟩ := demoteL_ok e1.rel (e1.avrl hvs) m2
  exact ⟨e1.trans e2, .cons _ _ _ _ (e2.avr v1) v2⟩
theorem demote_ok (h : RelG B G s a w) {v : Value} {av av' : AV} {H' : Nat → Option Ob} (hv : AVR w G s.heap (Ban B.F G s.heap) v av) (hm : demote s.heap av = some (av', H')) :
 Eased B G s a w H' ∧ AVR w G H' (Ban B.F G H') v av' := by
 cases hav : av with
 | g cs =>
  subst hav
  simp only [demote, Option.map_eq_some_iff, Prod.mk.injEq] at hm
  obtain ⟨⟨cs', H1⟩, m1, rfl, rfl⟩ := hm
  cases hv with
  | g vs _ hvs =>
   obtain ⟨e1, v1⟩ := demoteL_ok h hvs m1
   exact ⟨e1, .g _ _ v1⟩
 | _ => subst hav; exact demote1_ok h hv hm
end rel
end Go.Fs
namespace Go.Fs
open Go.RowKit
def cellsA : AV → List AV
 | .g cs => cs
 | av => [av]
def oneA (H : Nat → Option Ob) : AV → Bool
 | .d _ | .z _ | .q _ _ | .f _ _ => true
 | .r k => match H k with | some (.row ..) => true | _ => false
 | .a k _ => match H k with | some (.box _) => true | _ => false
 | .e k _ _ => match H k with | some (.row ..) => true | _ => false
 | .m k ve _ _ => match H k with | some (.row _ _ _ _ ve') => ve' == ve | _ => false
 | _ => false
def opStore (T : Tab) (H : Nat → Option Ob) (ty : TypeId) (p x : AV) : Option (Nat → Option Ob) :=
 (T.ti ty).bind fun ti =>
 if (cellsA x).length = ti.size ∧ (cellsA x).all (oneA H) = true then match p with
 | .a k o => match H k with
  | some (.box cs) => if o + ti.size ≤ cs.length then some (upd H k (some (.box (cs.take o ++ cellsA x ++ cs.drop (o + ti.size))))) else none
  | _ => none
 | .e k i o => (moveCs H (cellsA x)).bind fun m => match m.2.2 k with
  | some (.row sz xs dp false ve) => if o + ti.size ≤ sz then
   some (upd m.2.2 k (some (.row sz (xs.set i ((xs.getD i []).take o ++ m.1 ++ (xs.getD i []).drop (o + ti.size))) (dp && m.2.1) false (ve + 1)))) else none
  | _ => none
 | _ => none else none
section rel
variable {P : Program} {T : Tab} {B : Ctx} {G : Nat → GI} {s : St} {a : Act} {w : World}
theorem oneA_ok {H : Nat → Option Ob} {Av : Nat → Prop} {v : Value} {av : AV} (h : AVR w G H Av v av) (h1 : oneA H av = true) : v.oneCell' = true := by
 cases h <;> simp_all [oneA] <;> rfl
theorem cellsA_ok {H : Nat → Option Ob} {Av : Nat → Prop} {v : Value} {av : AV} (h : AVR w G H Av v av) (h1 : (cellsA av).all (oneA H) = true) : AVRL w G H Av v.cells.toList (cellsA av) ∧ ∀ u ∈ v.cells.toList, u.oneCell' = true := by
 have all_one : ∀ {vs : List Value} {as : List AV}, AVRL w G H Av vs as → as.all (oneA H) = true → ∀ u ∈ vs, u.oneCell' = true := by
  intro vs as hl
  induction hl using AVRL.rec (motive_1 := fun _ _ _ => True) with
  | nil => simp
  | cons v av vs as hv hs _ ih =>
   intro hall u hu
   simp only [List.all_cons, Bool.and_eq_true] at hall
   rcases List.mem_cons.1 hu with rfl | hu
   ·exact oneA_ok hv hall.1
   ·exact ih hall.2 u hu
  | _ => trivial
 cases hav : av with
 | g cs =>
  subst hav
  cases h with
  | g vs _ h => exact ⟨h, all_one h h1⟩
 | _ =>
  subst hav
  have e := oneA_ok h (by simpa [cellsA] using h1)
  have hc : v.cells = #[v] := by cases v <;> simp_all [Value.cells, Value.oneCell']
  rw [hc]
  exact ⟨.cons _ _ _ _ h .nil, by simpa using e⟩
theorem run_storeVar_at {t : TypeId} {ti : TI} (h : TIOK P t ti) {g o : Nat} {cur : Array Value} {e : TypeId} (hg : w.heap[g]? = some (.cells cur e (0, 0))) {v : Value} (hl : v.cells.toList.length = ti.size)
 (ho : o + ti.size ≤ cur.size) (h1 : ∀ u ∈ v.cells.toList, u.oneCell' = true) :
 (storeVar t ⟨g, o, none⟩ v).run P w = .ok () (w.setRow g (List.take o cur.toList ++ v.cells.toList ++ List.drop (o + ti.size) cur.toList).toArray) := by
 have := run_storeCells_at P g o e v.cells.toList 0 cur w hg (by omega) h1
 rw [Nat.add_zero, hl] at this
 have hs : v.cells.size = ti.size := by simpa using hl
 simp [storeVar, h.sizeOf w, hs, this]
theorem rest_setRow (w : World) (g : Nat) (cs : Array Value) : Rest w (w.setRow g cs) := ⟨rfl, rfl, rfl, by simp [World.setRow]⟩
theorem opStore_ok (hT : T.ok P = true) (h : RelG B G s a w) {ty : TypeId} {p x : AV} {pv xv : Value} (hp : AVR w G s.heap (Ban B.F G s.heap) pv p) (hx : AVR w G s.heap (Ban B.F G s.heap) xv x) {H' : Nat → Option Ob} (hm : opStore T s.heap ty p x = some H') :
 ∃ w' G', (Instr.storeAt ty pv xv).run P w = .ok () w' ∧ RelG B G' { s with heap := H' } a w' := by
 simp only [opStore, Option.bind_eq_some_iff] at hm
 obtain ⟨ti, hti, hm⟩ := hm
 have hok := tiok hT hti
 split at hm
 case isFalse => cases hm
 rename_i hcond
 obtain ⟨hlen, hall⟩ := hcond
 obtain ⟨hcs, hone⟩ := cellsA_ok hx hall
 have hxl : xv.cells.toList.length = ti.size := by rw [hcs.length, hlen]
 cases hp with
 | a k o cs hk =>
  simp only [hk] at hm
  split at hm
  case isFalse => cases hm
  rename_i hle
  simp only [Option.some.injEq] at hm
  obtain ⟨cur, e, hg, hr, h1⟩ := (h.obj k _ hk : BoxR w G s.heap _ (G k) cs).cells
  have hl := hr.length
  rw [Array.length_toList] at hl
  have hrun := run_storeVar_at (P := P) hok (o := o) hg hxl (by omega) hone
  refine ⟨_, G, by simp only [Instr.storeAt, Instr.sureAddr, pure_bind]; exact hrun, ?_⟩
  rw [← hm]
  have hlt : (G k).blk < w.heap.size := (Array.getElem?_eq_some_iff.1 hg).1
  refine h.step (G' := G) _ (fun i => i = k) (rest_setRow ..) ?_ (fun i hi => ⟨upd_ne _ _ hi, rfl⟩) ?_ ?_ ?_ ?_ ?_
  ·intro b hb hn
   have hbk : b ≠ (G k).blk := by
    intro e'
    apply hn k rfl
    rw [hk]
    simp [ownOf, e']
   exact setRow_other w _ _ _ hbk
  ·rintro i o' rfl ho
   rw [hk] at ho
   cases ho
   exact ⟨_, upd_same .., .box _ _ rfl⟩
  ·rintro i rfl b hb
   rw [upd_same] at hb
   exact .inl ⟨i, rfl, by rw [hk]; simpa [ownOf] using hb⟩
  ·rintro i rfl; rw [upd_same]; simp [ownOf]
  ·rintro i j rfl rfl _ _ _; rfl
  ·rintro i o' rfl ho
   rw [upd_same] at ho
   cases ho
   have hM := AVR.mono_both (w := w) (w' := w.setRow (G i).blk (List.take o cur.toList ++ xv.cells.toList ++ List.drop (o + ti.size) cur.toList).toArray) (G := G) (G' := G) (H := s.heap)
    (H' := upd s.heap i (some (.box (cs.take o ++ cellsA x ++ cs.drop (o + ti.size))))) (Av := Ban B.F G s.heap) (Av' := Ban B.F G (upd s.heap i (some (.box (cs.take o ++ cellsA x ++ cs.drop (o + ti.size))))))
    (fun b hb hn => setRow_other w _ _ _ fun e' => hn (.inl ⟨i, by rw [hk]; simp [ownOf, e']⟩))
    (by
      rintro b _ (⟨j, hj⟩ | hf)
      case inr => exact .inr hf
      left
      by_cases e' : j = i
      ·subst e'; rw [upd_same] at hj; exact ⟨j, by rw [hk]; simpa [ownOf] using hj⟩
      ·rw [upd_ne _ _ e'] at hj; exact ⟨j, hj⟩)
    (by
      intro j o' ho
      by_cases e' : j = i
      ·subst e'; rw [hk] at ho; cases ho; exact ⟨_, upd_same .., .box _ _ rfl⟩
      ·exact ⟨o', by rw [upd_ne _ _ e']; exact ho, Ob.to.refl _ _⟩)
   refine ⟨_, e, setRow_heap w _ _ _ _ _ hg, ?_, ?_⟩
   ·apply hM.2
    exact ((hr.take o).append hcs).append (hr.drop (o + ti.size))
   ·intro u hu
    rw [List.toList_toArray] at hu
    simp only [List.mem_append] at hu
    rcases hu with (hu | hu) | hu
    ·exact h1 u (List.mem_of_mem_take hu)
    ·exact hone u hu
    ·exact h1 u (List.mem_of_mem_drop hu)
 | e k i_ o sz0 xs0 dp0 fz0 ve0 hk0 hi0 =>
  simp only [Option.bind_eq_some_iff] at hm
  obtain ⟨⟨ds, f, H1⟩, hmv, hm⟩ := hm
  obtain ⟨M, S', t', _, n', o'⟩ := moveCs_ok h hcs hmv
  simp only at hm
  split at hm
  case h_2 => cases hm
  rename_i sz xs dp ve hk1
  split at hm
  case isFalse => cases hm
  rename_i hle
  simp only [Option.some.injEq] at hm
  have hk : s.heap k = some (.row sz xs dp false ve) := by
   rcases M.keys k with e | ⟨_, e⟩
   ·rw [← e]; exact hk1
   ·rw [e] at hk1; cases hk1
  have hsame : sz0 = sz ∧ xs0 = xs := by rw [hk] at hk0; cases hk0; exact ⟨rfl, rfl⟩
  obtain ⟨rfl, rfl⟩ := hsame
  have h1 : RelG B G { s with heap := H1 } a w := M.rel
  have hR : RowR w (Ban B.F G H1) (G k) sz0 xs0 dp false := h1.obj k _ hk1
  obtain ⟨hcells, r2, r3, r4, r5, r6, r7, r8, r9, r10⟩ := hR
  have hi : i_ < xs0.length := hi0
  have hc : (G k).cap ≠ 0 := by omega
  obtain ⟨cur, e, hg, hcap, hvs⟩ := hcells (by omega)
  obtain ⟨y, hy⟩ : ∃ y, xs0[i_]? = some y := ⟨_, List.getElem?_eq_getElem hi⟩
  have hyl : y.length = sz0 := r6 y (List.mem_of_getElem? hy)
  have hgd : xs0.getD i_ [] = y := by rw [List.getD_eq_getElem?_getD, hy]; rfl
  rw [hgd] at hm
  have hdl : ds.length = ti.size := by rw [← t'.length, hxl]
  have hmul : (i_ + 1) * sz0 ≤ xs0.length * sz0 := Nat.mul_le_mul_right _ hi
  have hmul2 : xs0.length * sz0 ≤ (G k).cap * sz0 := Nat.mul_le_mul_right _ r2
  rw [Nat.succ_mul] at hmul
  have hrun := run_storeVar_at (P := P) (w := w) hok (o := (G k).off + i_ * sz0 + o) hg hxl (by omega) hone
  have hnk : ∀ b ∈ S', b ∉ ownOf (G k) (H1 k) := fun b hb hm => n' b hb (.inl ⟨k, hm⟩)
  -- the new list of cells
  obtain ⟨S'', t'', s'', d''⟩ : ∃ S'', TrL w (dp && f) ((G k).vs.take (i_ * sz0 + o) ++ xv.cells.toList ++ (G k).vs.drop (i_ * sz0 + o + ti.size)) (xs0.set i_ (y.take o ++ ds ++ y.drop (o + ti.size))).flatten S'' ∧ (∀ b ∈ S'', b ∈ (G k).sub ∨ b ∈ S') ∧ ((dp && f) = true → S''.Nodup) := by
   have hfl := flat_splice r6 hy (o := o) (es := ds) (by omega)
   rw [hdl] at hfl
   rw [hfl]
   by_cases hd : (dp && f) = true
   ·rw [hd]
    simp at hd
    obtain ⟨e1, e2⟩ := hd
    rw [e1] at r7
    rw [e2] at t'
    obtain ⟨S'', u1, u2, u3⟩ := r7.splice t' (i_ * sz0 + o)
    rw [hxl, hdl] at u1
    refine ⟨S'', u1, u2, fun _ => u3 (r8 e1) (o' e2).1 fun b hb hn => ?_⟩
    apply hnk b hn
    rw [hk1, e1]
    simp [ownOf, hc, hb]
   ·rw [Bool.not_eq_true] at hd
    rw [hd]
    obtain ⟨S'', u1, u2, u3⟩ := r7.shared.splice t'.shared (i_ * sz0 + o)
    rw [hxl, hdl] at u1
    exact ⟨S'', u1, u2, by simp⟩
  let gi' : GI := { (G k) with vs := (G k).vs.take (i_ * sz0 + o) ++ xv.cells.toList ++ (G k).vs.drop (i_ * sz0 + o + ti.size), sub := S'' }
  have hvl : (G k).vs.length = xs0.length * sz0 := r4
  have hSlt : ∀ b ∈ S', b < w.heap.size := t'.lt
  have hHk : H1 k ≠ none := by rw [hk1]; simp
  refine ⟨_, upd G k gi', by simp only [Instr.storeAt, Instr.sureAddr, pure_bind]; exact hrun, ?_⟩
  rw [← hm]
  -- what is handed over: its blocks belong to nobody now
  have hblkS : (G k).blk ∉ S' := fun hb => hnk _ hb (by rw [hk1]; simp [ownOf, hc])
  have hown' : ∀ b, b ∈ ownOf gi' (some (.row sz0 (xs0.set i_ (y.take o ++ ds ++ y.drop (o + ti.size))) (dp && f) false (ve + 1))) → b ∈ ownOf (G k) (H1 k) ∨ (b ∈ S' ∧ f = true) := by
   intro b hb
   rw [hk1]
   by_cases hd : (dp && f) = true
   ·rw [hd] at hb
    simp at hd
    simp only [ownOf, if_true, gi', hc, if_false, List.mem_cons] at hb
    rcases hb with rfl | hb
    ·exact .inl (by simp [ownOf, hc])
    ·rcases s'' b hb with hb | hb
     ·exact .inl (by simp [ownOf, hc, hd.1, hb])
     ·exact .inr ⟨hb, hd.2⟩
   ·rw [Bool.not_eq_true] at hd
    rw [hd] at hb
    simp only [ownOf, gi', hc, Bool.false_eq_true, if_false, List.mem_cons, List.not_mem_nil, or_false] at hb
    subst hb
    exact .inl (by simp [ownOf, hc])
  have hsubk : (G k).blk ∉ (G k).sub := by
   cases hdp : dp with
   | true =>
    have := h1.nodup k
    simp only [hk1, hdp, ownOf, if_true, hc, if_false] at this
    exact (List.nodup_cons.1 this).1
   | false => exact fun hb => r9 (.inl hdp) _ hb (.inl ⟨k, by rw [hk1]; simp [ownOf, hc]⟩)
  have hS''k : (G k).blk ∉ S'' := fun hb => (s'' _ hb).elim hsubk hblkS
  have hdead : ∀ i, i ≠ k → H1 i ≠ s.heap i → H1 i = some .dead := fun i _ hn => (M.keys i).elim (fun e => absurd e hn) fun e => e.2
  refine h.step (G' := upd G k gi') _ (fun i => i = k ∨ H1 i ≠ s.heap i) (rest_setRow ..) ?_ ?_ ?_ ?_ ?_ ?_ ?_
  ·intro b hb hn
   refine setRow_other w _ _ _ fun e' => hn k (.inl rfl) ?_
   rw [hk]
   simp [ownOf, hc, e']
  ·intro i hi
   simp only [not_or, ne_eq, Classical.not_not] at hi
   exact ⟨(upd_ne _ _ hi.1).trans hi.2, upd_ne _ _ hi.1⟩
  ·intro i o' hi ho
   by_cases e' : i = k
   ·subst e'
    rw [hk] at ho
    cases ho
    refine ⟨_, upd_same .., ?_⟩
    rw [upd_same]
    exact .row _ _ _ _ _ _ _ _ _ (by rw [List.length_set]) rfl rfl rfl (.inl (Nat.lt_succ_self _))
   ·exact ⟨.dead, (upd_ne _ _ e').trans (hdead i e' (hi.resolve_left e')), .dead _⟩
  ·intro i hi b hb
   by_cases e' : i = k
   ·subst e'
    rw [upd_same, upd_same] at hb
    rcases hown' b hb with hb | ⟨hb, hf⟩
    ·rw [hk1] at hb
     exact .inl ⟨i, .inl rfl, by rw [hk]; exact hb⟩
    ·obtain ⟨j, hj⟩ := (o' hf).2 b hb
     refine .inl ⟨j, .inr fun e => n' b hb (.inl ⟨j, ?_⟩), hj⟩
     rw [e]; exact hj
   ·rw [upd_ne _ _ e', upd_ne _ _ e', hdead i e' (hi.resolve_left e')] at hb
    simp [ownOf] at hb
  ·intro i hi
   by_cases e' : i = k
   ·subst e'
    rw [upd_same, upd_same]
    by_cases hd : (dp && f) = true
    ·rw [hd]
     simp only [ownOf, if_true, gi', hc, if_false]
     exact List.nodup_cons.2 ⟨hS''k, d'' hd⟩
    ·rw [Bool.not_eq_true] at hd
     rw [hd]
     simp [ownOf, hc, gi']
   ·rw [upd_ne _ _ e', upd_ne _ _ e', hdead i e' (hi.resolve_left e')]
    simp [ownOf]
  ·intro i j hi hj b hb hb'
   by_cases e' : i = k
   ·by_cases e2 : j = k
    ·rw [e', e2]
    ·rw [upd_ne _ _ e2, upd_ne _ _ e2, hdead j e2 (hj.resolve_left e2)] at hb'
     simp [ownOf] at hb'
   ·rw [upd_ne _ _ e', upd_ne _ _ e', hdead i e' (hi.resolve_left e')] at hb
    simp [ownOf] at hb
  ·intro i o' hi ho
   by_cases e' : i = k
   ·subst e'
    rw [upd_same] at ho ⊢
    cases ho
    have hvl2 : ((G i).vs.take (i_ * sz0 + o) ++ xv.cells.toList ++ (G i).vs.drop (i_ * sz0 + o + ti.size)).length = (G i).vs.length := by
     simp only [List.length_append, List.length_take, List.length_drop, hxl]; omega
    have hcs2 : (List.take ((G i).off + i_ * sz0 + o) cur.toList ++ xv.cells.toList ++ List.drop ((G i).off + i_ * sz0 + o + ti.size) cur.toList).length = cur.size := by
     simp only [List.length_append, List.length_take, List.length_drop, hxl, Array.length_toList]; omega
    have hseg := seg_splice (o := (G i).off) (n := i_ * sz0 + o) (ms := xv.cells.toList) hvs (by omega) (by omega)
    rw [hxl] at hseg
    refine ⟨fun _ => ⟨_, e, setRow_heap w _ _ _ _ _ hg, ?_, ?_⟩, ?_, r3, ?_, ?_, ?_, t''.keep fun b hb => setRow_other w _ _ _ fun e' => hS''k (e' ▸ hb), fun hd => d'' hd, ?_, by simp⟩
    ·show (G i).off + (G i).cap * sz0 ≤ _
     simp only [List.size_toArray]
     rw [hcs2]
     exact hcap
    ·intro j v hj
     have := hseg j v hj
     rw [show (G i).off + (i_ * sz0 + o) = (G i).off + i_ * sz0 + o by omega] at this
     exact this
    ·rw [List.length_set]; exact r2
    ·show (List.length _) = _
     rw [hvl2, List.length_set]
     exact r4
    ·intro u hu
     simp only [gi', List.mem_append] at hu
     rcases hu with (hu | hu) | hu
     ·exact r5 u (List.mem_of_mem_take hu)
     ·exact hone u hu
     ·exact r5 u (List.mem_of_mem_drop hu)
    ·intro z hz
     rcases List.mem_or_eq_of_mem_set hz with hz | rfl
     ·exact r6 z hz
     ·simp only [List.length_append, List.length_take, List.length_drop, hdl]; omega
    ·intro hd b hb hn
     have hd' : (dp && f) = false := by simpa using hd
     rcases hn with ⟨j, hj⟩ | hfb
     case inr =>
      rcases s'' b hb with hb | hb
      ·cases hdp : dp with
       | false => exact r9 (.inl hdp) b hb (.inr hfb)
       | true =>
        exact h1.noF (k := i) (by show b ∈ ownOf (G i) (H1 i); rw [hk1, hdp]; simp [ownOf, hc, hb]) hfb
      ·exact n' b hb (.inr hfb)
     by_cases e2 : j = i
     ·subst e2
      rw [upd_same, upd_same, hd'] at hj
      simp only [ownOf, Bool.false_eq_true, if_false, gi', hc, List.mem_cons, List.not_mem_nil, or_false] at hj
      subst hj
      exact hS''k hb
     ·rw [upd_ne _ _ e2, upd_ne _ _ e2] at hj
      rcases s'' b hb with hb | hb
      ·cases hdp : dp with
       | false => exact r9 (.inl hdp) b hb (.inl ⟨j, hj⟩)
       | true => exact e2 (h1.disj j i b hj (by show b ∈ ownOf (G i) (H1 i); rw [hk1, hdp]; simp [ownOf, hc, hb]))
      ·exact n' b hb (.inl ⟨j, hj⟩)
   ·rw [upd_ne _ _ e', hdead i e' (hi.resolve_left e')] at ho
    cases ho
    trivial
 | ed k i_ o v hk0 =>
  simp only [Option.bind_eq_some_iff] at hm
  obtain ⟨⟨ds, f, H1⟩, hmv, hm⟩ := hm
  obtain ⟨M, _⟩ := moveCs_ok h hcs hmv
  simp only at hm
  split at hm
  case h_2 => cases hm
  rename_i sz xs dp ve hk1
  rcases M.keys k with e | ⟨_, e⟩
  ·rw [e, hk0] at hk1; cases hk1
  ·rw [e] at hk1; cases hk1
 | _ => simp_all
end rel
end Go.Fs
namespace Go.Fs
open Go.RowKit
def opField (T : Tab) (H : Nat → Option Ob) (ty : TypeId) (p : AV) (f : Nat) : Option AV :=
 (T.ti ty).bind fun ti => match ti.kind with
 | .strct fs => (fs[f]?).bind fun x => match p with
  | .a k o => match H k with
   | some (.box _) => some (.a k (o + x.1))
   | _ => none
  | .e k i o => match H k with
   | some (.row ..) => some (.e k i (o + x.1))
   | _ => none
  | .q cs o => some (.q cs (o + x.1))
  | .d (.p cs) => some (.q cs x.1)
  | _ => none
 | _ => none
def opIndex (T : Tab) (H : Nat → Option Ob) (ty : TypeId) (x ix : AV) : Option AV :=
 (T.ti ty).bind fun ti => match ti.kind with
 | .slice e => (T.ti e).bind fun te => match ix with
  | .d (.i _ n) => match x with
   | .r k => match H k with
    | some (.row sz xs _ _ _) => if sz = te.size then if 0 ≤ n ∧ n < (xs.length : Int) then some (.e k n.toNat 0) else none else none
    | _ => none
   | .d (.l sz xs) => if sz = te.size then if 0 ≤ n ∧ n < (xs.length : Int) then some (.q (xs.getD n.toNat []) 0) else none else none
   | _ => none
  | _ => none
 | .arr len e => (T.ti e).bind fun te => match ix with
  | .d (.i _ n) => match x with
   | .d (.p cs) => if te.size = 1 ∧ cs.length = len then if 0 ≤ n ∧ n < (cs.length : Int) then some (.q [cs.getD n.toNat .u] 0) else none else none
   | _ => none
  | _ => none
 | _ => none
def byteAt (s : ByteArray) (n : Int) : Int := ((s.data.getD n.toNat 0).toNat : Int)
def opByte (T : Tab) (ty : TypeId) (x ix : AV) : Option AV :=
 (T.ti ty).bind fun ti => match ti.kind with
 | .str => match x, ix with
  | .d (.s s), .d (.i _ n) => if 0 ≤ n ∧ n < (s.size : Int) then some (.d (.i .u8 (byteAt s n))) else none
  | _, _ => none
 | _ => none
def opLen (T : Tab) (H : Nat → Option Ob) (ty : TypeId) (x : AV) : Option AV :=
 (T.ti ty).bind fun ti => match ti.kind with
 | .str => match x with
  | .d (.s s) => some (.d (.i .i64 s.size))
  | _ => none
 | .slice _ => match x with
  | .r k => match H k with
   | some (.row _ xs _ _ _) => some (.d (.i .i64 xs.length))
   | _ => none
  | .d (.l _ xs) => some (.d (.i .i64 xs.length))
  | .m k ve i o => match H k with
   | some (.row sz xs _ _ ve') => if ve = ve' ∧ i < xs.length ∧ o < sz then (match (xs.getD i []).getD o .u with | .l _ ys => some (.d (.i .i64 ys.length)) | _ => none) else none
   | _ => none
  | .z _ => some (.d (.i .i64 0))
  | _ => none
 | _ => none
def bnd (x : Option AV) (d : Nat) : Option Nat :=
 match x with
 | none => some d
 | some (.d (.i _ n)) => if 0 ≤ n then some n.toNat else none
 | _ => none
def opSlice (T : Tab) (H : Nat → Option Ob) (dst : Nat) (ty : TypeId) (x : AV) (lo hi : Option AV) : Option (AV × (Nat → Option Ob)) :=
 (T.ti ty).bind fun ti => match ti.kind with
 | .str => match x with
  | .d (.s s) => (bnd hi s.size).bind fun h => (bnd lo 0).bind fun l => if l ≤ h ∧ h ≤ s.size then some (.d (.s (s.extract l h)), H) else none
  | _ => none
 | .slice e => (T.ti e).bind fun te => match x with
  | .r k => match H k with
   | some (.row sz xs dp fz _) => (bnd hi xs.length).bind fun h => (bnd lo 0).bind fun l => if sz = te.size ∧ l ≤ h ∧ h ≤ xs.length then
    (if fz then some (.d (.l sz ((xs.drop l).take (h - l))), H) else match H dst with
      | none => some (.r dst, upd (upd H k (some .dead)) dst (some (.row sz ((xs.drop l).take (h - l)) dp false 0)))
      | _ => none) else none
   | _ => none
  | .d (.l sz xs) => (bnd hi xs.length).bind fun h => (bnd lo 0).bind fun l => if sz = te.size ∧ l ≤ h ∧ h ≤ xs.length then some (.d (.l sz ((xs.drop l).take (h - l))), H) else none
  | _ => none
 | .arr len e => (T.ti e).bind fun te => match x, lo, hi with
  | .d (.p cs), none, none => if te.size = 1 ∧ cs.length = len ∧ len ≤ maxLen then some (.d (.l 1 (cs.map fun c => [c])), H) else none
  | _, _, _ => none
 | _ => none
section rel
variable {P : Program} {T : Tab} {B : Ctx} {G : Nat → GI} {s : St} {a : Act} {w : World} {H : Nat → Option Ob} {Av : Nat → Prop}
theorem AVR.inv_int {v : Value} {k : IntKind} {n : Int} (h : AVR w G H Av v (.d (.i k n))) : v = .int k n := by
 cases h with
 | d _ _ S h1 ht hS => exact ht.inv_i.1
theorem AVR.inv_bool {v : Value} {x : Bool} (h : AVR w G H Av v (.d (.b x))) : v = .bool x := by
 cases h with
 | d _ _ S h1 ht hS => exact ht.inv_b.1
theorem AVR.inv_str {v : Value} {x : ByteArray} (h : AVR w G H Av v (.d (.s x))) : v = .string x := by
 cases h with
 | d _ _ S h1 ht hS => exact ht.inv_s.1
theorem AVR.int (k : IntKind) (n : Int) : AVR w G H Av (.int k n) (.d (.i k n)) := .sc rfl (.i k n)
theorem opField_ok (hT : T.ok P = true) {ty : TypeId} {p : AV} {f : Nat} {pv : Value} (hp : AVR w G H Av pv p) {av : AV} (hm : opField T H ty p f = some av) :
 ∃ v, (Instr.fieldAt ty pv f).run P w = .ok v w ∧ AVR w G H Av v av := by
 simp only [opField, Option.bind_eq_some_iff] at hm
 obtain ⟨ti, hti, hm⟩ := hm
 have hok := tiok hT hti
 cases hk : ti.kind with
 | strct fs =>
  rw [hk] at hm
  simp only [Option.bind_eq_some_iff] at hm
  obtain ⟨⟨fo, ft⟩, hf, hm⟩ := hm
  obtain ⟨fields, hu, hmap, hne⟩ := hok.strct hk
  obtain ⟨fd, hfd, he⟩ : ∃ fd, fields[f]? = some fd ∧ (fd.offset, fd.type) = (fo, ft) := by
   rw [← hmap] at hf
   simp only [List.getElem?_map, Option.map_eq_some_iff] at hf
   obtain ⟨fd, h1, h2⟩ := hf
   exact ⟨fd, by simpa using h1, h2⟩
  simp only [Prod.mk.injEq] at he
  have hsz : P.cellsOf fd.type ≠ 0 := hne fd (by rw [Array.mem_toList_iff]; exact Array.mem_of_getElem? hfd)
  have hsize : ∃ i, P.info? fd.type = some i ∧ i.size ≠ 0 := by
   unfold Program.cellsOf at hsz
   cases hi : P.info? fd.type with
   | none => simp [hi] at hsz
   | some i => exact ⟨i, rfl, by simpa [hi] using hsz⟩
  obtain ⟨i, hi, hi0⟩ := hsize
  have hrun : ∀ g o, (Instr.fieldAt ty (.pointer (some ⟨g, o, none⟩)) f).run P w = .ok (.pointer (some ⟨g, o + fo, none⟩)) w := by
   intro g o
   have hplace : (fieldPlace ⟨g, o, none⟩ fd).run P w = .ok ⟨g, o + fo, none⟩ w := by
    simp [fieldPlace, Go.sizeOf, typeInfo, hi, hi0, add_at, he.1]
   simp [Instr.fieldAt, run_underlying hu, hfd, Instr.sureAddr, hplace]
  cases hp with
  | a k o cs hk =>
   simp only [hk, Option.some.injEq] at hm
   subst hm
   exact ⟨_, hrun _ _, .a k _ cs hk⟩
  | e k i o sz xs dp fz ve hk hi =>
   simp only [hk, Option.some.injEq] at hm
   subst hm
   exact ⟨_, by rw [hrun, Nat.add_assoc], .e k i _ sz xs dp fz ve hk hi⟩
  | q g bs o cur el fr vs cs S hg hv h1 ht hb hS =>
   simp only [Option.some.injEq] at hm
   subst hm
   exact ⟨_, by rw [hrun, Nat.add_assoc], .q g bs _ cur el fr vs cs S hg hv h1 ht hb hS⟩
  | d v x S h1c ht hS =>
   cases ht with
   | p g o cur e fr vs ds S hg hv h1' ho hs =>
    simp only [Option.some.injEq] at hm
    subst hm
    exact ⟨_, hrun _ _, .q g o _ cur e fr vs _ S hg hv h1' hs (hS g (by simp)) fun b hb => hS b (by simp [hb])⟩
   | _ => first | (cases hm; done) | simp_all
  | _ => first | (cases hm; done) | simp_all
 | _ => rw [hk] at hm; simp at hm
theorem opIndex_ok (hT : T.ok P = true) (h : RelG B G s a w) {ty : TypeId} {x ix : AV} {xv iv : Value} (hx : AVR w G s.heap (Ban B.F G s.heap) xv x) (hi : AVR w G s.heap (Ban B.F G s.heap) iv ix) {av : AV} (hm : opIndex T s.heap ty x ix = some av) :
 ∃ v, (Instr.indexAt ty xv iv).run P w = .ok v w ∧ AVR w G s.heap (Ban B.F G s.heap) v av := by
 simp only [opIndex, Option.bind_eq_some_iff] at hm
 obtain ⟨ti, hti, hm⟩ := hm
 have hok := tiok hT hti
 cases hk : ti.kind with
 | slice e =>
  rw [hk] at hm
  simp only [Option.bind_eq_some_iff] at hm
  obtain ⟨te, hte, hm⟩ := hm
  have hoke := tiok hT hte
  have hu := hok.slice hk
  split at hm
  case h_2 => cases hm
  rename_i kk n
  obtain rfl := hi.inv_int
  have hrun : ∀ (g o len c : Nat), 0 ≤ n → n < (len : Int) → (Instr.indexAt ty (.slice (some ⟨g, o, none⟩) len c) (.int kk n)).run P w = .ok (.pointer (some ⟨g, o + n.toNat * te.size, none⟩)) w := by
   intro g o len c h0 h1
   have hz := hoke.sizeOf (w := w)
   simp [Instr.indexAt, asIntOf, run_underlying hu, h0, h1, hz, add_at]
  cases hx with
  | r k sz xs dp fz ve ad hk ha =>
   simp only [hk] at hm
   split at hm
   case isFalse => cases hm
   rename_i hsz
   split at hm
   case isFalse => cases hm
   rename_i hn
   simp only [Option.some.injEq] at hm
   subst hm
   have hcap := (h.obj k _ hk : RowR w (Ban B.F G s.heap) (G k) sz xs dp fz).cap
   have hlt : 0 < (G k).cap := by omega
   refine ⟨_, by rw [ha hlt]; exact hrun _ _ _ _ hn.1 hn.2, ?_⟩
   have := AVR.e (w := w) (G := G) (H := s.heap) (Av := Ban B.F G s.heap) k n.toNat 0 sz xs dp fz ve hk (by omega)
   rw [Nat.add_zero] at this
   rw [← hsz]
   exact this
  | d v x S h1 ht hS =>
   cases ht with
   | z ad c sz ho =>
    simp only at hm
    split at hm
    case isFalse => cases hm
    split at hm
    case isFalse => cases hm
    rename_i hn
    simp at hn
    omega
   | l g o c sz cur e' fr vs xs S hg hc hmx hl hv hone hxx ho hs =>
    simp only at hm
    split at hm
    case isFalse => cases hm
    rename_i hsz
    split at hm
    case isFalse => cases hm
    rename_i hn
    simp only [Option.some.injEq] at hm
    subst hm
    have hil : n.toNat < xs.length := by omega
    obtain ⟨y, hy⟩ : ∃ y, xs[n.toNat]? = some y := ⟨_, List.getElem?_eq_getElem hil⟩
    have hyl : y.length = sz := hxx y (List.mem_of_getElem? hy)
    have hgd : xs.getD n.toNat [] = y := by rw [List.getD_eq_getElem?_getD, hy]; rfl
    rw [hgd]
    have hmul : (n.toNat + 1) * sz ≤ xs.length * sz := Nat.mul_le_mul_right _ hil
    rw [Nat.succ_mul] at hmul
    refine ⟨_, hrun _ _ _ _ hn.1 hn.2, ?_⟩
    obtain ⟨S1, t1, t2, _⟩ := hs.drop (n.toNat * sz)
    obtain ⟨S2, t3, t4, _⟩ := t1.take sz
    have hds : (xs.flatten.drop (n.toNat * sz)).take sz = y := by
     apply List.ext_getElem?
     intro j
     rw [List.getElem?_take]
     split
     ·rename_i hj
      rw [List.getElem?_drop, flat_get hxx hy (by omega)]
     ·rw [List.getElem?_eq_none (by omega)]
    rw [hds] at t3
    rw [← hsz]
    exact AVR.q g (o + n.toNat * sz) 0 cur e' fr _ y S2 hg (fun j v hj => by
     rw [List.getElem?_take] at hj
     split at hj
     ·rw [List.getElem?_drop] at hj
      rw [Nat.add_assoc]
      exact hv _ _ hj
     ·cases hj) (fun v hv => hone v (List.mem_of_mem_drop (List.mem_of_mem_take hv))) t3 (hS g (by simp)) fun b hb => hS b (by simp [t2 b (t4 b hb)])
   | _ => first | (cases hm; done) | simp_all
  | _ => first | (cases hm; done) | simp_all
 | arr len e =>
  rw [hk] at hm
  simp only [Option.bind_eq_some_iff] at hm
  obtain ⟨te, hte, hm⟩ := hm
  have hoke := tiok hT hte
  have hu := hok.arr hk
  split at hm
  case h_2 => cases hm
  rename_i kk n
  obtain rfl := hi.inv_int
  split at hm
  case h_2 => cases hm
  rename_i cs
  split at hm
  case isFalse => cases hm
  rename_i hsz
  obtain ⟨hsz, rfl⟩ := hsz
  split at hm
  case isFalse => cases hm
  rename_i hn
  simp only [Option.some.injEq] at hm
  subst hm
  cases hx with
  | d v x S h1 ht hS =>
   cases ht with
   | p g o cur el fr vs _ S hg hv hone ho hs =>
    have hl := hs.length
    have hil : n.toNat < cs.length := by omega
    obtain ⟨y, hy⟩ : ∃ y, cs[n.toNat]? = some y := ⟨_, List.getElem?_eq_getElem hil⟩
    have hgd : cs.getD n.toNat .u = y := by rw [List.getD_eq_getElem?_getD, hy]; rfl
    rw [hgd]
    have hz := hoke.sizeOf (w := w)
    rw [hsz] at hz
    refine ⟨.pointer (some ⟨g, o + n.toNat, none⟩), ?_, ?_⟩
    ·simp [Instr.indexAt, asIntOf, Instr.sureAddr, run_underlying hu, hn.1, hn.2, hz, add_at]
    obtain ⟨u, S1, hu1, ht1, hS1, _⟩ := hs.get hy
    have := AVR.q (w := w) (G := G) (H := s.heap) (Av := Ban B.F G s.heap) g (o + n.toNat) 0 cur el fr [u] [y] (S1 ++ []) hg (fun j v hj => by
     cases j with
     | zero => simp at hj; subst hj; exact hv _ _ hu1
     | succ j => simp at hj) (fun v hv => by simp at hv; subst hv; exact hone _ (List.mem_of_getElem? hu1)) (.cons _ _ _ _ _ _ ht1 .nil) (hS g (by simp)) (fun b hb => hS b (by
      have hb : b ∈ S1 := by simpa using hb
      simp [hS1 b hb]))
    exact this
 | _ => rw [hk] at hm; simp at hm
theorem opByte_ok (hT : T.ok P = true) {ty : TypeId} {x ix : AV} {xv iv : Value} (hx : AVR w G H Av xv x) (hi : AVR w G H Av iv ix) {av : AV} (hm : opByte T ty x ix = some av) :
 ∃ v, (Instr.index ty xv iv).run P w = .ok v w ∧ AVR w G H Av v av := by
 simp only [opByte, Option.bind_eq_some_iff] at hm
 obtain ⟨ti, hti, hm⟩ := hm
 have hok := tiok hT hti
 cases hk : ti.kind with
 | str =>
  rw [hk] at hm
  simp only at hm
  split at hm
  case h_2 => cases hm
  rename_i str kk n
  obtain rfl := hi.inv_int
  obtain rfl := hx.inv_str
  split at hm
  case isFalse => cases hm
  rename_i hn
  simp only [Option.some.injEq] at hm
  subst hm
  have hlt : n.toNat < str.size := by omega
  have hb : str[n.toNat]? = some (str.data.getD n.toNat 0) := by
   have : str[n.toNat]? = str.data[n.toNat]? := rfl
   have hs : n.toNat < str.data.size := hlt
   rw [this, Array.getD_eq_getD_getElem?, Array.getElem?_eq_getElem hs]
   rfl
  refine ⟨.int .u8 (byteAt str n), ?_, .int _ _⟩
  simp [Instr.index, asIntOf, run_underlying (hok.str hk), hn.1, hb, byteAt]
 | _ => rw [hk] at hm; simp at hm
theorem opLen_ok (hT : T.ok P = true) (h : RelG B G s a w) {ty ty' : TypeId} {x : AV} {xv : Value} (hx : AVR w G s.heap (Ban B.F G s.heap) xv x) {av : AV} (hm : opLen T s.heap ty x = some av) :
 ∃ v, (Builtin.len_ #[ty] ty' #[xv]).run P w = .ok v w ∧ AVR w G s.heap (Ban B.F G s.heap) v av := by
 simp only [opLen, Option.bind_eq_some_iff] at hm
 obtain ⟨ti, hti, hm⟩ := hm
 have hok := tiok hT hti
 cases hk : ti.kind with
 | str =>
  rw [hk] at hm
  simp only at hm
  split at hm
  case h_2 => cases hm
  obtain rfl := hx.inv_str
  simp only [Option.some.injEq] at hm
  subst hm
  exact ⟨_, by simp [Builtin.len_, run_underlying (hok.str hk)]; rfl, .int _ _⟩
 | slice e =>
  rw [hk] at hm
  have hrun : ∀ (ad : Option Addr) (n c : Nat), (Builtin.len_ #[ty] ty' #[.slice ad n c]).run P w = .ok (.int .i64 n) w := by
   intro ad n c
   simp [Builtin.len_, run_underlying (hok.slice hk), goInt]
  cases hx with
  | r k sz xs dp fz ve ad hk' ha =>
   simp only [hk', Option.some.injEq] at hm
   subst hm
   exact ⟨_, hrun _ _ _, .int _ _⟩
  | z sz =>
   simp only [Option.some.injEq] at hm
   subst hm
   exact ⟨_, hrun _ _ _, .int _ _⟩
  | m k i o sz xs dp fz ve v z ys hk' hj hvj h1 =>
   simp only [hk'] at hm
   split at hm
   case isFalse => cases hm
   rename_i hc
   have hR : RowR w (Ban B.F G s.heap) (G k) sz xs dp fz := h.obj k _ hk'
   obtain ⟨x, hx⟩ : ∃ x, xs[i]? = some x := ⟨_, List.getElem?_eq_getElem hc.2.1⟩
   have hgd : xs.getD i [] = x := by rw [List.getD_eq_getElem?_getD, hx]; rfl
   have hfx := flat_get hR.uni hx hc.2.2
   rw [hfx] at hj
   have hgo : x.getD o .u = .l z ys := by rw [List.getD_eq_getElem?_getD, hj]; rfl
   rw [hgd, hgo] at hm
   simp only [Option.some.injEq] at hm
   subst hm
   obtain ⟨u, S1, hu, ht, hS, _⟩ := hR.tr.get (hfx.trans hj)
   rw [hvj] at hu
   cases hu
   cases ht with
   | z ad c sz ho => exact ⟨_, hrun _ _ _, .int _ _⟩
   | l g o c sz cur e' fr vs xs S hg hc hmx hl hv hone hxx ho hs => exact ⟨_, hrun _ _ _, .int _ _⟩
  | mo k i o sz xs dp fz ve ve' v hk' hlt =>
   simp only [hk'] at hm
   split at hm
   ·rename_i hc; omega
   ·cases hm
  | md k ve i o v hk' => simp [hk'] at hm
  | d v x S h1 ht hS =>
   cases ht with
   | z ad c sz ho =>
    simp only [Option.some.injEq] at hm
    subst hm
    exact ⟨_, hrun _ _ _, .int _ _⟩
   | l g o c sz cur e' fr vs xs S hg hc hmx hl hv hone hxx ho hs =>
    simp only [Option.some.injEq] at hm
    subst hm
    exact ⟨_, hrun _ _ _, .int _ _⟩
   | _ => first | (cases hm; done) | simp_all
  | _ => first | (cases hm; done) | simp_all
 | _ => rw [hk] at hm; simp at hm
end rel
end Go.Fs
namespace Go.Fs
open Go.RowKit
section rel
variable {P : Program} {T : Tab} {B : Ctx} {G : Nat → GI} {s : St} {a : Act} {w w' : World}
theorem RelG.putRow (h : RelG B G s a w) {H1 : Nat → Option Ob} (hkeys : ∀ k, H1 k = s.heap k ∨ (s.heap k ≠ none ∧ H1 k = some .dead)) {k : Nat} (hk : H1 k = none) (gi : GI) (sz : Nat) (xs : List (List D)) (dp : Bool) (ve : Nat)
 (hr : Rest w w') (hw : ∀ b, b < w.heap.size → (∀ i, H1 i ≠ s.heap i → b ∉ ownOf (G i) (s.heap i)) → w'.heap[b]? = w.heap[b]?)
 (hsub : ∀ b ∈ ownOf gi (some (.row sz xs dp false ve)), (∃ i, H1 i ≠ s.heap i ∧ b ∈ ownOf (G i) (s.heap i)) ∨ w.heap.size ≤ b)
 (hnd : (ownOf gi (some (.row sz xs dp false ve))).Nodup)
 (hobj : RowR w' (Ban B.F (upd G k gi) (upd H1 k (some (.row sz xs dp false ve)))) gi sz xs dp false) :
 RelG B (upd G k gi) { s with heap := upd H1 k (some (.row sz xs dp false ve)) } a w' := by
 have hks : s.heap k = none := by
  rcases hkeys k with e | ⟨_, e⟩
  ·rw [← e]; exact hk
  ·rw [hk] at e; cases e
 have hdead : ∀ i, H1 i ≠ s.heap i → H1 i = some .dead := fun i hn => (hkeys i).elim (fun e => absurd e hn) fun e => e.2
 have hne : ∀ i, H1 i ≠ s.heap i → i ≠ k := fun i hn e => by subst e; rw [hk, hks] at hn; exact hn rfl
 refine h.step (w' := w') (G' := upd G k gi) _ (fun i => i = k ∨ H1 i ≠ s.heap i) hr ?_ ?_ ?_ ?_ ?_ ?_ ?_
 ·intro b hb hn
  exact hw b hb fun i hi => hn i (.inr hi)
 ·intro i hi
  simp only [not_or, ne_eq, Classical.not_not] at hi
  exact ⟨(upd_ne _ _ hi.1).trans hi.2, upd_ne _ _ hi.1⟩
 ·intro i o hi ho
  have hi' : i ≠ k := fun e => by subst e; rw [hks] at ho; cases ho
  have hd := hdead i (hi.resolve_left hi')
  exact ⟨.dead, by rw [upd_ne _ _ hi']; exact hd, .dead _⟩
 ·intro i hi b hb
  by_cases e : i = k
  ·subst e
   rw [upd_same, upd_same] at hb
   rcases hsub b hb with ⟨j, hj, hm⟩ | hge
   ·exact .inl ⟨j, .inr hj, hm⟩
   ·exact .inr hge
  ·rw [upd_ne _ _ e, upd_ne _ _ e, hdead i (hi.resolve_left e)] at hb
   simp [ownOf] at hb
 ·intro i hi
  by_cases e : i = k
  ·subst e; rw [upd_same, upd_same]; exact hnd
  ·rw [upd_ne _ _ e, upd_ne _ _ e, hdead i (hi.resolve_left e)]
   simp [ownOf]
 ·intro i j hi hj b hb hb'
  by_cases e : i = k
  ·by_cases e2 : j = k
   ·rw [e, e2]
   ·rw [upd_ne _ _ e2, upd_ne _ _ e2, hdead j (hj.resolve_left e2)] at hb'
    simp [ownOf] at hb'
  ·rw [upd_ne _ _ e, upd_ne _ _ e, hdead i (hi.resolve_left e)] at hb
   simp [ownOf] at hb
 ·intro i o hi ho
  by_cases e : i = k
  ·subst e; rw [upd_same] at ho ⊢; cases ho; exact hobj
  ·rw [upd_ne _ _ e, hdead i (hi.resolve_left e)] at ho
   cases ho
   trivial
theorem own_put {H1 : Nat → Option Ob} {k : Nat} {gi : GI} {o : Ob} {b : Nat} (hb : Ban B.F (upd G k gi) (upd H1 k (some o)) b) : Ban B.F G H1 b ∨ b ∈ ownOf gi (some o) := ban_new hb
theorem ban_kill {k b : Nat} (hb : Ban B.F G (upd s.heap k (some .dead)) b) : Ban B.F G s.heap b := hb.imp (fun h => (own_kill h).1) id
end rel
end Go.Fs
namespace Go.Fs
open Go.RowKit
section rel
variable {P : Program} {T : Tab} {B : Ctx} {G : Nat → GI} {s : St} {a : Act} {w : World} {H : Nat → Option Ob} {Av : Nat → Prop}
inductive BndR (w : World) (G : Nat → GI) (H : Nat → Option Ob) (Av : Nat → Prop) : Option Value → Option AV → Prop
 | none : BndR w G H Av none none
 | some (v : Value) (av : AV) (h : AVR w G H Av v av) : BndR w G H Av (some v) (some av)
theorem run_bounds {isSlice : Bool} {len cap d h l : Nat} {lo hi : Option Value} {lo' hi' : Option AV} (hlo : BndR w G H Av lo lo') (hhi : BndR w G H Av hi hi') (e1 : bnd hi' len = some h) (e2 : bnd lo' 0 = some l)
 (h1 : l ≤ h) (h2 : h ≤ cap) : (Instr.sliceBounds isSlice len cap lo hi none).run P w = .ok (l, h, cap) w := by
 have hb : ∀ {v : Value} {av : AV} {n : Nat} (y : Nat) (code : BoundsCode) (dd : Nat), AVR w G H Av v av → bnd (some av) dd = some n → n ≤ y → (Instr.sliceBound v y code).run P w = .ok n w := by
  intro v av n y code dd hv he hy
  unfold bnd at he
  split at he
  ·rename_i hh; cases hh
  ·rename_i k m hh
   simp only [Option.some.injEq] at hh
   subst hh
   obtain rfl := hv.inv_int
   split at he
   ·rename_i h0
    simp only [Option.some.injEq] at he
    have : 0 ≤ m ∧ m ≤ (y : Int) := by omega
    simp [Instr.sliceBound, asIntOf, this, he]
   ·cases he
  ·cases he
 unfold Instr.sliceBounds
 cases hlo with
 | none =>
  simp only [bnd, Option.some.injEq] at e2
  subst e2
  cases hhi with
  | none => simp only [bnd, Option.some.injEq] at e1; subst e1; rfl
  | some v av hv =>
   have r1 := fun code => hb cap code _ hv e1 h2
   simp only [Sem.run_bind, Sem.run_pure, Result.andThen_ok, r1]
 | some u au hu =>
  have r2 := fun code => hb h code _ hu e2 h1
  cases hhi with
  | none =>
   simp only [bnd, Option.some.injEq] at e1
   subst e1
   simp only [Sem.run_bind, Sem.run_pure, Result.andThen_ok, r2]
  | some v av hv =>
   have r1 := fun code => hb cap code _ hv e1 h2
   simp only [Sem.run_bind, Sem.run_pure, Result.andThen_ok, r1, r2]
theorem opSlice_ok (hT : T.ok P = true) (h : RelG B G s a w) {ty : TypeId} {x : AV} {xv : Value} {lo hi : Option AV} {lov hiv : Option Value} (hx : AVR w G s.heap (Ban B.F G s.heap) xv x)
 (hlo : BndR w G s.heap (Ban B.F G s.heap) lov lo) (hhi : BndR w G s.heap (Ban B.F G s.heap) hiv hi) {av : AV} {H' : Nat → Option Ob} {dst : Nat} (hm : opSlice T s.heap dst ty x lo hi = some (av, H')) :
 ∃ v G', (Instr.sliceAt ty xv lov hiv none).run P w = .ok v w ∧ RelG B G' { s with heap := H' } a w ∧ AVR w G' H' (Ban B.F G' H') v av := by
 simp only [opSlice, Option.bind_eq_some_iff] at hm
 obtain ⟨ti, hti, hm⟩ := hm
 have hok := tiok hT hti
 cases hk : ti.kind with
 | str =>
  rw [hk] at hm
  simp only at hm
  split at hm
  case h_2 => cases hm
  rename_i str
  obtain rfl := hx.inv_str
  simp only [Option.bind_eq_some_iff] at hm
  obtain ⟨h', e1, l', e2, hm⟩ := hm
  split at hm
  case isFalse => cases hm
  rename_i hc
  simp only [Option.some.injEq, Prod.mk.injEq] at hm
  obtain ⟨rfl, rfl⟩ := hm
  have hb := run_bounds (P := P) (isSlice := false) (cap := str.size) (d := 0) hlo hhi e1 e2 hc.1 hc.2
  refine ⟨.string (str.extract l' h'), G, ?_, h, .sc rfl (.s _)⟩
  unfold Instr.sliceAt
  simp only [Sem.run_bind, run_underlying (hok.str hk), Result.andThen_ok]
  unfold Instr.slice
  simp only [Sem.run_bind, run_underlying (hok.str hk), Result.andThen_ok]
  simp [hb]
 | slice e =>
  rw [hk] at hm
  simp only [Option.bind_eq_some_iff] at hm
  obtain ⟨te, hte, hm⟩ := hm
  have hoke := tiok hT hte
  have hu := hok.slice hk
  have hrun : ∀ (ad : Option Addr) (n c h' l' : Nat), bnd hi n = some h' → bnd lo 0 = some l' → l' ≤ h' → h' ≤ c →
   (Instr.sliceAt ty (.slice ad n c) lov hiv none).run P w = .ok (.slice (if c = l' then ad else ad.map (·.add (l' * te.size))) (h' - l') (c - l')) w := by
   intro ad n c h' l' e1 e2 hc1 hc2
   have hb := run_bounds (P := P) (isSlice := true) (cap := c) (d := 0) hlo hhi e1 e2 hc1 hc2
   unfold Instr.sliceAt
   simp only [Sem.run_bind, run_underlying hu, Result.andThen_ok]
   unfold Instr.slice
   simp only [Sem.run_bind, run_underlying hu, Result.andThen_ok]
   simp only [hb, Result.andThen_ok, hoke.sizeOf w, Sem.run_pure]
  cases hx with
  | r k sz xs dp fz ve ad hk' ha =>
   simp only [hk', Option.bind_eq_some_iff] at hm
   obtain ⟨h', e1, l', e2, hm⟩ := hm
   split at hm
   case isFalse => cases hm
   rename_i hc
   have hR : RowR w (Ban B.F G s.heap) (G k) sz xs dp fz := h.obj k _ hk'
   have hcap := hR.cap
   have hr := hrun ad xs.length (G k).cap h' l' e1 e2 hc.2.1 (by omega)
   have hle : ((xs.drop l').take (h' - l')).length = h' - l' := by rw [List.length_take, List.length_drop]; omega
   have had : l' < (G k).cap → (if (G k).cap = l' then ad else ad.map (·.add (l' * te.size))) = some ⟨(G k).blk, (G k).off + l' * sz, none⟩ := fun hlt => by
    rw [if_neg (by omega), ha (by omega)]
    simp only [Option.map_some, add_at, hc.1]
   have hcut := hR.window (off := l') (len := h' - l') (ad := if (G k).cap = l' then ad else ad.map (·.add (l' * te.size))) (by omega) had
   cases fz with
   | true =>
    simp only [if_true, Option.some.injEq, Prod.mk.injEq] at hm
    obtain ⟨rfl, rfl⟩ := hm
    obtain ⟨S, t1, t2, t3⟩ := hcut
    refine ⟨_, G, hr, h, .d _ _ S rfl t1.shared fun b hb => ?_⟩
    obtain ⟨hc0, hb⟩ := t2 b hb
    rcases List.mem_cons.1 hb with rfl | hb
    ·exact hR.frz rfl (by omega)
    ·exact hR.sub (.inr rfl) b hb
   | false =>
    simp only [Bool.false_eq_true, if_false] at hm
    split at hm
    case h_2 => cases hm
    rename_i hd
    simp only [Option.some.injEq, Prod.mk.injEq] at hm
    obtain ⟨rfl, rfl⟩ := hm
    have hne : s.heap k ≠ none := by rw [hk']; simp
    have hkd : k ≠ dst := fun e => by subst e; rw [hk'] at hd; cases hd
    have hH1 : (upd s.heap k (some .dead)) dst = none := by rw [upd_ne _ _ (Ne.symm hkd)]; exact hd
    have hkeys : ∀ j, (upd s.heap k (some .dead)) j = s.heap j ∨ (s.heap j ≠ none ∧ (upd s.heap k (some .dead)) j = some .dead) := by
     intro j
     by_cases e' : j = k
     ·subst e'; exact .inr ⟨hne, upd_same ..⟩
     ·exact .inl (upd_ne _ _ e')
    by_cases hz0 : (G k).cap - l' = 0
    ·let gi : GI := { blk := (G k).blk, off := 0, cap := 0, vs := [], sub := [] }
     have hnil : (xs.drop l').take (h' - l') = [] := List.eq_nil_of_length_eq_zero (by rw [hle]; omega)
     have hhl : h' - l' = 0 := by omega
     rw [hnil]
     refine ⟨_, upd G dst gi, hr, h.putRow (w' := w) hkeys hH1 gi sz [] dp 0 (.refl w) (fun _ _ _ => rfl) (by simp [ownOf, gi]) (by simp [ownOf, gi]) (RowR.mkVoid ..), ?_⟩
     have := AVR.r (w := w) (G := upd G dst gi) (H := upd (upd s.heap k (some .dead)) dst (some (.row sz [] dp false 0))) (Av := Ban B.F (upd G dst gi) (upd (upd s.heap k (some .dead)) dst (some (.row sz [] dp false 0)))) dst sz [] dp false 0 (if (G k).cap = l' then ad else ad.map (·.add (l' * te.size))) (upd_same ..) (fun hlt => by
      rw [upd_same] at hlt
      exact absurd hlt (Nat.lt_irrefl 0))
     rw [upd_same] at this
     rw [hhl, hz0]
     exact this
    obtain ⟨hcells, r2, r3, r4, r5, r6, r7, r8, r9, r10⟩ := hR
    have hc0 : (G k).cap ≠ 0 := by omega
    obtain ⟨cur, el, hg, hcp, hvs⟩ := hcells (by omega)
    have hm' : (l' + (h' - l')) * sz ≤ (G k).vs.length := by rw [r4]; exact Nat.mul_le_mul_right _ (by omega)
    rw [Nat.add_mul] at hm'
    obtain ⟨S1, t1, t2, t3⟩ := r7.drop (l' * sz)
    obtain ⟨S2, t4, t5, t6⟩ := t1.take ((h' - l') * sz)
    have hfl : ((xs.drop l').take (h' - l')).flatten = (xs.flatten.drop (l' * sz)).take ((h' - l') * sz) := by
     rw [flat_take (fun x hx => r6 x (List.mem_of_mem_drop hx)), flat_drop r6]
    have hcs : ((G k).cap - l') * sz + l' * sz = (G k).cap * sz := by rw [← Nat.add_mul]; congr 1; omega
    have hsubk : (G k).blk ∉ (G k).sub := by
     cases hdp : dp with
     | true =>
      have := h.nodup k
      simp only [hk', hdp, ownOf, if_true, hc0, if_false] at this
      exact (List.nodup_cons.1 this).1
     | false => exact fun hb => r9 (.inl hdp) _ hb (.inl ⟨k, by rw [hk']; simp [ownOf, hc0]⟩)
    let gi : GI := { blk := (G k).blk, off := (G k).off + l' * sz, cap := (G k).cap - l', vs := ((G k).vs.drop (l' * sz)).take ((h' - l') * sz), sub := S2 }
    have hchg : (upd s.heap k (some .dead)) k ≠ s.heap k := by rw [upd_same, hk']; simp
    have hmem : ∀ b, b = (G k).blk ∨ (dp = true ∧ b ∈ S2) → b ∈ ownOf (G k) (s.heap k) := by
     rintro b (rfl | ⟨hdp, hb⟩)
     ·rw [hk']; simp [ownOf, hc0]
     ·rw [hk', hdp]; simp [ownOf, hc0, t2 b (t5 b hb)]
    refine ⟨_, upd G dst gi, hr, ?_, ?_⟩
    ·refine h.putRow (w' := w) hkeys hH1 gi sz ((xs.drop l').take (h' - l')) dp 0 (.refl w) (fun _ _ _ => rfl) ?_ ?_ ?_
     ·intro b hb
      refine .inl ⟨k, hchg, hmem b ?_⟩
      cases dp with
      | false => simp [ownOf, gi, hz0] at hb; exact .inl hb
      | true => simp [ownOf, gi, hz0] at hb; exact hb.imp id fun h => ⟨rfl, h⟩
     ·cases dp with
      | false => simp [ownOf, gi, hz0]
      | true => simp only [ownOf, if_true, gi, hz0, if_false]; exact List.nodup_cons.2 ⟨fun hb => hsubk (t2 _ (t5 _ hb)), t6 (t3 (r8 rfl))⟩
     ·refine ⟨fun _ => ⟨cur, el, hg, by simp only [gi]; omega, ?_⟩, by rw [hle]; simp only [gi]; omega, by simp only [gi]; omega, ?_, fun v hv => r5 v (List.mem_of_mem_drop (List.mem_of_mem_take hv)), fun x hx => r6 x (List.mem_of_mem_drop (List.mem_of_mem_take hx)), by rw [hfl]; exact t4, fun hdp => t6 (t3 (r8 hdp)), ?_, by simp⟩
      ·intro j v hj
       simp only [gi] at hj ⊢
       rw [List.getElem?_take] at hj
       split at hj
       ·rw [List.getElem?_drop] at hj
        rw [Nat.add_assoc]
        exact hvs _ _ hj
       ·cases hj
      ·rw [hle]
       simp only [gi]
       rw [List.length_take, List.length_drop]
       omega
      ·intro hdp b hb hn
       have hdp' : dp = false := by simpa using hdp
       rcases own_put hn with hn | hn
       ·exact r9 (.inl hdp') b (t2 b (t5 b hb)) (ban_kill hn)
       ·rw [hdp'] at hn
        simp [ownOf, gi, hz0] at hn
        subst hn
        exact hsubk (t2 _ (t5 _ hb))
    ·have := AVR.r (w := w) (G := upd G dst gi) (H := upd (upd s.heap k (some .dead)) dst (some (.row sz ((xs.drop l').take (h' - l')) dp false 0))) (Av := Ban B.F (upd G dst gi) (upd (upd s.heap k (some .dead)) dst (some (.row sz ((xs.drop l').take (h' - l')) dp false 0)))) dst sz ((xs.drop l').take (h' - l')) dp false 0 (if (G k).cap = l' then ad else ad.map (·.add (l' * te.size))) (upd_same ..) (fun hlt => by
      rw [upd_same] at hlt ⊢
      simp only [gi] at hlt ⊢
      exact had (by omega))
     rw [upd_same, hle] at this
     exact this
  | d v x S h1 ht hS =>
   cases ht with
   | z ad c sz ho =>
    simp only [Option.bind_eq_some_iff] at hm
    obtain ⟨h', e1, l', e2, hm⟩ := hm
    split at hm
    case isFalse => cases hm
    rename_i hc
    simp only [Option.some.injEq, Prod.mk.injEq] at hm
    obtain ⟨rfl, rfl⟩ := hm
    simp only [List.length_nil] at hc
    obtain ⟨rfl, rfl⟩ : h' = 0 ∧ l' = 0 := by omega
    refine ⟨_, G, hrun _ _ _ _ _ e1 e2 (by omega) (by omega), h, ?_⟩
    simp only [Nat.sub_zero, List.drop_nil, List.take_nil]
    exact .d _ _ [] rfl (.z _ _ _ (by simp)) (by simp)
   | l g o c sz cur e' fr vs xs S hg hc' hmx hl hv hone hxx ho hs =>
    simp only [Option.bind_eq_some_iff] at hm
    obtain ⟨h', e1, l', e2, hm⟩ := hm
    split at hm
    case isFalse => cases hm
    rename_i hc
    simp only [Option.some.injEq, Prod.mk.injEq] at hm
    obtain ⟨rfl, rfl⟩ := hm
    refine ⟨_, G, hrun _ _ _ _ _ e1 e2 hc.2.1 (by omega), h, ?_⟩
    by_cases hcl : l' < c
    ·have hle : ((xs.drop l').take (h' - l')).length = h' - l' := by rw [List.length_take, List.length_drop]; omega
     have hm' : (l' + (h' - l')) * sz ≤ vs.length := by rw [hl]; exact Nat.mul_le_mul_right _ (by omega)
     rw [Nat.add_mul] at hm'
     obtain ⟨S1, t1, t2, t3⟩ := hs.drop (l' * sz)
     obtain ⟨S2, t4, t5, t6⟩ := t1.take ((h' - l') * sz)
     have hfl : ((xs.drop l').take (h' - l')).flatten = (xs.flatten.drop (l' * sz)).take ((h' - l') * sz) := by
      rw [flat_take (fun x hx => hxx x (List.mem_of_mem_drop hx)), flat_drop hxx]
     have := Tr.l (w := w) (own := false) g (o + l' * sz) (c - l') sz cur e' fr ((vs.drop (l' * sz)).take ((h' - l') * sz)) ((xs.drop l').take (h' - l')) S2 hg (by omega) (by omega)
      (by rw [List.length_take, List.length_drop, hle]; omega) (fun j v hj => by
        rw [List.getElem?_take] at hj
        split at hj
        ·rw [List.getElem?_drop] at hj
         rw [Nat.add_assoc]
         exact hv _ _ hj
        ·cases hj)
      (fun v hv' => hone v (List.mem_of_mem_drop (List.mem_of_mem_take hv'))) (fun x hx => hxx x (List.mem_of_mem_drop (List.mem_of_mem_take hx)))
      (by simp) (by rw [hfl]; exact t4)
     rw [hle] at this
     rw [if_neg (by omega)]
     simp only [Option.map_some, add_at, ← hc.1]
     exact .d _ _ _ rfl this (by
      intro b hb
      rcases List.mem_cons.1 hb with rfl | hb
      ·exact hS b (by simp)
      ·exact hS b (by simp [t2 b (t5 b hb)]))
    ·obtain ⟨e3, e4⟩ : h' - l' = 0 ∧ c - l' = 0 := by omega
     rw [e3, List.take_zero]
     exact .d _ _ [] rfl (.z _ _ _ (by simp)) (by simp)
   | _ => first | (cases hm; done) | simp_all
  | _ => first | (cases hm; done) | simp_all
 | arr len e =>
  rw [hk] at hm
  simp only [Option.bind_eq_some_iff] at hm
  obtain ⟨te, hte, hm⟩ := hm
  have hoke := tiok hT hte
  have hu := hok.arr hk
  split at hm
  case h_2 => cases hm
  rename_i cs
  split at hm
  case isFalse => cases hm
  rename_i hsz
  obtain ⟨hsz, rfl, hml⟩ := hsz
  simp only [Option.some.injEq, Prod.mk.injEq] at hm
  obtain ⟨rfl, rfl⟩ := hm
  cases hlo
  cases hhi
  have hz := hoke.sizeOf (w := w)
  have hal : P.arrayLen ty = cs.length := by simp [Program.arrayLen, hu]
  have hel : P.elem ty = e := by simp [Program.elem, hu]
  cases hx with
  | d v x S h1 ht hS =>
   cases ht with
   | p g o cur el fr vs _ S hg hv hone ho hs =>
    have hl := hs.length
    have hfl : ∀ l : List D, (l.map fun c => [c]).flatten = l := fun l => by
     induction l with
     | nil => rfl
     | cons x l ih => simp [ih]
    refine ⟨.slice (some ⟨g, o, none⟩) cs.length cs.length, G, ?_, h, ?_⟩
    ·rw [run_sliceAt_array_all w ty ⟨g, o, none⟩ (by rw [hal, hel]; exact hu), hel, hz, Result.andThen_ok, hal]
     simp [slicedAt, sliced, Addr.add]
    ·have := Tr.l (w := w) (own := false) g o cs.length 1 cur el fr vs (cs.map fun c => [c]) S hg (by simp) hml (by simp [hl]) hv hone (by simp) (by simp) (by rw [hfl]; exact hs)
     rw [List.length_map] at this
     exact .d _ _ _ rfl this hS
 | _ => rw [hk] at hm; simp at hm
end rel
end Go.Fs
namespace Go.Fs
open Go.RowKit
def opAlloc (T : Tab) (H : Nat → Option Ob) (dst : Nat) (ty : TypeId) : Option (AV × (Nat → Option Ob)) :=
 (T.ti ty).bind fun ti => match H dst with
 | none => if ty = bT ∧ T.bld = true then some (.bp dst, upd H dst (some (.bld ByteArray.empty))) else some (.a dst 0, upd H dst (some (.box ti.zero)))
 | _ => none
def opBox (H : Nat → Option Ob) (dst : Nat) (x : AV) : Option (AV × (Nat → Option Ob)) :=
 if (cellsA x).all (oneA H) = true then match H dst with
 | none => some (.a dst 0, upd H dst (some (.box (cellsA x))))
 | _ => none else none
def fillA (pl : Nat → Option (Nat × Nat)) (cells : List AV) : List (Nat × AV) → Option (List AV)
 | [] => some cells
 | (i, av) :: rest => match pl i with
  | some (off, size) => if (cellsA av).length = size ∧ off + size ≤ cells.length then fillA pl (cells.take off ++ cellsA av ++ cells.drop (off + size)) rest else none
  | none => none
def placeT (T : Tab) (fs : List (Nat × TypeId)) (i : Nat) : Option (Nat × Nat) := (fs[i]?).bind fun x => (T.ti x.2).map fun ti => (x.1, ti.size)
def sizesT (T : Tab) (fs : List (Nat × TypeId)) : Bool := fs.all fun x => (T.ti x.2).isSome
def opBuild (T : Tab) (H : Nat → Option Ob) (ty : TypeId) (parts : List (Nat × AV)) : Option AV :=
 (T.ti ty).bind fun ti => match ti.kind with
 | .strct fs => if (parts.all fun x => (cellsA x.2).all (oneA H)) = true ∧ sizesT T fs = true then (fillA (placeT T fs) ti.zero parts).map .g else none
 | _ => none
section rel
variable {P : Program} {T : Tab} {B : Ctx} {G : Nat → GI} {s : St} {a : Act} {w : World} {H : Nat → Option Ob} {Av : Nat → Prop}
theorem rest_alloc (w : World) (o : Obj) : Rest w (w.alloc o) := ⟨rfl, rfl, rfl, by simp⟩
theorem run_newRow (e : TypeId) (cs : Array Value) : (newRow e cs).run P w = .ok ⟨w.heap.size, 0, none⟩ (w.alloc (.cells cs e)) := by
 simp only [newRow, newObj, bind, Sem.bind, Sem.run, pure]
 rfl
theorem run_newVar (e : TypeId) (v : Value) : (newVar e v).run P w = .ok ⟨w.heap.size, 0, none⟩ (w.alloc (.cells v.cells e)) := run_newRow e v.cells
theorem RelG.box (h : RelG B G s a w) {k : Nat} (hk : s.heap k = none) {vs : Array Value} {cs : List AV} (ty : TypeId) (hv : AVRL w G s.heap (Ban B.F G s.heap) vs.toList cs) (h1 : ∀ v ∈ vs.toList, v.oneCell' = true) :
 ∃ G', RelG B G' { s with heap := upd s.heap k (some (.box cs)) } a (w.alloc (.cells vs ty)) ∧ AVR (w.alloc (.cells vs ty)) G' (upd s.heap k (some (.box cs))) (Ban B.F G' (upd s.heap k (some (.box cs)))) (.pointer (some ⟨w.heap.size, 0, none⟩)) (.a k 0) := by
 let gi : GI := { blk := w.heap.size, off := 0, cap := 0, vs := [], sub := [] }
 have hold : ∀ b, b < w.heap.size → (w.alloc (.cells vs ty)).heap[b]? = w.heap[b]? := fun b hb => heap_alloc_old w _ b hb
 have hM := AVR.mono_both (w := w) (w' := w.alloc (.cells vs ty)) (G := G) (G' := upd G k gi) (H := s.heap) (H' := upd s.heap k (some (.box cs))) (Av := Ban B.F G s.heap) (Av' := Ban B.F (upd G k gi) (upd s.heap k (some (.box cs))))
  (fun b hb _ => hold b hb)
  (fun b hb ho => by
    rcases ban_new ho with ho | ho
    ·exact ho
    ·simp [ownOf, gi] at ho; omega)
  (fun i o ho => by
    have e : i ≠ k := fun e => by subst e; rw [hk] at ho; cases ho
    exact ⟨o, by rw [upd_ne _ _ e]; exact ho, by rw [upd_ne _ _ e]; exact Ob.to.refl _ _⟩)
 refine ⟨upd G k gi, h.new k gi (.box cs) hk (rest_alloc ..) hold (by simp [ownOf, gi]) (by simp [ownOf]) ⟨vs, ty, heap_alloc_new w _, hM.2 hv, h1⟩, ?_⟩
 have := AVR.a (w := w.alloc (.cells vs ty)) (G := upd G k gi) (H := upd s.heap k (some (.box cs))) (Av := Ban B.F (upd G k gi) (upd s.heap k (some (.box cs)))) k 0 cs (upd_same ..)
 rw [upd_same] at this
 exact this
theorem RelG.bld (h : RelG B G s a w) {k : Nat} (hk : s.heap k = none) :
 ∃ G', RelG B G' { s with heap := upd s.heap k (some (.bld ByteArray.empty)) } a (w.alloc (.cells #[.pointer none, .slice none 0 0] bT)) ∧
  AVR (w.alloc (.cells #[.pointer none, .slice none 0 0] bT)) G' (upd s.heap k (some (.bld ByteArray.empty))) (Ban B.F G' (upd s.heap k (some (.bld ByteArray.empty)))) (.pointer (some ⟨w.heap.size, 0, none⟩)) (.bp k) := by
 let gi : GI := { blk := w.heap.size, off := 0, cap := 0, vs := [], sub := [] }
 have hold : ∀ b, b < w.heap.size → (w.alloc (.cells #[.pointer none, .slice none 0 0] bT)).heap[b]? = w.heap[b]? := fun b hb => heap_alloc_old w _ b hb
 refine ⟨upd G k gi, h.new k gi (.bld ByteArray.empty) hk (rest_alloc ..) hold (by simp [ownOf, gi]) (by simp [ownOf, gi]) ⟨.pointer none, .slice none 0 0, .inl rfl, heap_alloc_new w _, World.ownsRowF_nil _ _ _ _, rfl⟩, ?_⟩
 have := AVR.bp (w := w.alloc (.cells #[.pointer none, .slice none 0 0] bT)) (G := upd G k gi) (H := upd s.heap k (some (.bld ByteArray.empty))) (Av := Ban B.F (upd G k gi) (upd s.heap k (some (.bld ByteArray.empty)))) k _ (upd_same ..)
 rw [upd_same] at this
 exact this
theorem bzOK_run (hT : T.ok P = true) (hb : T.bld = true) (w : World) : ∃ z, (zeroValue bT).run P w = .ok z w ∧ z.cells = #[.pointer none, .slice none 0 0] := by
 simp only [Tab.ok, Bool.and_eq_true, hb, Bool.not_true, Bool.false_or] at hT
 have h := hT.2
 unfold bzOK at h
 split at h
 case h_2 => cases h
 rename_i i hi
 split at h
 case h_2 => cases h
 rename_i z hz
 refine ⟨z, by simp [Go.zeroValue, typeInfo, hi, hz], ?_⟩
 unfold bzV at h
 split at h
 case h_2 => cases h
 rename_i cs
 split at h
 case h_2 => cases h
 rename_i e
 show cs = _
 apply Array.ext'
 exact e
theorem opAlloc_ok (hT : T.ok P = true) (h : RelG B G s a w) {dst : Nat} {ty : TypeId} {av : AV} {H' : Nat → Option Ob} (hm : opAlloc T s.heap dst ty = some (av, H')) :
 ∃ v w' G', (Instr.alloc ty true (.tuple #[])).run P w = .ok v w' ∧ RelG B G' { s with heap := H' } a w' ∧ AVR w' G' H' (Ban B.F G' H') v av := by
 simp only [opAlloc, Option.bind_eq_some_iff] at hm
 obtain ⟨ti, hti, hm⟩ := hm
 have hok := tiok hT hti
 split at hm
 case h_2 => cases hm
 rename_i hk
 split at hm
 ·rename_i hb
  obtain ⟨rfl, hb⟩ := hb
  simp only [Option.some.injEq, Prod.mk.injEq] at hm
  obtain ⟨rfl, rfl⟩ := hm
  obtain ⟨z, hz, hzz⟩ := bzOK_run hT hb w
  obtain ⟨G', hr, ha⟩ := h.bld hk
  rw [← hzz] at hr ha
  refine ⟨_, _, G', ?_, hr, ha⟩
  simp [Instr.alloc, hz, run_newVar]
 simp only [Option.some.injEq, Prod.mk.injEq] at hm
 obtain ⟨rfl, rfl⟩ := hm
 obtain ⟨z, hz, hzz⟩ := hok.zeroValue w
 obtain ⟨hv, h1⟩ := zeroOK_ok (w := w) (G := G) (H := s.heap) (Av := Ban B.F G s.heap) hzz
 obtain ⟨G', hr, ha⟩ := h.box hk ty hv h1
 refine ⟨_, _, G', ?_, hr, ha⟩
 simp [Instr.alloc, hz, run_newVar]
theorem opBox_ok (h : RelG B G s a w) {dst : Nat} {ty : TypeId} {x : AV} {xv : Value} (hx : AVR w G s.heap (Ban B.F G s.heap) xv x) {av : AV} {H' : Nat → Option Ob} (hm : opBox s.heap dst x = some (av, H')) :
 ∃ v w' G', (Instr.box ty xv).run P w = .ok v w' ∧ RelG B G' { s with heap := H' } a w' ∧ AVR w' G' H' (Ban B.F G' H') v av := by
 simp only [opBox] at hm
 split at hm
 case isFalse => cases hm
 rename_i hall
 split at hm
 case h_2 => cases hm
 rename_i hk
 simp only [Option.some.injEq, Prod.mk.injEq] at hm
 obtain ⟨rfl, rfl⟩ := hm
 obtain ⟨hv, h1⟩ := cellsA_ok hx hall
 obtain ⟨G', hr, ha⟩ := h.box hk ty hv h1
 refine ⟨_, _, G', ?_, hr, ha⟩
 simp [Instr.box, run_newVar]
theorem fold_splice (off : Nat) : ∀ (l : List Value) (n : Nat) (cs : Array Value), off + n + l.length ≤ cs.size →
 ((l.zipIdx n).foldl (fun cs (x : Value × Nat) => cs.setIfInBounds (off + x.2) x.1) cs).toList = cs.toList.take (off + n) ++ l ++ cs.toList.drop (off + n + l.length)
 | [], n, cs, h => by simp
 | v :: l, n, cs, h => by
  simp only [List.length_cons] at h
  rw [List.zipIdx_cons, List.foldl_cons, fold_splice off l (n + 1) _ (by simp; omega)]
  simp only [Array.toList_setIfInBounds]
  have hlt : off + n < cs.toList.length := by rw [Array.length_toList]; omega
  rw [List.drop_set, if_pos (by omega)]
  have : (cs.toList.set (off + n) v).take (off + (n + 1)) = cs.toList.take (off + n) ++ [v] := by
   rw [show off + (n + 1) = off + n + 1 by omega, List.take_add_one, List.getElem?_set_self hlt, List.take_set_of_le (by omega)]
   rfl
  rw [this]
  simp only [List.append_assoc, List.singleton_append, List.length_cons]
  rw [show off + (n + 1) + l.length = off + n + (l.length + 1) by omega]
theorem fillA_ok {pl : Nat → Option (Nat × Nat)} : ∀ {parts : List (Nat × AV)} {vals : List (Nat × Value)} {cells : List AV} {cv : Array Value} {out : List AV},
 (parts.all fun x => (cellsA x.2).all (oneA H)) = true → vals.map (·.1) = parts.map (·.1) → AVRL w G H Av (vals.map (·.2)) (parts.map (·.2)) → AVRL w G H Av cv.toList cells → fillA pl cells parts = some out →
 ∃ ov, Instr.fill pl cv vals = some ov ∧ AVRL w G H Av ov.toList out
 | [], vals, cells, cv, out, _, hi, _, hc, hf => by
  simp only [fillA, Option.some.injEq] at hf
  subst hf
  have : vals = [] := by cases vals with | nil => rfl | cons x l => simp at hi
  subst this
  exact ⟨cv, rfl, hc⟩
 | (i, av) :: parts, [], cells, cv, out, _, hi, _, hc, hf => by simp at hi
 | (i, av) :: parts, (i', v) :: vals, cells, cv, out, hall, hi, hv, hc, hf => by
  simp only [List.map_cons, List.cons.injEq] at hi
  obtain ⟨rfl, hi⟩ := hi
  simp only [List.all_cons, Bool.and_eq_true] at hall
  simp only [List.map_cons] at hv
  cases hv with
  | cons _ _ _ _ hv hvs =>
   simp only [fillA] at hf
   split at hf
   case h_2 => cases hf
   rename_i off size hpl
   split at hf
   case isFalse => cases hf
   rename_i hsz
   obtain ⟨hcs, _⟩ := cellsA_ok hv hall.1
   have hl : v.cells.toList.length = size := by rw [hcs.length, hsz.1]
   have hl' : v.cells.size = size := by simpa using hl
   have hcl := hc.length
   rw [Array.length_toList] at hcl
   have hsp := fold_splice off v.cells.toList 0 cv (by rw [hl]; omega)
   rw [Nat.add_zero, hl] at hsp
   have hfold : v.cells.zipIdx.foldl (fun cs (x : Value × Nat) => cs.setIfInBounds (off + x.2) x.1) cv = (v.cells.toList.zipIdx 0).foldl (fun cs (x : Value × Nat) => cs.setIfInBounds (off + x.2) x.1) cv := by
    rw [← Array.foldl_toList, Array.toList_zipIdx]
   have hnew : AVRL w G H Av (v.cells.zipIdx.foldl (fun cs (x : Value × Nat) => cs.setIfInBounds (off + x.2) x.1) cv).toList (cells.take off ++ cellsA av ++ cells.drop (off + size)) := by
    rw [hfold, hsp]
    exact ((hc.take off).append hcs).append (hc.drop (off + size))
   obtain ⟨ov, ho, hov⟩ := fillA_ok hall.2 hi hvs hnew hf
   refine ⟨ov, ?_, hov⟩
   simp only [Instr.fill, hpl]
   have h2 := hsz.2
   rw [if_neg (by simp only [hl', Bool.or_eq_true, decide_eq_true_eq]; omega)]
   exact ho
end rel
end Go.Fs
namespace Go.Fs
open Go.RowKit
section rel
variable {P : Program} {T : Tab} {B : Ctx} {G : Nat → GI} {s : St} {a : Act} {w : World} {H : Nat → Option Ob} {Av : Nat → Prop}
theorem placeT_ok (hT : T.ok P = true) {fs : List (Nat × TypeId)} {fields : Array Field} (hmap : fields.toList.map (fun f => (f.offset, f.type)) = fs) (i : Nat) {p : Nat × Nat} (hp : placeT T fs i = some p) :
 ∃ f, fields[i]? = some f ∧ p = (f.offset, P.cellsOf f.type) ∧ ∀ w, (sizeOf f.type).run P w = .ok (P.cellsOf f.type) w := by
 simp only [placeT, Option.bind_eq_some_iff, Option.map_eq_some_iff] at hp
 obtain ⟨⟨fo, ft⟩, hf, ti, hti, rfl⟩ := hp
 rw [← hmap] at hf
 simp only [List.getElem?_map, Option.map_eq_some_iff, Prod.mk.injEq] at hf
 obtain ⟨f, h1, rfl, rfl⟩ := hf
 have hok := tiok hT hti
 refine ⟨f, by simpa using h1, by rw [hok.cells], fun w => by rw [hok.cells]; exact hok.sizeOf w⟩
theorem fillA_congr {pl pl' : Nat → Option (Nat × Nat)} : ∀ {parts : List (Nat × AV)} {cells out : List AV}, fillA pl cells parts = some out → (∀ x ∈ parts, ∀ p, pl x.1 = some p → pl' x.1 = some p) → fillA pl' cells parts = some out
 | [], cells, out, h, _ => h
 | (i, av) :: parts, cells, out, h, hp => by
  simp only [fillA] at h ⊢
  split at h
  case h_2 => cases h
  rename_i off size hpl
  rw [hp (i, av) (by simp) _ hpl]
  simp only
  split at h
  case isFalse => cases h
  rename_i hc
  rw [if_pos hc]
  exact fillA_congr h fun x hx => hp x (by simp [hx])
theorem run_mapM_pure {α β : Type} (f : α → Sem β) (g : α → β) (w : World) : ∀ (l : List α), (∀ x ∈ l, (f x).run P w = .ok (g x) w) → (l.mapM f).run P w = .ok (l.map g) w
 | [], _ => rfl
 | x :: l, h => by
  rw [List.mapM_cons, Sem.run_bind, h x (by simp), Result.andThen_ok, Sem.run_bind, run_mapM_pure f g w l fun y hy => h y (by simp [hy]), Result.andThen_ok]
  rfl
theorem run_places (hT : T.ok P = true) {fs : List (Nat × TypeId)} {fields : Array Field} (hmap : fields.toList.map (fun f => (f.offset, f.type)) = fs) (hs : sizesT T fs = true) (w : World) :
 (fields.mapM fun (f : Field) => (do pure (f.offset, ← sizeOf f.type) : Sem (Nat × Nat))).run P w = .ok (fields.map fun (f : Field) => (f.offset, P.cellsOf f.type)) w := by
 have hl := run_mapM_pure (P := P) (fun f : Field => (do pure (f.offset, ← sizeOf f.type) : Sem (Nat × Nat))) (fun f => (f.offset, P.cellsOf f.type)) w fields.toList (fun f hf => by
  have hm : (f.offset, f.type) ∈ fs := by rw [← hmap]; exact List.mem_map.2 ⟨f, hf, rfl⟩
  have := List.all_eq_true.1 hs _ hm
  obtain ⟨ti, hti⟩ := Option.isSome_iff_exists.1 this
  have hok := tiok hT hti
  rw [Sem.run_bind, hok.sizeOf w, Result.andThen_ok, hok.cells]
  rfl)
 rw [Array.mapM_eq_mapM_toList, Sem.run_map, hl]
 simp
 apply Array.ext'
 simp
theorem opBuild_ok (hT : T.ok P = true) (h : RelG B G s a w) {ty : TypeId} {parts : List (Nat × AV)} {vals : List (Nat × Value)} (hi : vals.map (·.1) = parts.map (·.1))
 (hv : AVRL w G s.heap (Ban B.F G s.heap) (vals.map (·.2)) (parts.map (·.2))) {av : AV} (hm : opBuild T s.heap ty parts = some av) :
 ∃ v, (Instr.build ty vals.toArray).run P w = .ok v w ∧ AVR w G s.heap (Ban B.F G s.heap) v av := by
 simp only [opBuild, Option.bind_eq_some_iff] at hm
 obtain ⟨ti, hti, hm⟩ := hm
 have hok := tiok hT hti
 cases hk : ti.kind with
 | strct fs =>
  rw [hk] at hm
  simp only at hm
  split at hm
  case isFalse => cases hm
  rename_i hall
  simp only [Option.map_eq_some_iff] at hm
  obtain ⟨out, hf, rfl⟩ := hm
  obtain ⟨fields, hu, hmap, hne⟩ := hok.strct hk
  obtain ⟨z, hz, hzz⟩ := hok.zeroValue w
  obtain ⟨hzv, _⟩ := zeroOK_ok (w := w) (G := G) (H := s.heap) (Av := Ban B.F G s.heap) hzz
  have hf' := fillA_congr (pl' := fun i => (fields.map fun (f : Field) => (f.offset, P.cellsOf f.type))[i]?) hf fun x _ p hp => by
   obtain ⟨f, h1, h2, _⟩ := placeT_ok hT hmap x.1 hp
   simp [h1, h2]
  obtain ⟨ov, ho, hov⟩ := fillA_ok hall.1 hi hv hzv hf'
  refine ⟨.agg ov, ?_, .g _ _ hov⟩
  have hpl := run_places (P := P) hT hmap hall.2 w
  simp only [Instr.build, Sem.run_bind, hz, run_underlying hu, Result.andThen_ok]
  rw [hpl]
  simp only [Result.andThen_ok]
  rw [ho]
  rfl
 | _ => rw [hk] at hm; simp at hm
end rel
end Go.Fs
namespace Go.Fs
open Go.RowKit
section rel
variable {P : Program} {T : Tab} {B : Ctx} {G : Nat → GI} {s : St} {a : Act} {w w' : World}
def chunk (sz : Nat) : Nat → List D → List (List D)
 | 0, _ => []
 | n + 1, ds => ds.take sz :: chunk sz n (ds.drop sz)
theorem chunk_flat (sz : Nat) : ∀ (n : Nat) (ds : List D), ds.length = n * sz → (chunk sz n ds).flatten = ds ∧ (chunk sz n ds).length = n ∧ ∀ x ∈ chunk sz n ds, x.length = sz
 | 0, ds, h => by
  have : ds = [] := List.eq_nil_of_length_eq_zero (by simpa using h)
  subst this
  simp [chunk]
 | n + 1, ds, h => by
  rw [Nat.succ_mul] at h
  obtain ⟨h1, h2, h3⟩ := chunk_flat sz n (ds.drop sz) (by rw [List.length_drop]; omega)
  refine ⟨by simp [chunk, h1], by simp [chunk, h2], ?_⟩
  intro x hx
  simp only [chunk, List.mem_cons] at hx
  rcases hx with rfl | hx
  ·rw [List.length_take]; omega
  ·exact h3 x hx
def opBuildSlice (T : Tab) (H : Nat → Option Ob) (dst : Nat) (ty : TypeId) (len : Nat) (parts : List (Nat × AV)) : Option (AV × (Nat → Option Ob)) :=
 (T.ti ty).bind fun ti => match ti.kind with
 | .slice e => (T.ti e).bind fun te =>
  if parts.map (·.1) = List.range len ∧ (len * te.size ≤ 16777216 ∧ 0 < te.size) ∧ (parts.all fun x => (cellsA x.2).all (oneA H) && ((cellsA x.2).length == te.size)) = true then
   (moveCs H (parts.flatMap fun x => cellsA x.2)).bind fun m => match m.2.2 dst with
     | none => some (.r dst, upd m.2.2 dst (some (.row te.size (chunk te.size len m.1) m.2.1 false 0)))
     | _ => none
  else none
 | _ => none
theorem fill_seq (size : Nat) : ∀ (vals : List (Nat × Value)) (k : Nat) (cv : Array Value), vals.map (·.1) = List.range' k vals.length → (∀ x ∈ vals, x.2.cells.size = size) → (k + vals.length) * size ≤ cv.size →
 ∃ ov, Instr.fill (fun i => some (i * size, size)) cv vals = some ov ∧ ov.toList = cv.toList.take (k * size) ++ (vals.flatMap fun x => x.2.cells.toList) ++ cv.toList.drop ((k + vals.length) * size)
 | [], k, cv, _, _, _ => ⟨cv, rfl, by simp⟩
 | (i, v) :: vals, k, cv, hi, hs, hc => by
  simp only [List.map_cons, List.length_cons, List.range'_succ, List.cons.injEq] at hi
  obtain ⟨rfl, hi⟩ := hi
  simp only [List.length_cons] at hc
  have hv : v.cells.size = size := hs (i, v) (by simp)
  have hvl : v.cells.toList.length = size := by simpa using hv
  have h1 : (i + 1) * size ≤ (i + (vals.length + 1)) * size := Nat.mul_le_mul_right _ (by omega)
  have h2 : (i + 1) * size = i * size + size := Nat.succ_mul ..
  have hsp := fold_splice (i * size) v.cells.toList 0 cv (by rw [hvl]; omega)
  rw [Nat.add_zero, hvl] at hsp
  have hfold : v.cells.zipIdx.foldl (fun cs (x : Value × Nat) => cs.setIfInBounds (i * size + x.2) x.1) cv = (v.cells.toList.zipIdx 0).foldl (fun cs (x : Value × Nat) => cs.setIfInBounds (i * size + x.2) x.1) cv := by
   rw [← Array.foldl_toList, Array.toList_zipIdx]
  have hnl : (v.cells.zipIdx.foldl (fun cs (x : Value × Nat) => cs.setIfInBounds (i * size + x.2) x.1) cv).toList = cv.toList.take (i * size) ++ v.cells.toList ++ cv.toList.drop (i * size + size) := by rw [hfold, hsp]
  have hns : (v.cells.zipIdx.foldl (fun cs (x : Value × Nat) => cs.setIfInBounds (i * size + x.2) x.1) cv).size = cv.size := by
   rw [← Array.length_toList, hnl]
   simp only [List.length_append, List.length_take, List.length_drop, Array.length_toList, hv]
   omega
  obtain ⟨ov, ho, hol⟩ := fill_seq size vals (i + 1) _ hi (fun x hx => hs x (by simp [hx])) (by rw [hns]; rw [show i + 1 + vals.length = i + (vals.length + 1) by omega]; exact hc)
  refine ⟨ov, ?_, ?_⟩
  ·simp only [Instr.fill]
   rw [if_neg (by simp only [hv, Bool.or_eq_true, decide_eq_true_eq]; omega)]
   exact ho
  ·rw [hol, hnl, h2]
   rw [List.take_append_of_le_length (by simp only [List.length_append, List.length_take, Array.length_toList, hvl]; omega)]
   rw [List.take_of_length_le (by simp only [List.length_append, List.length_take, Array.length_toList, hvl]; omega)]
   have h3 : (i + 1 + vals.length) * size = (i * size + size) + vals.length * size := by rw [Nat.add_mul, h2]
   have h4 : (i + (vals.length + 1)) * size = (i * size + size) + vals.length * size := by rw [Nat.add_mul, Nat.succ_mul]; omega
   have hpl : (cv.toList.take (i * size) ++ v.cells.toList).length = i * size + size := by simp only [List.length_append, List.length_take, Array.length_toList, hvl]; omega
   rw [h3, List.length_cons, h4, List.drop_append, List.drop_of_length_le (by rw [hpl]; omega), hpl, List.nil_append, List.drop_drop]
   rw [show i * size + size + (i * size + size + vals.length * size - (i * size + size)) = i * size + size + vals.length * size by omega]
   simp
theorem AVRL.flatMap {H : Nat → Option Ob} {Av : Nat → Prop} : ∀ {vals : List (Nat × Value)} {parts : List (Nat × AV)}, AVRL w G H Av (vals.map (·.2)) (parts.map (·.2)) → (parts.all fun x => (cellsA x.2).all (oneA H)) = true →
 AVRL w G H Av (vals.flatMap fun x => x.2.cells.toList) (parts.flatMap fun x => cellsA x.2)
 | [], [], _, _ => .nil
 | (i, v) :: vals, (j, av) :: parts, h, hall => by
  simp only [List.map_cons] at h
  simp only [List.all_cons, Bool.and_eq_true] at hall
  cases h with
  | cons _ _ _ _ h hs =>
   simp only [List.flatMap_cons]
   exact (cellsA_ok h hall.1).1.append (AVRL.flatMap hs hall.2)
 | [], _ :: _, h, _ => by cases h
 | _ :: _, [], h, _ => by cases h
theorem opBuildSlice_ok (hT : T.ok P = true) (h : RelG B G s a w) {dst : Nat} {ty : TypeId} {len : Nat} {parts : List (Nat × AV)} {vals : List (Nat × Value)} (hi : vals.map (·.1) = parts.map (·.1))
 (hv : AVRL w G s.heap (Ban B.F G s.heap) (vals.map (·.2)) (parts.map (·.2))) {av : AV} {H' : Nat → Option Ob} (hm : opBuildSlice T s.heap dst ty len parts = some (av, H')) :
 ∃ v w' G', (Instr.buildSlice ty len vals.toArray).run P w = .ok v w' ∧ RelG B G' { s with heap := H' } a w' ∧ AVR w' G' H' (Ban B.F G' H') v av := by
 simp only [opBuildSlice, Option.bind_eq_some_iff] at hm
 obtain ⟨ti, hti, hm⟩ := hm
 have hok := tiok hT hti
 cases hk : ti.kind with
 | slice e =>
  rw [hk] at hm
  simp only [Option.bind_eq_some_iff] at hm
  obtain ⟨te, hte, hm⟩ := hm
  have hoke := tiok hT hte
  split at hm
  case isFalse => cases hm
  rename_i hcond
  obtain ⟨hidx, ⟨hsmall, hpos⟩, hall⟩ := hcond
  simp only [Option.bind_eq_some_iff] at hm
  obtain ⟨⟨ds, f, H1⟩, hmv, hm⟩ := hm
  simp only at hm
  split at hm
  case h_2 => cases hm
  rename_i hd
  simp only [Option.some.injEq, Prod.mk.injEq] at hm
  obtain ⟨rfl, rfl⟩ := hm
  have hall1 : (parts.all fun x => (cellsA x.2).all (oneA s.heap)) = true := by
   rw [List.all_eq_true] at hall ⊢
   intro x hx
   have := hall x hx
   simp only [Bool.and_eq_true] at this
   exact this.1
  have hcells := hv.flatMap hall1
  obtain ⟨M, S', t', hone, n', o'⟩ := moveCs_ok h hcells hmv
  have hplen : parts.length = len := by have := congrArg List.length hidx; simpa using this
  have hvlen : vals.length = len := by have := congrArg List.length hi; simp at this; omega
  -- each part has its size
  have hsize : ∀ x ∈ vals, x.2.cells.size = te.size := by
   have key : ∀ {vals : List (Nat × Value)} {parts : List (Nat × AV)}, AVRL w G s.heap (Ban B.F G s.heap) (vals.map (·.2)) (parts.map (·.2)) →
    (parts.all fun x => (cellsA x.2).all (oneA s.heap) && ((cellsA x.2).length == te.size)) = true → ∀ x ∈ vals, x.2.cells.size = te.size := by
    intro vals
    induction vals with
    | nil => intro parts _ _ x hx; simp at hx
    | cons y vals ih =>
     intro parts hr hp x hx
     cases parts with
     | nil => cases hr
     | cons p parts =>
      simp only [List.map_cons] at hr
      simp only [List.all_cons, Bool.and_eq_true, beq_iff_eq] at hp
      cases hr with
      | cons _ _ _ _ hr hrs =>
       rcases List.mem_cons.1 hx with rfl | hx
       ·have := (cellsA_ok hr hp.1.1).1.length
        rw [← Array.length_toList, this, hp.1.2]
       ·exact ih hrs (by simpa [List.all_eq_true] using hp.2) x hx
   exact key hv hall
  obtain ⟨z, hz, hzz⟩ := hoke.zeroValue w
  let bcells : Array Value := (Array.range (len * te.size)).map ((if len * te.size = 0 then #[] else z.cells)[· % (if len * te.size = 0 then #[] else z.cells).size]!)
  have hbs : bcells.size = len * te.size := by simp [bcells]
  obtain ⟨ov, ho, hol⟩ := fill_seq te.size vals 0 bcells (by rw [hi, hidx, hvlen]; exact List.range_eq_range') hsize (by rw [hvlen, hbs, Nat.zero_add]; exact Nat.le_refl _)
  have hovl : ov.toList = vals.flatMap fun x => x.2.cells.toList := by
   rw [hol, Nat.zero_mul, List.take_zero, List.nil_append, hvlen, Nat.zero_add, ← hbs, ← Array.length_toList, List.drop_length, List.append_nil]
  have hdl : ds.length = len * te.size := by
   rw [← t'.length, ← hovl, hol]
   simp only [Nat.zero_mul, List.take_zero, List.nil_append, List.length_append, List.length_drop, Array.length_toList, hbs, hvlen, Nat.zero_add, Nat.sub_self, Nat.add_zero]
   rw [List.length_flatMap]
   simp only [Array.length_toList]
   have : ∀ (l : List (Nat × Value)), (∀ x ∈ l, x.2.cells.size = te.size) → (l.map fun x => x.2.cells.size).sum = l.length * te.size := by
    intro l
    induction l with
    | nil => simp
    | cons y l ih =>
     intro hl
     simp only [List.map_cons, List.sum_cons, List.length_cons]
     rw [ih fun x hx => hl x (by simp [hx]), hl y (by simp), Nat.succ_mul]
     omega
   rw [this vals hsize, hvlen]
  obtain ⟨hcf, hcl, hcu⟩ := chunk_flat te.size len ds hdl
  let gi : GI := { blk := w.heap.size, off := 0, cap := len, vs := vals.flatMap fun x => x.2.cells.toList, sub := S' }
  have hnS : w.heap.size ∉ S' := fun hb => by have := t'.lt _ hb; omega
  have hrun : (Instr.buildSlice ty len vals.toArray).run P w = .ok (.slice (some ⟨w.heap.size, 0, none⟩) len len) (w.alloc (.cells ov e)) := by
   unfold Instr.buildSlice
   simp only [Sem.run_bind, run_underlying (hok.slice hk), Result.andThen_ok, hoke.sizeOf w]
   rw [if_neg (by omega)]
   by_cases h0 : len * te.size = 0
   ·simp only [h0, if_true, Sem.run_bind, Sem.run_pure, Result.andThen_ok]
    have : bcells = (Array.range 0).map ((#[] : Array Value)[· % (#[] : Array Value).size]!) := by simp [bcells, h0]
    rw [this] at ho
    simp only [ho, Sem.run_bind, run_newRow, Result.andThen_ok, Sem.run_pure]
   ·simp only [h0, if_false, Sem.run_bind, hz, Sem.run_pure, Result.andThen_ok]
    have : bcells = (Array.range (len * te.size)).map (z.cells[· % z.cells.size]!) := by simp [bcells, h0]
    rw [this] at ho
    simp only [ho, Sem.run_bind, run_newRow, Result.andThen_ok, Sem.run_pure]
  refine ⟨_, _, upd G dst gi, hrun, ?_, ?_⟩
  ·refine h.putRow M.keys hd gi te.size (chunk te.size len ds) f 0 (rest_alloc ..) (fun b hb _ => heap_alloc_old w _ b hb) ?_ ?_ ?_
   ·intro b hb
    rcases (mem_ownRow hb).2 with rfl | ⟨rfl, hb2⟩
    ·exact .inr (Nat.le_refl _)
    ·obtain ⟨i, hi'⟩ := (o' rfl).2 b hb2
     exact .inl ⟨i, fun e => n' b hb2 (.inl ⟨i, by rw [e]; exact hi'⟩), hi'⟩
   ·exact nodup_ownRow fun hf => ⟨hnS, (o' hf).1⟩
   ·refine ⟨fun _ => ⟨ov, e, heap_alloc_new w _, ?_, ?_⟩, by rw [hcl]; exact Nat.le_refl _, ?_, ?_, hone, hcu, ?_, fun hf => (o' hf).1, ?_, by simp⟩
    ·have : ov.size = len * te.size := by rw [← Array.length_toList, hovl, t'.length, hdl]
     simp only [gi]
     omega
    ·intro j v hj
     have : ov.toList[j]? = some v := by rw [hovl]; exact hj
     simpa [gi] using this
    ·simp only [gi, maxLen]
     have : len ≤ len * te.size := Nat.le_mul_of_pos_right _ hpos
     omega
    ·rw [hcl]; show List.length _ = _; rw [t'.length, hdl]
    ·show TrL _ f (vals.flatMap fun x => x.2.cells.toList) _ S'
     rw [hcf]
     exact t'.keep fun b hb => heap_alloc_old w _ b (t'.lt b hb)
    ·intro hf b hb hn
     rcases own_put hn with hn | hn
     ·exact n' b hb hn
     ·have hf' : f = false := by simpa using hf
      have hlt := t'.lt b hb
      rcases (mem_ownRow hn).2 with rfl | ⟨e, _⟩
      ·exact absurd hlt (Nat.lt_irrefl _)
      ·rw [hf'] at e; cases e
  ·have := AVR.r (w := w.alloc (.cells ov e)) (G := upd G dst gi) (H := upd H1 dst (some (.row te.size (chunk te.size len ds) f false 0))) (Av := Ban B.F (upd G dst gi) (upd H1 dst (some (.row te.size (chunk te.size len ds) f false 0)))) dst te.size _ f false 0 (some ⟨w.heap.size, 0, none⟩) (upd_same ..) (fun _ => by simp [upd_same, gi])
   rw [hcl] at this
   simpa [upd_same, gi] using this
 | _ => rw [hk] at hm; simp at hm
end rel
end Go.Fs
namespace Go.Fs
open Go.RowKit
def zeroD : AV → D
 | .d x => x
 | .z sz => .l sz []
 | _ => .u
def opMake (T : Tab) (H : Nat → Option Ob) (dst : Nat) (ty : TypeId) (len cap : AV) : Option (AV × (Nat → Option Ob)) :=
 (T.ti ty).bind fun ti => match ti.kind with
 | .slice e => (T.ti e).bind fun te => match len, cap with
  | .d (.i _ n), .d (.i _ m) => if n = m ∧ 0 ≤ n ∧ n * te.bytes ≤ 140737488355328 ∧ n ≤ 140737488355328 ∧ 0 < te.size then match H dst with
   | none => some (.r dst, upd H dst (some (.row te.size (List.replicate n.toNat (te.zero.map zeroD)) true false 0)))
   | _ => none else none
  | _, _ => none
 | _ => none
def zsc : AV → Bool
 | .d _ => true
 | _ => false
def srcA (H : Nat → Option Ob) (sz : Nat) (sc : Bool) : AV → Option (List (List D) × Bool × (Nat → Option Ob))
 | .z _ => some ([], true, H)
 | .d (.l sz' ys) => if sz' = sz then some (ys, sc && ys.all (·.all scal), H) else none
 | .r k => match H k with
  | some (.row sz' xs dp fz _) => if sz' = sz then
   (if (sc && xs.all (·.all scal)) = true then some (xs, true, H) else some (xs, dp && !fz, if fz then H else upd H k (some .dead))) else none
  | _ => none
 | _ => none
def opAppend (T : Tab) (H : Nat → Option Ob) (dst : Nat) (ty : TypeId) (x y : AV) : Option (AV × (Nat → Option Ob)) :=
 (T.ti ty).bind fun ti => match ti.kind with
 | .slice e => (T.ti e).bind fun te => (srcA H te.size (te.zero.all zsc) y).bind fun m => match x with
  | .z _ => if m.1.length * te.bytes ≤ 140737488355328 ∧ m.1.length ≤ 140737488355328 ∧ 0 < te.size then match m.2.2 dst with
   | none => some (.r dst, upd m.2.2 dst (some (.row te.size m.1 m.2.1 false 0)))
   | _ => none else none
  | .r k => match m.2.2 k with
   | some (.row sz xs dp false _) =>
    if sz = te.size ∧ (xs.length + m.1.length) * te.bytes ≤ 140737488355328 ∧ xs.length + m.1.length ≤ 140737488355328 ∧ 0 < te.size then match m.2.2 dst with
    | none => some (.r dst, upd (upd m.2.2 k (some .dead)) dst (some (.row te.size (xs ++ m.1) (dp && m.2.1) false 0)))
    | _ => none else none
   | _ => none
  | _ => none
 | _ => none
section rel
variable {P : Program} {T : Tab} {B : Ctx} {G : Nat → GI} {s : St} {a : Act} {w w' : World}
theorem zeroOK_tr {own : Bool} : ∀ {vs : List Value} {avs : List AV}, zeroOK vs avs = true → TrL w own vs (avs.map zeroD) []
 | [], [], _ => .nil
 | v :: vs, av :: avs, h => by
  simp only [zeroOK, Bool.and_eq_true] at h
  obtain ⟨h1, h2⟩ := h
  have key : Tr w own v (zeroD av) [] := by
   split at h1
   ·rename_i a b; have : a = b := by simpa using h1
    subst this; exact .b _
   ·rename_i k n k' n'
    simp at h1
    obtain ⟨rfl, rfl⟩ := h1
    exact .i _ _
   ·rename_i s s'
    simp at h1
    rw [h1.1, h1.2]; exact .s _
   ·exact .z _ _ _ (fun _ => rfl)
   ·exact .np
   ·exact .nf
   ·rename_i b; simp at h1; subst h1; exact .ni
   ·simp at h1
  exact .cons v _ [] vs _ [] key (zeroOK_tr h2)
 | [], _ :: _, h => by simp [zeroOK] at h
 | _ :: _, [], h => by simp [zeroOK] at h
theorem TrL.replicate {own : Bool} {vs : List Value} {ds : List D} (h : TrL w own vs ds []) : ∀ n, TrL w own (List.replicate n vs).flatten (List.replicate n ds).flatten []
 | 0 => .nil
 | n + 1 => by
  simp only [List.replicate_succ, List.flatten_cons]
  exact h.append (TrL.replicate h n)
theorem zeroOK_len : ∀ {vs : List Value} {avs : List AV}, zeroOK vs avs = true → vs.length = avs.length
 | [], [], _ => rfl
 | v :: vs, av :: avs, h => by
  simp only [zeroOK, Bool.and_eq_true] at h
  simp [zeroOK_len h.2]
 | [], _ :: _, h => by simp [zeroOK] at h
 | _ :: _, [], h => by simp [zeroOK] at h
theorem range_cells (z : Array Value) (n : Nat) (hz : 0 < z.size) : ((Array.range (n * z.size)).map (z[· % z.size]!)).toList = (List.replicate n z.toList).flatten := by
 apply List.ext_getElem?
 intro i
 by_cases hi : i < n * z.size
 ·have h1 : i / z.size < n := Nat.div_lt_of_lt_mul (by rw [Nat.mul_comm]; exact hi)
  have h2 : i % z.size < z.size := Nat.mod_lt _ hz
  have h3 : i = i / z.size * z.size + i % z.size := by rw [Nat.mul_comm]; exact (Nat.div_add_mod ..).symm
  have hf := flat_get (xs := List.replicate n z.toList) (sz := z.size) (by intro x hx; rw [List.eq_of_mem_replicate hx]; simp) (i := i / z.size) (j := i % z.size) (x := z.toList) (by rw [List.getElem?_replicate, if_pos h1]) h2
  rw [← h3] at hf
  rw [hf]
  simp [hi, h2]
 ·rw [List.getElem?_eq_none (by simp; omega), List.getElem?_eq_none]
  rw [flat_length (sz := z.size) (by intro x hx; rw [List.eq_of_mem_replicate hx]; simp)]
  simp
  omega
theorem opMake_ok (hT : T.ok P = true) (h : RelG B G s a w) {dst : Nat} {ty : TypeId} {len cap : AV} {lv cv : Value} (hl : AVR w G s.heap (Ban B.F G s.heap) lv len) (hc : AVR w G s.heap (Ban B.F G s.heap) cv cap)
 {av : AV} {H' : Nat → Option Ob} (hm : opMake T s.heap dst ty len cap = some (av, H')) :
 ∃ v w' G', (Instr.makeSlice ty lv cv).run P w = .ok v w' ∧ RelG B G' { s with heap := H' } a w' ∧ AVR w' G' H' (Ban B.F G' H') v av := by
 simp only [opMake, Option.bind_eq_some_iff] at hm
 obtain ⟨ti, hti, hm⟩ := hm
 have hok := tiok hT hti
 cases hk : ti.kind with
 | slice e =>
  rw [hk] at hm
  simp only [Option.bind_eq_some_iff] at hm
  obtain ⟨te, hte, hm⟩ := hm
  have hoke := tiok hT hte
  split at hm
  case h_2 => cases hm
  rename_i k1 n k2 m
  split at hm
  case isFalse => cases hm
  rename_i hcond
  obtain ⟨rfl, h0, hb, hle, hpos⟩ := hcond
  split at hm
  case h_2 => cases hm
  rename_i hd
  simp only [Option.some.injEq, Prod.mk.injEq] at hm
  obtain ⟨rfl, rfl⟩ := hm
  obtain rfl := hl.inv_int
  obtain rfl := hc.inv_int
  obtain ⟨i, z, hi, hs, hby, hz, hzz⟩ := hoke.info
  obtain ⟨n, rfl⟩ := Int.eq_ofNat_of_zero_le h0
  have hzl : z.cells.size = te.zero.length := by rw [← Array.length_toList]; exact zeroOK_len hzz
  have hzs : z.cells.size = te.size := hzl.trans hoke.zlen
  have hcells : (madeCells z.cells (n * te.size)).toList = (List.replicate n z.cells.toList).flatten := by
   unfold madeCells
   rw [← hzs]
   exact range_cells z.cells n (by omega)
  have hbn : (te.bytes : Int) * n ≤ 281474976710656 := by rw [Int.mul_comm]; omega
  have hrun := run_make (P := P) w ty e i z (hok.slice hk) hi hz k1 k2 n n (by omega) (Int.le_refl _) (by rw [hby]; exact hbn) (by omega)
  simp only [Int.toNat_natCast, hs] at hrun ⊢
  have hlr : ∀ x ∈ List.replicate n (te.zero.map zeroD), x.length = te.size := by
   intro x hx
   rw [List.eq_of_mem_replicate hx, List.length_map, hoke.zlen]
  have htr := (zeroOK_tr (w := w.alloc (.cells (madeCells z.cells (n * te.size)) e)) (own := true) hzz).replicate n
  have hone := (zeroOK_ok (w := w) (G := G) (H := s.heap) (Av := Ban B.F G s.heap) hzz).2
  have hsz : (madeCells z.cells (n * te.size)).size = n * te.size := size_madeCells ..
  let gi : GI := { blk := w.heap.size, off := 0, cap := n, vs := (List.replicate n z.cells.toList).flatten, sub := [] }
  refine ⟨_, _, upd G dst gi, hrun, ?_, ?_⟩
  ·refine h.putRow (fun _ => .inl rfl) hd gi te.size (List.replicate n (te.zero.map zeroD)) true 0 (rest_alloc ..) (fun b hb _ => heap_alloc_old w _ b hb) ?_ ?_ ?_
   ·intro b hb
    rcases (mem_ownRow hb).2 with rfl | ⟨_, hb2⟩
    ·exact .inr (Nat.le_refl _)
    ·simp [gi] at hb2
   ·exact nodup_ownRow fun _ => ⟨by simp [gi], List.nodup_nil⟩
   ·refine ⟨fun _ => ⟨_, e, heap_alloc_new w _, by simp only [gi, hsz]; omega, ?_⟩, by rw [List.length_replicate]; exact Nat.le_refl _, by simp only [gi, maxLen]; omega, ?_, ?_, hlr, htr, fun _ => List.nodup_nil, by simp [gi], by simp⟩
    ·intro j v hj
     have : (madeCells z.cells (n * te.size)).toList[j]? = some v := by rw [hcells]; exact hj
     simpa [gi] using this
    ·rw [List.length_replicate]
     show List.length _ = _
     rw [flat_length (sz := te.size) (by intro x hx; rw [List.eq_of_mem_replicate hx, Array.length_toList, hzs]), List.length_replicate]
    ·intro v hv
     obtain ⟨x, hx, hvx⟩ := List.mem_flatten.1 hv
     rw [List.eq_of_mem_replicate hx] at hvx
     exact hone v hvx
  ·have := AVR.r (w := w.alloc (.cells (madeCells z.cells (n * te.size)) e)) (G := upd G dst gi) (H := upd s.heap dst (some (.row te.size (List.replicate n (te.zero.map zeroD)) true false 0))) (Av := Ban B.F (upd G dst gi) (upd s.heap dst (some (.row te.size (List.replicate n (te.zero.map zeroD)) true false 0)))) dst te.size _ true false 0 (some ⟨w.heap.size, 0, none⟩) (upd_same ..) (fun _ => by simp [upd_same, gi])
   simpa [upd_same, gi] using this
 | _ => rw [hk] at hm; simp at hm
end rel
end Go.Fs
namespace Go.Fs
open Go.RowKit
section rel
variable {P : Program} {T : Tab} {B : Ctx} {G : Nat → GI} {s : St} {a : Act} {w w' : World}
theorem scalL {own : Bool} : ∀ {vs : List Value} {ds : List D} {S : List Nat}, TrL w own vs ds S → ds.all scal = true → S = [] ∧ ∀ w' own', TrL w' own' vs ds []
 | _, _, _, .nil, _ => ⟨rfl, fun _ _ => .nil⟩
 | _, _, _, .cons v d S vs ds Ss h hs, ha => by
  simp only [List.all_cons, Bool.and_eq_true] at ha
  obtain ⟨rfl, h1, _⟩ := scal_tr h ha.1
  obtain ⟨rfl, h2⟩ := scalL hs ha.2
  exact ⟨rfl, fun w' own' => .cons v d [] vs ds [] (h1 w' own') (h2 w' own')⟩
theorem all_flat {ys : List (List D)} (h : ys.all (·.all scal) = true) : ys.flatten.all scal = true := by
 rw [List.all_eq_true] at h ⊢
 intro x hx
 obtain ⟨y, hy, hxy⟩ := List.mem_flatten.1 hx
 exact List.all_eq_true.1 (h y hy) x hxy
structure Src (B : Ctx) (G : Nat → GI) (w : World) (H H1 : Nat → Option Ob) (sz : Nat) (v : Value) (ys : List (List D)) (f : Bool) (vs : List Value) (S : List Nat) : Prop where
 val : ∃ ad c, v = .slice ad ys.length c ∧ (ys ≠ [] → ∃ a', ad = some a' ∧ ∀ j u, vs[j]? = some u → w.cell? (a'.add j) = some u)
 len : vs.length = ys.length * sz
 uni : ∀ x ∈ ys, x.length = sz
 one : ∀ u ∈ vs, u.oneCell' = true
 tr : TrL w f vs ys.flatten S
 no : ∀ b ∈ S, ¬ Ban B.F G H1 b
 own : f = true → S.Nodup ∧ ∀ b ∈ S, Own G H b
theorem Src.ofTr {H1 : Nat → Option Ob} {sz : Nat} {v : Value} {ys : List (List D)} {f own : Bool} {S : List Nat} (h : Tr w own v (.l sz ys) S) {H : Nat → Option Ob}
 (hno : (f = true ∧ ys.all (·.all scal) = true) ∨ ∀ b ∈ S, ¬ Ban B.F G H1 b) (hf : f = true → (own = true ∧ S.Nodup ∧ ∀ b ∈ S, Own G H b) ∨ ys.all (·.all scal) = true) : ∃ vs S', Src B G w H H1 sz v ys f vs S' := by
 cases h with
 | z ad c _ ho =>
  refine ⟨[], [], ⟨ad, c, rfl, fun h => absurd rfl h⟩, by simp, by simp, by simp, ?_, by simp, fun _ => ⟨List.nodup_nil, by simp⟩⟩
  exact .nil
 | l g o c _ cur e fr vs _ S2 hg hc hm hl hv h1 hx ho hs =>
  have hval : ∃ ad c', Value.slice (some ⟨g, o, none⟩) ys.length c = .slice ad ys.length c' ∧ (ys ≠ [] → ∃ a', ad = some a' ∧ ∀ j u, vs[j]? = some u → w.cell? (a'.add j) = some u) :=
   ⟨_, _, rfl, fun _ => ⟨_, rfl, fun j u hj => by rw [add_at, cell_at hg]; exact hv j u hj⟩⟩
  cases hff : f with
  | false => exact ⟨vs, S2, hval, hl, hx, h1, hs.shared, fun b hb => (hno.resolve_left (by simp [hff])) b (by simp [hb]), by simp⟩
  | true =>
   by_cases hsc : ys.all (·.all scal) = true
   ·obtain ⟨_, h2⟩ := scalL hs (all_flat hsc)
    exact ⟨vs, [], hval, hl, hx, h1, h2 w true, by simp, fun _ => ⟨List.nodup_nil, by simp⟩⟩
   ·rcases hf hff with ⟨h2, h3, h4⟩ | h2
    ·subst h2
     exact ⟨vs, S2, hval, hl, hx, h1, hs, fun b hb => (hno.resolve_left fun e => hsc e.2) b (by simp [hb]), fun _ => ⟨(List.nodup_cons.1 h3).2, fun b hb => h4 b (by simp [hb])⟩⟩
    ·exact absurd h2 hsc
theorem srcA_ok (h : RelG B G s a w) {sz : Nat} {sc : Bool} {v : Value} {y : AV} (hv : AVR w G s.heap (Ban B.F G s.heap) v y) {ys : List (List D)} {f : Bool} {H1 : Nat → Option Ob} (hm : srcA s.heap sz sc y = some (ys, f, H1)) :
 Moved B G s a w H1 ∧ ∃ vs S, Src B G w s.heap H1 sz v ys f vs S := by
 cases hv with
 | z sz' =>
  simp only [srcA, Option.some.injEq, Prod.mk.injEq] at hm
  obtain ⟨rfl, rfl, rfl⟩ := hm
  exact ⟨.refl h, [], [], ⟨none, 0, rfl, fun h => absurd rfl h⟩, by simp, by simp, by simp, .nil, by simp, fun _ => ⟨List.nodup_nil, by simp⟩⟩
 | d v x S h1 ht hS =>
  cases x with
  | l sz' ys' =>
   simp only [srcA] at hm
   split at hm
   case isFalse => cases hm
   rename_i e
   subst e
   simp only [Option.some.injEq, Prod.mk.injEq] at hm
   obtain ⟨rfl, rfl, rfl⟩ := hm
   exact ⟨.refl h, Src.ofTr ht (.inr hS) fun h => .inr (Bool.and_eq_true_iff.1 h).2⟩
  | _ => simp [srcA] at hm
 | r k sz' xs dp fz ve ad hk ha =>
  simp only [srcA, hk] at hm
  split at hm
  case isFalse => cases hm
  rename_i e
  subst e
  have hR : RowR w (Ban B.F G s.heap) (G k) sz' xs dp fz := h.obj k _ hk
  obtain ⟨S, t1, t2, t3⟩ := hR.whole ha
  have hmv := moveC_ok h (.r k sz' xs dp fz ve ad hk ha) (d := .l sz' xs) (f := dp && !fz) (H' := if fz then s.heap else upd s.heap k (some .dead)) (by simp [moveC, hk])
  split at hm
  ·rename_i hsc
   have hsc := (Bool.and_eq_true_iff.1 hsc).2
   simp only [Option.some.injEq, Prod.mk.injEq] at hm
   obtain ⟨rfl, rfl, rfl⟩ := hm
   exact ⟨.refl h, Src.ofTr t1 (.inl ⟨rfl, hsc⟩) fun _ => .inr hsc⟩
  ·rename_i hsc
   simp only [Option.some.injEq, Prod.mk.injEq] at hm
   obtain ⟨rfl, rfl, rfl⟩ := hm
   obtain ⟨M, S', t', _, n', o'⟩ := hmv
   exact ⟨M, Src.ofTr t' (.inr n') fun hf => .inl ⟨by simpa using hf, (o' hf).1, (o' hf).2⟩⟩
 | _ => simp_all [srcA]
end rel
end Go.Fs
namespace Go.Fs
open Go.RowKit
section rel
variable {P : Program} {T : Tab} {B : Ctx} {G : Nat → GI} {s : St} {a : Act} {w w' : World}
theorem run_append_room_at (t ty e : TypeId) (i : TypeInfo) (ht : P.underlying t = some (.slice e)) (hi : P.info? e = some i)
 (g o sLen sCap : Nat) (cur : Array Value) (el : TypeId) (hg : w.heap[g]? = some (.cells cur el (0, 0)))
 (ad : Option Addr) (m c : Nat) (news : List Value) (hl : news.length = m * i.size) (had : ∃ a', ad = some a' ∧ ∀ j u, news[j]? = some u → w.cell? (a'.add j) = some u) (h1 : ∀ u ∈ news, u.oneCell' = true)
 (hroom : sLen + m ≤ sCap) (hfit : o + sLen * i.size + news.length ≤ cur.size) :
 (Builtin.append_ #[t, t] ty #[.slice (some ⟨g, o, none⟩) sLen sCap, .slice ad m c]).run P w =
   .ok (.slice (some ⟨g, o, none⟩) (sLen + m) sCap) (w.setRow g (cur.toList.take (o + sLen * i.size) ++ news ++ cur.toList.drop (o + sLen * i.size + news.length)).toArray) := by
 obtain ⟨a', rfl, hn⟩ := had
 have hf := run_firstCells_some (P := P) w i.size m a' m c news hl hn
 have hst := run_storeCells_at P g (o + sLen * i.size) el news 0 cur w hg (by simpa using hfit) h1
 simp only [Nat.add_zero] at hst
 simp [Builtin.append_, run_underlying ht, sizeOf, typeInfo, hi, Builtin.lenOf, hroom, hf, add_at, hst]
theorem run_append_none (t ty e : TypeId) (i : TypeInfo) (ht : P.underlying t = some (.slice e)) (hi : P.info? e = some i) (sad : Option Addr) (sLen sCap : Nat) (ad : Option Addr) (c : Nat) (hroom : sLen ≤ sCap) :
 (Builtin.append_ #[t, t] ty #[.slice sad sLen sCap, .slice ad 0 c]).run P w = .ok (.slice sad sLen sCap) w := by
 have hf : (Builtin.firstCells i.size 0 (.slice ad 0 c)).run P w = .ok #[] w := by
  cases ad with
  | none => rfl
  | some a' => simp [Builtin.firstCells, loadCells, loadCellsFrom]
 cases sad with
 | none => simp [Builtin.append_, run_underlying ht, sizeOf, typeInfo, hi, Builtin.lenOf, hroom, hf]
 | some b => simp [Builtin.append_, run_underlying ht, sizeOf, typeInfo, hi, Builtin.lenOf, hroom, hf, storeCells]
theorem run_append_more (t ty e : TypeId) (i : TypeInfo) (z : Value) (ht : P.underlying t = some (.slice e)) (hi : P.info? e = some i) (hz : i.zero = some z)
 (sad : Option Addr) (sLen sCap : Nat) (olds : List Value) (hlo : olds.length = sLen * i.size) (holds : 0 < sLen → ∃ b, sad = some b ∧ ∀ (j : Nat) (v : Value), olds[j]? = some v → w.cell? (b.add j) = some v) (hnil : sad = none → sLen = 0 ∧ sCap = 0)
 (ad : Option Addr) (m c : Nat) (news : List Value) (hl : news.length = m * i.size) (had : ∃ a', ad = some a' ∧ ∀ j u, news[j]? = some u → w.cell? (a'.add j) = some u)
 (hg : sCap < sLen + m) (hm : 0 < m) (h63 : sLen + m ≤ 140737488355328) (hb : (sLen + m) * i.bytes ≤ 140737488355328) :
 ∃ (cap : Nat), sLen + m ≤ cap ∧ cap ≤ maxLen ∧ (Builtin.append_ #[t, t] ty #[.slice sad sLen sCap, .slice ad m c]).run P w =
  .ok (.slice (some ⟨w.heap.size, 0, none⟩) (sLen + m) cap) (w.drew.alloc (.cells (olds.toArray ++ news.toArray ++ Builtin.zeroCells z.cells (cap - (sLen + m))) e)) := by
 obtain ⟨a', rfl, hn⟩ := had
 cases sad with
 | none =>
  obtain ⟨rfl, rfl⟩ := hnil rfl
  have ho : olds = [] := List.eq_nil_of_length_eq_zero (by simpa using hlo)
  subst ho
  have hr := run_append_nil (P := P) w t ty e i z ht hi hz a' m c news hl hn hm (by omega) (by have hb := hb; simp only [Nat.zero_add] at hb; omega)
  refine ⟨grownCap w m 0 e, by have := grownCap_ge w m 0 e; omega, grownCap_le_maxLen w m 0 e (by simp only [maxLen]; omega), ?_⟩
  rw [hr]
  simp
 | some b =>
  have hh : ∀ j v, olds[j]? = some v → w.cell? (b.add j) = some v := by
   intro j v hj
   rcases Nat.eq_zero_or_pos sLen with h0 | h0
   ·subst h0
    have ho : olds = [] := List.eq_nil_of_length_eq_zero (by simpa using hlo)
    subst ho
    simp at hj
   ·obtain ⟨b', hb', hc⟩ := holds h0
    cases hb'
    exact hc j v hj
  have hr := run_append_grow (P := P) w t ty e i z ht hi hz b sLen sCap olds hlo hh a' m c news hl hn hg (by omega) (growslice_fits hg hb)
  exact ⟨_, grownCap_ge w (sLen + m) sCap e, grownCap_le_maxLen w (sLen + m) sCap e (by simp only [maxLen]; omega), hr⟩
theorem rest_drew_alloc (w : World) (o : Obj) : Rest w (w.drew.alloc o) := ⟨rfl, rfl, rfl, by simp⟩
theorem RelG.grown (h : RelG B G s a w) {H1 : Nat → Option Ob} (hkeys : ∀ k, H1 k = s.heap k ∨ (s.heap k ≠ none ∧ H1 k = some .dead)) {k : Nat} (hk : H1 k = none) (e : TypeId) (sz cap : Nat) (xs : List (List D)) (dp : Bool) (vs : List Value) (S : List Nat) (cells : Array Value)
 (hsz : cap * sz ≤ cells.size) (hv : ∀ (j : Nat) (v : Value), vs[j]? = some v → cells[j]? = some v) (hlen : xs.length ≤ cap) (hmax : cap ≤ maxLen) (hvl : vs.length = xs.length * sz) (hone : ∀ v ∈ vs, v.oneCell' = true) (huni : ∀ x ∈ xs, x.length = sz)
 (htr : TrL w dp vs xs.flatten S) (hno : ∀ b ∈ S, ¬ Ban B.F G H1 b) (hown : dp = true → S.Nodup ∧ ∀ b ∈ S, Own G s.heap b) :
 ∃ G', RelG B G' { s with heap := upd H1 k (some (.row sz xs dp false 0)) } a (w.drew.alloc (.cells cells e)) ∧
  AVR (w.drew.alloc (.cells cells e)) G' (upd H1 k (some (.row sz xs dp false 0))) (Ban B.F G' (upd H1 k (some (.row sz xs dp false 0)))) (.slice (some ⟨w.heap.size, 0, none⟩) xs.length cap) (.r k) := by
 let gi : GI := { blk := w.heap.size, off := 0, cap := cap, vs := vs, sub := S }
 have hold : ∀ b, b < w.heap.size → (w.drew.alloc (.cells cells e)).heap[b]? = w.heap[b]? := fun b hb => heap_alloc_old w.drew _ b hb
 have hnew : (w.drew.alloc (.cells cells e)).heap[w.heap.size]? = some (.cells cells e) := heap_alloc_new w.drew _
 have hnS : w.heap.size ∉ S := fun hb => by have := htr.lt _ hb; omega
 refine ⟨upd G k gi, ?_, ?_⟩
 ·refine h.putRow hkeys hk gi sz xs dp 0 (rest_drew_alloc ..) (fun b hb _ => hold b hb) ?_ ?_ ?_
  ·intro b hb
   rcases (mem_ownRow hb).2 with rfl | ⟨rfl, hb2⟩
   ·exact .inr (Nat.le_refl _)
   ·obtain ⟨i, hi'⟩ := (hown rfl).2 b hb2
    exact .inl ⟨i, fun e => hno b hb2 (.inl ⟨i, by rw [e]; exact hi'⟩), hi'⟩
  ·exact nodup_ownRow fun hf => ⟨hnS, (hown hf).1⟩
  ·refine ⟨fun _ => ⟨cells, e, hnew, by simpa [gi] using hsz, by simpa [gi] using hv⟩, hlen, hmax, hvl, hone, huni, htr.keep fun b hb => hold b (htr.lt b hb), fun hf => (hown hf).1, ?_, by simp⟩
   intro hf b hb hn
   rcases own_put hn with hn | hn
   ·exact hno b hb hn
   ·have hf' : dp = false := by simpa using hf
    have hlt := htr.lt b hb
    rcases (mem_ownRow hn).2 with rfl | ⟨e, _⟩
    ·exact absurd hlt (Nat.lt_irrefl _)
    ·rw [hf'] at e; cases e
 ·have := AVR.r (w := w.drew.alloc (.cells cells e)) (G := upd G k gi) (H := upd H1 k (some (.row sz xs dp false 0))) (Av := Ban B.F (upd G k gi) (upd H1 k (some (.row sz xs dp false 0)))) k sz xs dp false 0 (some ⟨w.heap.size, 0, none⟩) (upd_same ..) (fun _ => by simp [upd_same, gi])
  simpa [upd_same, gi] using this
theorem opAppend_ok (hT : T.ok P = true) (h : RelG B G s a w) {dst : Nat} {ty ty' : TypeId} {x y : AV} {xv yv : Value} (hx : AVR w G s.heap (Ban B.F G s.heap) xv x) (hy : AVR w G s.heap (Ban B.F G s.heap) yv y)
 {av : AV} {H' : Nat → Option Ob} (hm : opAppend T s.heap dst ty x y = some (av, H')) :
 ∃ v w' G', (Builtin.append_ #[ty, ty] ty' #[xv, yv]).run P w = .ok v w' ∧ RelG B G' { s with heap := H' } a w' ∧ AVR w' G' H' (Ban B.F G' H') v av := by
 simp only [opAppend, Option.bind_eq_some_iff] at hm
 obtain ⟨ti, hti, hm⟩ := hm
 have hok := tiok hT hti
 cases hkd : ti.kind with
 | slice e =>
  rw [hkd] at hm
  simp only [Option.bind_eq_some_iff] at hm
  obtain ⟨te, hte, ⟨ys, f, H1⟩, hsrc, hm⟩ := hm
  have hoke := tiok hT hte
  have hu := hok.slice hkd
  obtain ⟨i, z, hi, his, hib, hiz, hzz⟩ := hoke.info
  have hzs : z.cells.size = te.size := by rw [← Array.length_toList, zeroOK_len hzz, hoke.zlen]
  obtain ⟨M, news, S', src⟩ := srcA_ok h hy hsrc
  obtain ⟨⟨ad, c, rfl, hread⟩, nl, nu, n1, nt, nno, nown⟩ := src
  cases hx with
  | z sz0 =>
   simp only at hm
   split at hm
   case isFalse => cases hm
   rename_i hc
   obtain ⟨hb, hle, hpos⟩ := hc
   split at hm
   case h_2 => cases hm
   rename_i hd
   simp only [Option.some.injEq, Prod.mk.injEq] at hm
   obtain ⟨rfl, rfl⟩ := hm
   by_cases hy0 : ys = []
   ·subst hy0
    let gi : GI := { blk := 0, off := 0, cap := 0, vs := [], sub := [] }
    have hrun := run_append_none (P := P) (w := w) ty ty' e i hu hi none 0 0 ad c (Nat.le_refl 0)
    refine ⟨.slice none 0 0, w, upd G dst gi, hrun, h.putRow (w' := w) M.keys hd gi te.size [] f 0 (.refl w) (fun _ _ _ => rfl) (by simp [ownOf, gi]) (by simp [ownOf, gi]) (RowR.mkVoid ..), ?_⟩
    have := AVR.r (w := w) (G := upd G dst gi) (H := upd H1 dst (some (.row te.size [] f false 0))) (Av := Ban B.F (upd G dst gi) (upd H1 dst (some (.row te.size [] f false 0)))) dst te.size [] f false 0 none (upd_same ..) (fun hlt => by
     rw [upd_same] at hlt
     exact absurd hlt (Nat.lt_irrefl 0))
    rw [upd_same] at this
    exact this
   have hyl : 0 < ys.length := List.length_pos_iff.2 hy0
   obtain ⟨cap, hcap, hmax, hrun⟩ := run_append_more (P := P) (w := w) ty ty' e i z hu hi hiz none 0 0 [] (by simp) (by omega) (by simp) ad ys.length c news (by rw [nl, his]) (hread hy0) (by omega) hyl (by omega) (by rw [Nat.zero_add, hib]; exact hb)
   simp only [Nat.zero_add] at hrun hcap
   rw [show (([] : List Value).toArray ++ news.toArray) = news.toArray by simp] at hrun
   have hzc := size_zeroCells z.cells (cap - ys.length)
   have hmulc : (cap - ys.length) * te.size + ys.length * te.size = cap * te.size := by rw [← Nat.add_mul]; congr 1; omega
   obtain ⟨G', hr, ha⟩ := h.grown M.keys hd e te.size cap ys f news S' (news.toArray ++ Builtin.zeroCells z.cells (cap - ys.length))
    (by rw [Array.size_append, List.size_toArray, hzc, hzs, nl]; omega) (fun j v hj => by
      rw [Array.getElem?_append_left (by
       have : j < news.length := by
        rcases Nat.lt_or_ge j news.length with h | h
        ·exact h
        ·rw [List.getElem?_eq_none h] at hj; cases hj
       simpa using this)]
      simpa using hj) hcap hmax nl n1 nu nt nno nown
   exact ⟨_, _, G', hrun, hr, ha⟩
  | r k sz0 xs0 dp0 fz0 ve0 sad hk0 ha0 =>
   simp only at hm
   split at hm
   case h_2 => cases hm
   rename_i sz xs dp ve hk1
   have hk : s.heap k = some (.row sz xs dp false ve) := by
    rcases M.keys k with e' | ⟨_, e'⟩
    ·rw [← e']; exact hk1
    ·rw [e'] at hk1; cases hk1
   have hsame : sz0 = sz ∧ xs0 = xs := by rw [hk] at hk0; cases hk0; exact ⟨rfl, rfl⟩
   obtain ⟨rfl, rfl⟩ := hsame
   split at hm
   case isFalse => cases hm
   rename_i hc
   obtain ⟨rfl, hb, hle, hpos⟩ := hc
   split at hm
   case h_2 => cases hm
   rename_i hd
   simp only [Option.some.injEq, Prod.mk.injEq] at hm
   obtain ⟨rfl, rfl⟩ := hm
   have h1 : RelG B G { s with heap := H1 } a w := M.rel
   have hR : RowR w (Ban B.F G H1) (G k) te.size xs0 dp false := h1.obj k _ hk1
   have hvoid := hR.void
   obtain ⟨hcells, r2, r3, r4, r5, r6, r7, r8, r9, r10⟩ := hR
   have hne1 : H1 k ≠ none := by rw [hk1]; simp
   have hkd' : k ≠ dst := fun e' => by subst e'; rw [hk1] at hd; cases hd
   have hH2 : (upd H1 k (some .dead)) dst = none := by rw [upd_ne _ _ (Ne.symm hkd')]; exact hd
   have hkeys2 : ∀ j, (upd H1 k (some .dead)) j = s.heap j ∨ (s.heap j ≠ none ∧ (upd H1 k (some .dead)) j = some .dead) := by
    intro j
    by_cases e' : j = k
    ·subst e'; exact .inr ⟨by rw [hk]; simp, upd_same ..⟩
    ·rw [upd_ne _ _ e']; exact M.keys j
   have hsubc : ∀ b ∈ (G k).sub, (G k).cap ≠ 0 := fun b hb hc => by rw [(hvoid hc).2.2] at hb; simp at hb
   have hsubk : (G k).cap ≠ 0 → (G k).blk ∉ (G k).sub := by
    intro hc
    cases hdp : dp with
    | true =>
     have := h1.nodup k
     simp only [hk1, hdp, ownOf, if_true, hc, if_false] at this
     exact (List.nodup_cons.1 this).1
    | false => exact fun hb => r9 (.inl hdp) _ hb (.inl ⟨k, by rw [hk1]; simp [ownOf, hc]⟩)
   have hblkS : (G k).cap ≠ 0 → (G k).blk ∉ S' := fun hc hb => nno _ hb (.inl ⟨k, by rw [hk1]; simp [ownOf, hc]⟩)
   have t1 := r7
   have t2 : ∀ b ∈ (G k).sub, b ∈ (G k).sub := fun _ hb => hb
   have t3 : (G k).sub.Nodup → (G k).sub.Nodup := fun hb => hb
   have holdl : (G k).vs.length = xs0.length * te.size := r4
   have hxl : (xs0 ++ ys).length = xs0.length + ys.length := by rw [List.length_append]
   have htr : TrL w (dp && f) ((G k).vs ++ news) (xs0 ++ ys).flatten ((G k).sub ++ S') := by
    rw [List.flatten_append]
    by_cases hdf : (dp && f) = true
    ·rw [hdf]
     simp at hdf
     rw [hdf.1] at t1
     rw [hdf.2] at nt
     exact t1.append nt
    ·rw [Bool.not_eq_true] at hdf
     rw [hdf]
     exact t1.shared.append nt.shared
   have hown2 : ∀ b, Ban B.F G (upd H1 k (some .dead)) b → Ban B.F G H1 b ∧ ((G k).cap ≠ 0 → b ≠ (G k).blk) ∧ (dp = true → b ∉ (G k).sub) := by
    rintro b (⟨j, hj⟩ | hf)
    case inr =>
     have key : b ∈ ownOf (G k) (H1 k) → False := fun hm => h1.noF hm hf
     rw [hk1] at key
     exact ⟨.inr hf, fun hc e2 => key (by rw [e2]; simp [ownOf, hc]), fun hdp hb => key (by rw [hdp]; simp [ownOf, hsubc b hb, hb])⟩
    by_cases e' : j = k
    ·subst e'; rw [upd_same] at hj; simp [ownOf] at hj
    ·rw [upd_ne _ _ e'] at hj
     refine ⟨.inl ⟨j, hj⟩, fun hc e2 => e' ?_, fun hdp hb => e' ?_⟩
     ·exact h1.disj j k b hj (by show b ∈ ownOf (G k) (H1 k); rw [hk1, e2]; simp [ownOf, hc])
     ·exact h1.disj j k b hj (by show b ∈ ownOf (G k) (H1 k); rw [hk1, hdp]; simp [ownOf, hsubc b hb, hb])
   have hno2 : ∀ b ∈ (G k).sub ++ S', ¬ Ban B.F G (upd H1 k (some .dead)) b := by
    intro b hb hn
    obtain ⟨o1, o2, o3⟩ := hown2 b hn
    rcases List.mem_append.1 hb with hb | hb
    ·cases hdp : dp with
     | true => exact o3 hdp (t2 b hb)
     | false => exact r9 (.inl hdp) b (t2 b hb) o1
    ·exact nno b hb o1
   have hdeep : (dp && f) = true → ((G k).sub ++ S').Nodup ∧ ∀ b ∈ (G k).sub ++ S', Own G s.heap b := by
    intro hdf
    simp at hdf
    obtain ⟨m1, m2⟩ := nown hdf.2
    refine ⟨List.nodup_append.2 ⟨t3 (r8 hdf.1), m1, fun p hp q hq e' => ?_⟩, fun b hb => ?_⟩
    ·subst e'
     exact nno p hq (.inl ⟨k, by rw [hk1, hdf.1]; simp [ownOf, hsubc p hp, hp]⟩)
    ·rcases List.mem_append.1 hb with hb | hb
     ·exact ⟨k, by rw [hk, hdf.1]; simp [ownOf, hsubc b hb, hb]⟩
     ·exact m2 b hb
   have huni : ∀ q ∈ xs0 ++ ys, q.length = te.size := by
    intro q hq
    rcases List.mem_append.1 hq with hq | hq
    ·exact r6 q (hq)
    ·exact nu q hq
   have hone : ∀ u ∈ (G k).vs ++ news, u.oneCell' = true := by
    intro u hu
    rcases List.mem_append.1 hu with hu | hu
    ·exact r5 u (hu)
    ·exact n1 u hu
   have hvl : ((G k).vs ++ news).length = (xs0 ++ ys).length * te.size := by
    rw [List.length_append, holdl, nl, hxl, Nat.add_mul]
   have hcm : (xs0.length + ys.length) * te.size = xs0.length * te.size + ys.length * te.size := Nat.add_mul ..
   have hx1 : xs0.length * te.size ≤ (G k).cap * te.size := Nat.mul_le_mul_right _ r2
   by_cases hvd : (G k).cap = 0 ∧ ys.length = 0
   ·obtain ⟨hc0, hy0⟩ := hvd
    have hxn : xs0 ++ ys = [] := List.eq_nil_of_length_eq_zero (by rw [hxl]; omega)
    have hx0 : xs0.length = 0 := by omega
    let gi : GI := { blk := 0, off := 0, cap := 0, vs := [], sub := [] }
    have hrun := run_append_none (P := P) (w := w) ty ty' e i hu hi sad xs0.length (G k).cap ad c (by omega)
    rw [hxn]
    refine ⟨.slice sad xs0.length (G k).cap, w, upd G dst gi, by rw [hy0]; exact hrun, h.putRow (w' := w) hkeys2 hH2 gi te.size [] (dp && f) 0 (.refl w) (fun _ _ _ => rfl) (by simp [ownOf, gi]) (by simp [ownOf, gi]) (RowR.mkVoid ..), ?_⟩
    have := AVR.r (w := w) (G := upd G dst gi) (H := upd (upd H1 k (some .dead)) dst (some (.row te.size [] (dp && f) false 0))) (Av := Ban B.F (upd G dst gi) (upd (upd H1 k (some .dead)) dst (some (.row te.size [] (dp && f) false 0)))) dst te.size [] (dp && f) false 0 sad (upd_same ..) (fun hlt => by
     rw [upd_same] at hlt
     exact absurd hlt (Nat.lt_irrefl 0))
    rw [upd_same] at this
    rw [hx0, hc0]
    exact this
   by_cases hroom : xs0.length + ys.length ≤ (G k).cap
   ·-- in place
    have hc0 : (G k).cap ≠ 0 := by omega
    obtain ⟨cur, el, hg, hcap, hvs⟩ := hcells (by omega)
    have hsubk := hsubk hc0
    have hblkS := hblkS hc0
    let gi : GI := { blk := (G k).blk, off := (G k).off, cap := (G k).cap, vs := (G k).vs ++ news, sub := (G k).sub ++ S' }
    have hrm : (xs0.length + ys.length) * te.size ≤ (G k).cap * te.size := Nat.mul_le_mul_right _ hroom
    have hgiS : (G k).blk ∉ (G k).sub ++ S' := fun hb => by
     rcases List.mem_append.1 hb with hb | hb
     ·exact hsubk (t2 _ hb)
     ·exact hblkS hb
    -- the world behind
    obtain ⟨w', hrun, hrest, hsame', cur', hcur', hcl, hseg⟩ : ∃ w', (Builtin.append_ #[ty, ty] ty' #[.slice sad xs0.length (G k).cap, .slice ad ys.length c]).run P w = .ok (.slice sad (xs0.length + ys.length) (G k).cap) w' ∧ Rest w w' ∧
     (∀ b, b ≠ (G k).blk → w'.heap[b]? = w.heap[b]?) ∧ ∃ cur', w'.heap[(G k).blk]? = some (.cells cur' el (0, 0)) ∧ cur'.size = cur.size ∧
     ∀ j v, ((G k).vs ++ news)[j]? = some v → cur'[(G k).off + j]? = some v := by
     rcases Nat.eq_zero_or_pos ys.length with h0 | h0
     ·have hnews : news = [] := List.eq_nil_of_length_eq_zero (by rw [nl, h0, Nat.zero_mul])
      refine ⟨w, ?_, .refl w, fun _ _ => rfl, cur, hg, rfl, ?_⟩
      ·rw [h0]; exact run_append_none ty ty' e i hu hi sad xs0.length _ ad c (by omega)
      ·intro j v hj
       rw [hnews, List.append_nil] at hj
       exact hvs _ _ hj
     ·have hlt : 0 < (G k).cap := by omega
      have hyne : ys ≠ [] := fun e' => by rw [e'] at h0; simp at h0
      have hfit : (G k).off + xs0.length * te.size + news.length ≤ cur.size := by rw [nl]; omega
      have hrun := run_append_room_at (P := P) (w := w) ty ty' e i hu hi (G k).blk ((G k).off) xs0.length (G k).cap cur el hg ad ys.length c news (by rw [nl, his]) (hread hyne) n1 hroom (by rw [his]; exact hfit)
      rw [his] at hrun
      rw [ha0 hlt]
      refine ⟨_, hrun, rest_setRow .., fun b hb => setRow_other w _ _ _ hb, _, setRow_heap w _ _ _ _ _ hg, ?_, ?_⟩
      ·simp only [List.size_toArray, List.length_append, List.length_take, List.length_drop, Array.length_toList]
       omega
      ·intro j v hj
       simp only [List.getElem?_toArray]
       have e1 : (List.take ((G k).off + xs0.length * te.size) cur.toList).length = (G k).off + xs0.length * te.size := by rw [List.length_take, show cur.toList.length = cur.size from Array.length_toList]; omega
       rw [List.append_assoc]
       by_cases hjl : j < xs0.length * te.size
       ·rw [List.getElem?_append_left (by omega)] at hj
        rw [List.getElem?_append_left (by omega), List.getElem?_take_of_lt (by omega)]
        simpa using hvs _ _ hj
       ·rw [List.getElem?_append_right (by omega), holdl] at hj
        have hjn : j - xs0.length * te.size < news.length := by
         rcases Nat.lt_or_ge (j - xs0.length * te.size) news.length with h' | h'
         ·exact h'
         ·rw [List.getElem?_eq_none h'] at hj; cases hj
        rw [List.getElem?_append_right (by omega), e1, List.getElem?_append_left (by omega), show (G k).off + j - ((G k).off + xs0.length * te.size) = j - xs0.length * te.size by omega]
        exact hj
    refine ⟨_, w', upd G dst gi, hrun, ?_, ?_⟩
    ·refine h.putRow hkeys2 hH2 gi te.size (xs0 ++ ys) (dp && f) 0 hrest ?_ ?_ ?_ ?_
     ·intro b hb hn
      refine hsame' b fun e' => hn k (by rw [upd_same, hk]; simp) ?_
      rw [hk, e']
      simp [ownOf, hc0]
     ·intro b hb
      have hbk : b = (G k).blk → ∃ j, (upd H1 k (some .dead)) j ≠ s.heap j ∧ b ∈ ownOf (G j) (s.heap j) := fun e' => ⟨k, by rw [upd_same, hk]; simp, by rw [hk, e']; simp [ownOf, hc0]⟩
      by_cases hdf : (dp && f) = true
      ·rw [hdf] at hb
       simp only [ownOf, if_true, gi, hc0, if_false, List.mem_cons] at hb
       rcases hb with hb | hb
       ·exact .inl (hbk hb)
       ·obtain ⟨j, hj⟩ := (hdeep hdf).2 b hb
        exact .inl ⟨j, fun e' => hno2 b hb (.inl ⟨j, by rw [e']; exact hj⟩), hj⟩
      ·rw [Bool.not_eq_true] at hdf
       rw [hdf] at hb
       simp only [ownOf, Bool.false_eq_true, if_false, gi, hc0, List.mem_cons, List.not_mem_nil, or_false] at hb
       exact .inl (hbk hb)
     ·by_cases hdf : (dp && f) = true
      ·rw [hdf]
       simp only [ownOf, if_true, gi, hc0, if_false]
       exact List.nodup_cons.2 ⟨hgiS, (hdeep hdf).1⟩
      ·rw [Bool.not_eq_true] at hdf
       rw [hdf]
       simp [ownOf, gi, hc0]
     ·refine ⟨fun _ => ⟨cur', el, hcur', ?_, hseg⟩, ?_, by simp only [gi]; omega, hvl, hone, huni, htr.keep fun b hb => hsame' b fun e' => hgiS (e' ▸ hb), fun hdf => (hdeep hdf).1, ?_, by simp⟩
      ·simp only [gi]; omega
      ·rw [hxl]; exact hroom
      ·intro hdf b hb hn
       rcases own_put hn with hn | hn
       ·exact hno2 b hb hn
       ·have hdf' : (dp && f) = false := by simpa using hdf
        rw [hdf'] at hn
        simp only [ownOf, Bool.false_eq_true, if_false, gi, hc0, List.mem_cons, List.not_mem_nil, or_false] at hn
        subst hn
        exact hgiS hb
    ·have := AVR.r (w := w') (G := upd G dst gi) (H := upd (upd H1 k (some .dead)) dst (some (.row te.size (xs0 ++ ys) (dp && f) false 0))) (Av := Ban B.F (upd G dst gi) (upd (upd H1 k (some .dead)) dst (some (.row te.size (xs0 ++ ys) (dp && f) false 0)))) dst te.size (xs0 ++ ys) (dp && f) false 0 sad (upd_same ..) (fun hlt => by
      rw [upd_same] at hlt ⊢
      simp only [gi] at hlt ⊢
      exact ha0 hlt)
     rw [upd_same, hxl] at this
     exact this
   ·-- a new row
    have hy0 : 0 < ys.length := by omega
    have hyne : ys ≠ [] := fun e' => by rw [e'] at hy0; simp at hy0
    obtain ⟨cap, hcap', hmax, hrun⟩ := run_append_more (P := P) (w := w) ty ty' e i z hu hi hiz sad xs0.length (G k).cap (G k).vs (by rw [holdl, his]) (fun h0 => ⟨_, ha0 (Nat.lt_of_lt_of_le h0 r2), fun j v hj => by
     obtain ⟨cur, el, hg, hcap, hvs⟩ := hcells (Nat.lt_of_lt_of_le h0 r2)
     rw [add_at, cell_at hg]
     exact hvs _ _ hj⟩) (fun hn => by
      have : ¬ 0 < (G k).cap := fun hlt => by rw [ha0 hlt] at hn; cases hn
      omega) ad ys.length c news (by rw [nl, his]) (hread hyne) (by omega) hy0 hle (by rw [hib]; exact hb)
    have hzc := size_zeroCells z.cells (cap - (xs0.length + ys.length))
    have hmulc : (cap - (xs0.length + ys.length)) * te.size + (xs0.length + ys.length) * te.size = cap * te.size := by rw [← Nat.add_mul]; congr 1; omega
    obtain ⟨G', hr, ha⟩ := h.grown hkeys2 hH2 e te.size cap (xs0 ++ ys) (dp && f) ((G k).vs ++ news) ((G k).sub ++ S') ((G k).vs.toArray ++ news.toArray ++ Builtin.zeroCells z.cells (cap - (xs0.length + ys.length)))
     (by rw [Array.size_append, Array.size_append, List.size_toArray, List.size_toArray, hzc, hzs, holdl, nl]; omega) (fun j v hj => by
       have hjl : j < ((G k).vs ++ news).length := by
        rcases Nat.lt_or_ge j ((G k).vs ++ news).length with h' | h'
        ·exact h'
        ·rw [List.getElem?_eq_none h'] at hj; cases hj
       rw [Array.getElem?_append_left (by simpa using hjl)]
       simpa using hj) (by rw [hxl]; exact hcap') hmax hvl hone huni htr hno2 hdeep
    rw [hxl] at ha
    exact ⟨_, _, G', hrun, hr, ha⟩
  | rd k v hk0 =>
   simp only at hm
   split at hm
   case h_2 => cases hm
   rename_i sz xs dp ve hk1
   rcases M.keys k with e' | ⟨_, e'⟩
   ·rw [e', hk0] at hk1; cases hk1
   ·rw [e'] at hk1; cases hk1
  | _ => simp_all
 | _ => rw [hkd] at hm; simp at hm
end rel
end Go.Fs
namespace Go.Fs
open Go.RowKit
theorem TrL.at {w : World} {own : Bool} : ∀ {vs : List Value} {ds : List D} {S : List Nat}, TrL w own vs ds S → ∀ {j : Nat} {d : D}, ds[j]? = some d → ∃ v S1 Sm S2, vs[j]? = some v ∧ Tr w own v d Sm ∧ S = S1 ++ (Sm ++ S2) ∧
 ∀ {w' : World} {d' : D} {Si : List Nat}, Tr w' own v d' Si → (∀ b, b ∈ S1 ∨ b ∈ S2 → w'.heap[b]? = w.heap[b]?) → TrL w' own vs (ds.set j d') (S1 ++ (Si ++ S2))
 | _, _, _, .nil, j, d, h => by simp at h
 | _, _, _, .cons v d0 S vs ds Ss h hs, 0, d, e => by
  obtain rfl : d0 = d := by simpa using e
  refine ⟨v, [], S, Ss, rfl, h, rfl, fun {w' d' Si} h' hk => ?_⟩
  show TrL w' own (v :: vs) (d' :: ds) (Si ++ Ss)
  exact .cons _ _ _ _ _ _ h' (hs.keep fun b hb => hk b (.inr hb))
 | _, _, _, .cons v d0 S vs ds Ss h hs, j + 1, d, e => by
  obtain ⟨u, S1, Sm, S2, e1, e2, e3, e4⟩ := hs.at (j := j) (by simpa using e)
  refine ⟨u, S ++ S1, Sm, S2, by simpa using e1, e2, by rw [e3]; simp, fun h' hk => ?_⟩
  have := TrL.cons v d0 S vs _ _ (h.keep fun b hb => hk b (.inl (by simp [hb]))) (e4 h' fun b hb => hk b (hb.imp (fun hb => by simp [hb]) id))
  rw [List.append_assoc]
  exact this
theorem cell_get : ∀ {xs : List (List D)} {sz : Nat} (h : ∀ x ∈ xs, x.length = sz) {i o : Nat}, i < xs.length → o < sz → xs.flatten[i * sz + o]? = some ((xs.getD i []).getD o .u)
 | [], _, _, i, o, hi, _ => by simp at hi
 | x :: xs, sz, h, 0, o, hi, ho => by
  have := h x (by simp)
  simp [List.getElem?_append_left (show o < x.length by omega), List.getElem?_eq_getElem (show o < x.length by omega)]
 | x :: xs, sz, h, i + 1, o, hi, ho => by
  have hx := h x (by simp)
  have := cell_get (xs := xs) (fun y hy => h y (by simp [hy])) (i := i) (by simpa using hi) ho
  rw [List.flatten_cons, List.getElem?_append_right (by rw [hx, Nat.succ_mul]; omega)]
  have e : (i + 1) * sz + o - x.length = i * sz + o := by rw [hx, Nat.succ_mul]; omega
  rw [e, this]
  simp
def setCell (xs : List (List D)) (i o : Nat) (y : D) : List (List D) := xs.set i ((xs.getD i []).set o y)
theorem setCell_flat : ∀ {xs : List (List D)} {sz : Nat} (h : ∀ x ∈ xs, x.length = sz) {i o : Nat} (y : D), i < xs.length → o < sz → (setCell xs i o y).flatten = xs.flatten.set (i * sz + o) y
 | [], _, _, i, o, y, hi, _ => by simp at hi
 | x :: xs, sz, h, 0, o, y, hi, ho => by
  have := h x (by simp)
  simp [setCell, List.set_append_left o y (show o < x.length by omega)]
 | x :: xs, sz, h, i + 1, o, y, hi, ho => by
  have hx := h x (by simp)
  have := setCell_flat (xs := xs) (fun y hy => h y (by simp [hy])) (i := i) y (by simpa using hi) ho
  rw [List.flatten_cons, List.set_append_right _ _ (by rw [hx, Nat.succ_mul]; omega)]
  have e : (i + 1) * sz + o - x.length = i * sz + o := by rw [hx, Nat.succ_mul]; omega
  rw [e, ← this]
  simp [setCell]
theorem setCell_len (xs : List (List D)) (i o : Nat) (y : D) : (setCell xs i o y).length = xs.length := by simp [setCell]
theorem setCell_uni {xs : List (List D)} {sz : Nat} (h : ∀ x ∈ xs, x.length = sz) {i : Nat} (hi : i < xs.length) (o : Nat) (y : D) : ∀ x ∈ setCell xs i o y, x.length = sz := by
 intro x hx
 rcases List.mem_or_eq_of_mem_set hx with hx | rfl
 ·exact h x hx
 ·rw [List.length_set]
  have : xs.getD i [] = xs[i] := by simp [List.getElem?_eq_getElem hi]
  rw [this]
  exact h _ (List.getElem_mem hi)
def takeD (H : Nat → Option Ob) (k k' sz ve i o : Nat) (xs : List (List D)) (cs : List D) : D → Option (AV × (Nat → Option Ob))
 | .l z ys => some (.r k', upd (upd H k (some (.row sz (xs.set i (cs.set o .u)) true false (ve + 1)))) k' (some (.row z ys true false 0)))
 | _ => none
def takeC (H : Nat → Option Ob) (k k' sz ve i o : Nat) (xs : List (List D)) (cs : List D) : Option (AV × (Nat → Option Ob)) := (cs[o]?).bind (takeD H k k' sz ve i o xs cs)
def takeM (H : Nat → Option Ob) (k' : Nat) : AV → Option (AV × (Nat → Option Ob))
 | .m k ve i o => match H k with
  | some (.row sz xs true false ve') => if ve = ve' ∧ o < sz then match H k' with
   | none => (xs[i]?).bind (takeC H k k' sz ve i o xs)
   | some _ => none else none
  | _ => demote H (.m k ve i o)
 | av => demote H av
section rel
variable {P : Program} {T : Tab} {B : Ctx} {G : Nat → GI} {s : St} {a : Act} {w : World}
theorem takeM_ok (h : RelG B G s a w) {v : Value} {x : AV} (hx : AVR w G s.heap (Ban B.F G s.heap) v x) {k' : Nat} {x' : AV} {H1 : Nat → Option Ob} (hm : takeM s.heap k' x = some (x', H1)) :
 ∃ G', RelG B G' { s with heap := H1 } a w ∧ AVR w G' H1 (Ban B.F G' H1) v x' ∧ ∀ {u : Value} {av : AV}, AVR w G s.heap (Ban B.F G s.heap) u av → AVR w G' H1 (Ban B.F G' H1) u av := by
 have dem : demote s.heap x = some (x', H1) → ∃ G', RelG B G' { s with heap := H1 } a w ∧ AVR w G' H1 (Ban B.F G' H1) v x' ∧ ∀ {u : Value} {av : AV}, AVR w G s.heap (Ban B.F G s.heap) u av → AVR w G' H1 (Ban B.F G' H1) u av := fun hd => by
  obtain ⟨e1, v1⟩ := demote_ok h hx hd
  exact ⟨G, e1.rel, v1, fun hv => e1.avr hv⟩
 unfold takeM at hm
 split at hm
 case h_2 => exact dem hm
 rename_i k ve i o
 split at hm
 case h_2 => exact dem hm
 rename_i sz xs ve' hk
 split at hm
 case isFalse => cases hm
 rename_i hc
 obtain ⟨rfl, ho⟩ := hc
 split at hm
 case h_2 => cases hm
 rename_i hn
 obtain ⟨cs, hcs, hm⟩ := Option.bind_eq_some_iff.1 hm
 obtain ⟨d, hd, hm⟩ := Option.bind_eq_some_iff.1 hm
 unfold takeD at hm
 split at hm
 case h_2 => cases hm
 rename_i z ys
 simp only [Option.some.injEq, Prod.mk.injEq] at hm
 obtain ⟨rfl, rfl⟩ := hm
 have hi : i < xs.length := (List.getElem?_eq_some_iff.1 hcs).1
 have hgd : xs.getD i [] = cs := by rw [List.getD_eq_getElem?_getD, hcs]; rfl
 have hset : xs.set i (cs.set o .u) = setCell xs i o .u := by unfold setCell; rw [hgd]
 rw [hset]
 have hrow : RowR w (Ban B.F G s.heap) (G k) sz xs true false := h.obj k _ hk
 obtain ⟨c1, c2, c3, c4, c5, c6, c7, c8, c9, c10⟩ := hrow
 have hkk : k' ≠ k := fun e => by rw [e, hk] at hn; cases hn
 have hcap : (G k).cap ≠ 0 := by omega
 have hcell : xs.flatten[i * sz + o]? = some (.l z ys) := by
  have := cell_get c6 hi ho
  rw [hgd, List.getD_eq_getElem?_getD, hd] at this
  exact this
 obtain ⟨v1, S1, Sm, S2, hv, htr, hsub, hrep⟩ := c7.at hcell
 have hv1 : v1 = v ∧ v.oneCell' = true := by
  cases hx with
  | m _ _ _ sz' xs' dp fz _ _ z' ys' hk' hj hv' h1 =>
   rw [hk] at hk'; cases hk'
   rw [hv] at hv'
   exact ⟨Option.some.inj hv', h1⟩
  | mo _ _ _ sz' xs' dp fz _ ve' _ hk' hlt => rw [hk] at hk'; cases hk'; omega
  | md _ _ _ _ _ hk' => rw [hk] at hk'; cases hk'
 obtain ⟨rfl, hone⟩ := hv1
 have hnd : ((G k).blk :: (G k).sub).Nodup := by
  have := h.nodup k
  rw [hk] at this
  simpa [ownOf, hcap] using this
 rw [hsub] at hnd
 obtain ⟨gi, hgi1, hgi2, hgi3, hgi4⟩ : ∃ gi : GI, (∀ Av, RowR w Av gi z ys true false) ∧ (∃ a, v1 = .slice a ys.length gi.cap ∧ (0 < gi.cap → a = some ⟨gi.blk, gi.off, none⟩)) ∧ (∀ b ∈ ownOf gi (some (.row z ys true false 0)), b ∈ Sm) ∧ (ownOf gi (some (.row z ys true false 0))).Nodup := by
  have hnm : Sm.Nodup := (List.nodup_append.1 (List.nodup_append.1 (List.nodup_cons.1 hnd).2).2.1).1
  cases htr with
  | z a c _ hc =>
   obtain rfl := hc rfl
   exact ⟨{ blk := 0, off := 0, cap := 0, vs := [], sub := [] }, fun Av => RowR.mkVoid w Av 0 0 z true false, ⟨a, rfl, fun h => absurd h (Nat.lt_irrefl 0)⟩, fun b hb => by simp [ownOf] at hb, by simp [ownOf]⟩
  | l g o' c _ cur e fr vs _ S hg hc hm hl hv' h1 hx ho' hs =>
   have hfr := ho' rfl
   obtain ⟨n1, n2⟩ := List.nodup_cons.1 hnm
   refine ⟨{ blk := g, off := o', cap := c, vs := vs, sub := S }, fun Av => ⟨fun _ => ⟨cur, e, by rw [hg, hfr.1], hfr.2, hv'⟩, hc, hm, hl, h1, hx, hs, fun _ => n2, (fun h => by rcases h with h | h <;> cases h), (fun h => by cases h)⟩, ⟨_, rfl, fun _ => rfl⟩, fun b hb => ?_, ?_⟩
   ·simp only [ownOf] at hb
    split at hb
    ·cases hb
    ·simpa using hb
   ·simp only [ownOf]
    split
    ·exact List.nodup_nil
    ·simpa using hnm
 have hgk : ∀ Av : Nat → Prop, RowR w Av { G k with sub := S1 ++ S2 } sz (setCell xs i o .u) true false := fun Av => by
  have hsl : ∃ a len cap, v1 = .slice a len cap := by
   obtain ⟨a, e, _⟩ := hgi2
   exact ⟨_, _, _, e⟩
  obtain ⟨a1, l1, cp1, hvs⟩ := hsl
  refine ⟨c1, by rw [setCell_len]; exact c2, c3, by rw [setCell_len]; exact c4, c5, setCell_uni c6 hi o .u, ?_, fun _ => ?_, (fun h => by rcases h with h | h <;> cases h), (fun h => by cases h)⟩
  ·rw [setCell_flat c6 .u hi ho]
   exact hrep (w' := w) (d' := .u) (Si := []) (by rw [hvs]; exact .u a1 l1 cp1) fun b hb => rfl
  ·have h1 := (List.nodup_cons.1 hnd).2
   have h2 := List.nodup_append.1 h1
   have h3 := List.nodup_append.1 h2.2.1
   exact List.nodup_append.2 ⟨h2.1, h3.2.1, fun x hx y hy => h2.2.2 x hx y (List.mem_append_right _ hy)⟩
 let G' : Nat → GI := upd (upd G k { G k with sub := S1 ++ S2 }) k' gi
 let H' : Nat → Option Ob := upd (upd s.heap k (some (.row sz (setCell xs i o .u) true false (ve + 1)))) k' (some (.row z ys true false 0))
 have g1 : G' k' = gi := upd_same ..
 have g2 : G' k = { G k with sub := S1 ++ S2 } := by show upd _ k' gi k = _; rw [upd_ne _ _ hkk.symm, upd_same]
 have g3 : ∀ j, j ≠ k' → j ≠ k → G' j = G j := fun j h1 h2 => by show upd _ k' gi j = _; rw [upd_ne _ _ h1, upd_ne _ _ h2]
 have e1 : H' k' = some (.row z ys true false 0) := upd_same ..
 have e2 : H' k = some (.row sz (setCell xs i o .u) true false (ve + 1)) := by show upd _ k' _ k = _; rw [upd_ne _ _ hkk.symm, upd_same]
 have e3 : ∀ j, j ≠ k' → j ≠ k → H' j = s.heap j := fun j h1 h2 => by show upd _ k' _ j = _; rw [upd_ne _ _ h1, upd_ne _ _ h2]
 have ownk : ∀ b, b ∈ ownOf (G k) (s.heap k) ↔ b = (G k).blk ∨ b ∈ S1 ∨ b ∈ Sm ∨ b ∈ S2 := fun b => by rw [hk]; simp [ownOf, hcap, hsub]
 have ownk1 : ∀ b, b ∈ ownOf (G' k) (H' k) ↔ b = (G k).blk ∨ b ∈ S1 ∨ b ∈ S2 := fun b => by rw [g2, e2]; simp [ownOf, hcap]
 have own2 : ∀ j, j = k ∨ j = k' → ∀ b ∈ ownOf (G' j) (H' j), b ∈ ownOf (G k) (s.heap k) := by
  rintro j (rfl | rfl) b hb
  ·rw [ownk]
   rcases (ownk1 b).1 hb with h1 | h1 | h1
   ·exact .inl h1
   ·exact .inr (.inl h1)
   ·exact .inr (.inr (.inr h1))
  ·rw [g1, e1] at hb
   rw [ownk]
   exact .inr (.inr (.inl (hgi3 b hb)))
 have hT : ∀ j ob, (j = k ∨ j = k') → s.heap j = some ob → ∃ ob', H' j = some ob' ∧ Ob.to (G j) (G' j) ob ob' := by
  rintro j ob (rfl | rfl) hob
  ·rw [hk] at hob; cases hob
   refine ⟨_, e2, ?_⟩
   rw [g2]
   exact .row _ _ _ _ _ _ _ _ _ (setCell_len ..) rfl rfl rfl (.inl (Nat.lt_succ_self _))
  ·rw [hn] at hob; cases hob
 have hother : ∀ j, ¬ (j = k ∨ j = k') → H' j = s.heap j ∧ G' j = G j := fun j hj => ⟨e3 j (fun e => hj (.inr e)) (fun e => hj (.inl e)), g3 j (fun e => hj (.inr e)) (fun e => hj (.inl e))⟩
 have hrel : RelG B G' { s with heap := H' } a w := by
  refine h.step (w' := w) (G' := G') H' (fun j => j = k ∨ j = k') (.refl w) (fun _ _ _ => rfl) hother hT (fun j hj b hb => .inl ⟨k, .inl rfl, own2 j hj b hb⟩) ?_ ?_ ?_
  ·rintro j (rfl | rfl)
   ·have := (hgk (fun _ => False)).nodup rfl
    rw [g2, e2]
    simp only [ownOf, hcap, if_false, if_true]
    refine List.nodup_cons.2 ⟨fun hb => (List.nodup_cons.1 hnd).1 ?_, this⟩
    rcases List.mem_append.1 hb with hb | hb
    ·simp [hb]
    ·simp [hb]
   ·rw [g1, e1]; exact hgi4
  ·have hdj : ∀ b, b ∈ ownOf (G' k) (H' k) → b ∉ ownOf (G' k') (H' k') := fun b hb hb' => by
    rw [g1, e1] at hb'
    have hb' := hgi3 b hb'
    have n0 := List.nodup_cons.1 hnd
    have n1 := List.nodup_append.1 n0.2
    have n2 := List.nodup_append.1 n1.2.1
    rcases (ownk1 b).1 hb with h1 | h1 | h1
    ·subst h1; exact n0.1 (by simp [hb'])
    ·exact n1.2.2 b h1 b (by simp [hb']) rfl
    ·exact n2.2.2 b hb' b h1 rfl
   rintro j j' (rfl | rfl) (rfl | rfl) b hb hb'
   ·rfl
   ·exact absurd hb' (hdj b hb)
   ·exact absurd hb (hdj b hb')
   ·rfl
  ·rintro j ob (rfl | rfl) hob
   ·rw [e2] at hob; cases hob; rw [g2]; exact hgk _
   ·rw [e1] at hob; cases hob; rw [g1]; exact hgi1 _
 have mono : ∀ {u : Value} {av : AV}, AVR w G s.heap (Ban B.F G s.heap) u av → AVR w G' H' (Ban B.F G' H') u av := by
  refine (AVR.mono_both (w := w) (w' := w) (fun _ _ _ => rfl) ?_ ?_).1
  ·rintro b _ (⟨j, hj⟩ | hf)
   ·by_cases hjk : j = k ∨ j = k'
    ·exact .inl ⟨k, own2 j hjk b hj⟩
    ·obtain ⟨q1, q2⟩ := hother j hjk
     rw [q1, q2] at hj
     exact .inl ⟨j, hj⟩
   ·exact .inr hf
  ·intro j ob hob
   by_cases hjk : j = k ∨ j = k'
   ·exact hT j ob hjk hob
   ·obtain ⟨q1, q2⟩ := hother j hjk
    exact ⟨ob, q1.trans hob, q2 ▸ Ob.to.refl _ _⟩
 refine ⟨G', hrel, ?_, mono⟩
 obtain ⟨a2, q1, q2⟩ := hgi2
 rw [q1]
 have := AVR.r (w := w) (G := G') (H := H') (Av := Ban B.F G' H') k' z ys true false 0 a2 e1 (by rw [g1]; exact q2)
 rw [g1] at this
 exact this
end rel
end Go.Fs
namespace Go.Fs
open Go.RowKit
def Tab.kd (T : Tab) (t : TypeId) : Option TK := (T.ti t).map (·.kind)
def fixZ (T : Tab) (ty : TypeId) : AV → AV
 | .z n => match T.kd ty with
  | some (.slice e) => .z (((T.ti e).map (·.size)).getD n)
  | _ => .z n
 | av => av
def dem1 {α : Type} (H : Nat → Option Ob) (x : AV) (f : AV → (Nat → Option Ob) → Option α) : Option α := (demote H x).bind fun y => f y.1 y.2
def demAll (H : Nat → Option Ob) : List AV → Option (List AV × (Nat → Option Ob))
 | [] => some ([], H)
 | av :: avs => (demote H av).bind fun x => (demAll x.2 avs).bind fun y => some (x.1 :: y.1, y.2)
def St.ev2 (s : St) : Operand → AV
 | .const .nilIface => .nl
 | y => s.ev y
theorem St.ev2_congr {s s' : St} {y : Operand} (h : s.ev y = s'.ev y) : s.ev2 y = s'.ev2 y := by
 unfold St.ev2
 split
 ·rfl
 ·exact h
def opNilC (H : Nat → Option Ob) : AV → Option AV
 | .a k o => match H k with
  | some (.box _) => some (.a k o)
  | _ => none
 | .e k i o => match H k with
  | some (.row ..) => some (.e k i o)
  | _ => none
 | .q cs o => some (.q cs o)
 | .d (.p cs) => some (.d (.p cs))
 | _ => none
def eqNil (k : Option TK) (op : BinOp) (p : Bool) : Option AV := match k, op with
 | some .iface, .eql => some (.d (.b (!p)))
 | some .iface, .neq => some (.d (.b p))
 | _, _ => none
theorem eqNil_e (p : Bool) : eqNil (some .iface) .eql p = some (.d (.b (!p))) := rfl
theorem eqNil_n (p : Bool) : eqNil (some .iface) .neq p = some (.d (.b p)) := rfl
def opBin (T : Tab) (op : BinOp) (ty : TypeId) (x y : AV) : Option AV :=
 match x, y with
 | .d (.b p), .d b => match T.kd ty with
  | some .bool => (binD op (.b p) b).map .d
  | _ => none
 | .d (.i k p), .d b => (binD op (.i k p) b).map .d
 | .d (.s p), .d b => (binD op (.s p) b).map .d
 | .d (.e p), .nl => eqNil (T.kd ty) op p
 | _, _ => none
def opUn (op : UnOp) (x : AV) : Option AV :=
 match op, x with
 | .not, .d (.b p) => some (.d (.b !p))
 | .neg, .d (.i k n) => some (.d (.i k (k.wrap (0 - n))))
 | _, _ => none
def opConv (T : Tab) (src dst : TypeId) (x : AV) : Option AV :=
 match T.kd src, T.kd dst, x with
 | some (.int _), some (.int k), .d (.i _ n) => some (.d (.i k (k.wrap n)))
 | some .str, some .str, .d (.s p) => some (.d (.s p))
 | _, _, _ => none
def opExtract (x : AV) (i : Nat) : Option AV :=
 match x with
 | .t vs => vs[i]?
 | _ => none
def opMax : AV → AV → Option AV
 | .d (.i k a), .d (.i _ b) => some (.d (.i k (max a b)))
 | _, _ => none
def opMin : AV → AV → Option AV
 | .d (.i k a), .d (.i _ b) => some (.d (.i k (min a b)))
 | _, _ => none
theorem run_max_i {P : Program} (w : World) (ts : Array TypeId) (t : TypeId) (k k' : IntKind) (x y : Int) :
 (Builtin.max_ ts t #[.int k x, .int k' y]).run P w = .ok (.int k (max x y)) w := by
 have e : (if y > x then y else x) = max x y := by
  rw [Int.max_def]
  split <;> split <;> omega
 simp [Builtin.max_, Builtin.max2, e]
theorem run_min_i {P : Program} (w : World) (ts : Array TypeId) (t : TypeId) (k k' : IntKind) (x y : Int) :
 (Builtin.min_ ts t #[.int k x, .int k' y]).run P w = .ok (.int k (min x y)) w := by
 have e : (if y < x then y else x) = min x y := by
  rw [Int.min_def]
  split <;> split <;> omega
 simp [Builtin.min_, Builtin.min2, e]
def appC (T : Tab) (dst : Nat) (ty : TypeId) (y : AV) (x : AV × (Nat → Option Ob)) : Option (AV × (Nat → Option Ob)) := dem1 x.2 y fun y' H => opAppend T H dst ty (fixZ T ty x.1) (fixZ T ty y')
def callB (T : Tab) (s : St) (dst : Nat) (c : Call) : Option (AV × (Nat → Option Ob)) :=
 match c.callee with
 | .builtin .len => match c.args.toList, c.argTypes.toList with
  | [x], [ty] => (opLen T s.heap ty (s.ev x)).map (·, s.heap)
  | _, _ => none
 | .builtin .append => match c.args.toList, c.argTypes.toList with
  | [x, y], [ty, ty'] => if ty = ty' then (takeM s.heap (650000 + dst) (s.ev x)).bind (appC T dst ty (s.ev y)) else none
  | _, _ => none
 | .builtin .max => match c.args.toList with
  | [x, y] => (opMax (s.ev x) (s.ev y)).map (·, s.heap)
  | _ => none
 | .builtin .min => match c.args.toList with
  | [x, y] => (opMin (s.ev x) (s.ev y)).map (·, s.heap)
  | _ => none
 | _ => none
def valOp (T : Tab) (s : St) (o : Oper) : Option (AV × (Nat → Option Ob)) :=
 match o.op with
 | .move x => some (fixZ T o.type (s.ev x), s.heap)
 | .assign x => some (fixZ T o.type (s.ev x), s.heap)
 | .load ty x => (opLoad T s.heap ty (s.ev x)).map (·, s.heap)
 | .fieldAddr ty x f => (opField T s.heap ty (s.ev x) f).map (·, s.heap)
 | .indexAddr ty x i => dem1 s.heap (s.ev x) fun x' H' => (opIndex T H' ty x' (s.ev i)).map (·, H')
 | .index ty x i => (opByte T ty (s.ev x) (s.ev i)).map (·, s.heap)
 | .binOp op ty x y _ => (opBin T op ty (s.ev x) (s.ev2 y)).map (·, s.heap)
 | .nilCheck x => (opNilC s.heap (s.ev x)).map (·, s.heap)
 | .unOp op _ x => (opUn op (s.ev x)).map (·, s.heap)
 | .convert src dst x => (opConv T src dst (s.ev x)).map (·, s.heap)
 | .extract x i => (opExtract (s.ev x) i).map (·, s.heap)
 | .makeFunc (.func f) first captured => if first.size = 0 then (demAll s.heap (captured.toList.map s.ev)).map fun y => (.f f y.1, y.2) else none
 | .alloc ty => opAlloc T s.heap (o.dst.getD 0) ty
 | .box _ x => dem1 s.heap (s.ev x) fun x' H' => opBox H' (o.dst.getD 0) x'
 | .build ty parts => (demAll s.heap (parts.toList.map fun p => s.ev p.2)).bind fun y => (opBuild T y.2 ty ((parts.toList.map (·.1)).zip y.1)).map (·, y.2)
 | .buildSlice ty len parts => (demAll s.heap (parts.toList.map fun p => s.ev p.2)).bind fun y => opBuildSlice T y.2 (o.dst.getD 0) ty len ((parts.toList.map (·.1)).zip y.1)
 | .makeSlice ty l c => opMake T s.heap (o.dst.getD 0) ty (s.ev l) (s.ev c)
 | .slice ty x lo hi none => dem1 s.heap (s.ev x) fun x' H' => opSlice T H' (o.dst.getD 0) ty x' (lo.map s.ev) (hi.map s.ev)
 | .call c => callB T s (o.dst.getD 0) c
 | _ => none
section rel
variable {P : Program} {T : Tab} {B : Ctx} {G : Nat → GI} {s : St} {a : Act} {w : World}
theorem fixZ_ok {H : Nat → Option Ob} {Av : Nat → Prop} {v : Value} {av : AV} (ty : TypeId) (h : AVR w G H Av v av) : AVR w G H Av v (fixZ T ty av) := by
 unfold fixZ
 split
 ·cases h
  split <;> exact .z _
 ·exact h
theorem opBin_ok (hT : T.ok P = true) {H : Nat → Option Ob} {Av : Nat → Prop} {op : BinOp} {ty : TypeId} {ox oy : Operand} {x y : AV} {xv yv : Value} (hx : AVR w G H Av xv x) (hy : AVR w G H Av yv y ∨ (y = .nl ∧ oy = .const .nilIface ∧ yv = .nilIface)) {av : AV} (hm : opBin T op ty x y = some av) :
 ∃ v, (do eqGuard op ty ox oy xv yv; binOp op ty xv yv : Sem Value).run P w = .ok v w ∧ AVR w G H Av v av := by
 have key : ∀ {a b : D} {d : D}, AVR w G H Av xv (.d a) → AVR w G H Av yv (.d b) → binD op a b = some d → ((∃ p, a = .b p) → P.underlying ty = some .bool) →
  ∃ v, (do eqGuard op ty ox oy xv yv; binOp op ty xv yv : Sem Value).run P w = .ok v w ∧ AVR w G H Av v (.d d) := by
  intro a b d hx hy hd hb
  cases hx with
  | d _ _ S _ hx _ =>
   cases hy with
   | d _ _ S' _ hy _ =>
    obtain ⟨r, h1, h2, h3⟩ := binD_ok (w := w) (x := ox) (y := oy) hx hy hd hb
    exact ⟨r, h1, .sc (scal_tr h3 h2).2.2 h3⟩
 unfold opBin at hm
 split at hm
 ·split at hm
  case h_2 => cases hm
  rename_i p b hk
  simp only [Option.map_eq_some_iff, Tab.kd] at hm hk
  obtain ⟨d, hd, rfl⟩ := hm
  obtain ⟨ti, hti, hk⟩ := hk
  exact key hx (hy.resolve_right fun e => by cases e.1) hd fun _ => (tiok hT hti).bool hk
 ·simp only [Option.map_eq_some_iff] at hm
  obtain ⟨d, hd, rfl⟩ := hm
  exact key hx (hy.resolve_right fun e => by cases e.1) hd fun ⟨p, hp⟩ => by cases hp
 ·simp only [Option.map_eq_some_iff] at hm
  obtain ⟨d, hd, rfl⟩ := hm
  exact key hx (hy.resolve_right fun e => by cases e.1) hd fun ⟨p, hp⟩ => by cases hp
 ·rename_i p
  obtain ⟨_, rfl, rfl⟩ := hy.resolve_left fun e => by cases e
  have hiff : ∀ {k : TK}, T.kd ty = some k → k = .iface → P.underlying ty = some (.interface (P.methodsAt ty)) := fun {k} hk e => by
   simp only [Option.map_eq_some_iff, Tab.kd] at hk
   obtain ⟨ti, hti, rfl⟩ := hk
   obtain ⟨ms, hu⟩ := (tiok hT hti).iface e
   rw [hu]
   simp [Program.methodsAt, hu]
  have hg : ∀ v, (∃ S, Tr w false v (.e p) S) → (eqGuard op ty ox (.const .nilIface) v .nilIface).run P w = .ok () w := by
   rintro v ⟨S, ht⟩
   cases ht <;> cases op <;> simp [eqGuard]
  have hv : ∃ S, Tr w false xv (.e p) S := by
   cases hx with
   | d _ _ S _ hx _ => exact ⟨S, hx⟩
  obtain ⟨S, ht⟩ := hv
  rw [Sem.run_bind, hg xv ⟨S, ht⟩, Result.andThen_ok]
  unfold eqNil at hm
  split at hm
  ·rename_i hk
   simp only [Option.some.injEq] at hm
   subst hm
   have hu := hiff hk rfl
   cases ht with
   | ni => exact ⟨.bool true, by simp [binOp, run_equal_nil_nil w ty hu], .sc rfl (.b _)⟩
   | ei te pv => exact ⟨.bool false, by simp [binOp, run_equal_held_nil w ty te pv hu], .sc rfl (.b _)⟩
  ·rename_i hk
   simp only [Option.some.injEq] at hm
   subst hm
   have hu := hiff hk rfl
   cases ht with
   | ni => exact ⟨.bool false, by simp [binOp, run_equal_nil_nil w ty hu], .sc rfl (.b _)⟩
   | ei te pv => exact ⟨.bool true, by simp [binOp, run_equal_held_nil w ty te pv hu], .sc rfl (.b _)⟩
  ·cases hm
 ·cases hm
theorem ev2_ok {H : Nat → Option Ob} {Av : Nat → Prop} {s : St} {a : Act} (h : ∀ x, AVR w G H Av (a.eval x) (s.ev x)) (y : Operand) : AVR w G H Av (a.eval y) (s.ev2 y) ∨ (s.ev2 y = .nl ∧ y = .const .nilIface ∧ a.eval y = .nilIface) := by
 unfold St.ev2
 split
 ·exact .inr ⟨rfl, rfl, rfl⟩
 ·exact .inl (h _)
theorem opNilC_ok {H : Nat → Option Ob} {Av : Nat → Prop} {x : AV} {xv : Value} (hx : AVR w G H Av xv x) {av : AV} (hm : opNilC H x = some av) : av = x ∧ ∃ ad, xv = .pointer (some ad) := by
 unfold opNilC at hm
 split at hm
 ·split at hm
  case h_2 => cases hm
  rename_i k o cs hk
  cases hm
  cases hx with
  | a => exact ⟨rfl, _, rfl⟩
  | ad _ _ _ hk' => rw [hk] at hk'; cases hk'
 ·split at hm
  case h_2 => cases hm
  rename_i k i o sz xs dp fz ve hk
  cases hm
  cases hx with
  | e => exact ⟨rfl, _, rfl⟩
  | ed _ _ _ _ hk' => rw [hk] at hk'; cases hk'
 ·cases hm
  cases hx with
  | q => exact ⟨rfl, _, rfl⟩
 ·cases hm
  cases hx with
  | d _ _ S _ ht _ =>
   cases ht with
   | p => exact ⟨rfl, _, rfl⟩
 ·cases hm
theorem opUn_ok {H : Nat → Option Ob} {Av : Nat → Prop} {op : UnOp} {x : AV} {xv : Value} (hx : AVR w G H Av xv x) {av : AV} (hm : opUn op x = some av) : ∃ v, (Op.unary op xv).run P w = .ok v w ∧ AVR w G H Av v av := by
 unfold opUn at hm
 split at hm
 ·obtain rfl := hx.inv_bool
  simp only [Option.some.injEq] at hm
  subst hm
  exact ⟨.bool !_, by simp [Op.unary], .sc rfl (.b _)⟩
 ·obtain rfl := hx.inv_int
  simp only [Option.some.injEq] at hm
  subst hm
  exact ⟨.int _ _, by simp [Op.unary, Op.intArith], .int _ _⟩
 ·cases hm
theorem opConv_ok (hT : T.ok P = true) {H : Nat → Option Ob} {Av : Nat → Prop} {src dst : TypeId} {x : AV} {xv : Value} (hx : AVR w G H Av xv x) {av : AV} (hm : opConv T src dst x = some av) : ∃ v, (convert src dst xv).run P w = .ok v w ∧ AVR w G H Av v av := by
 unfold opConv at hm
 split at hm
 ·rename_i h1 h2
  simp only [Option.map_eq_some_iff, Tab.kd] at h1 h2
  obtain ⟨t1, e1, k1⟩ := h1
  obtain ⟨t2, e2, k2⟩ := h2
  obtain rfl := hx.inv_int
  simp only [Option.some.injEq] at hm
  subst hm
  refine ⟨_, ?_, .int _ _⟩
  simp only [convert, Sem.run_bind, run_underlying ((tiok hT e1).int k1), run_underlying ((tiok hT e2).int k2), Result.andThen_ok, Conv.intToInt]
  rfl
 ·rename_i h1 h2
  simp only [Option.map_eq_some_iff, Tab.kd] at h1 h2
  obtain ⟨t1, e1, k1⟩ := h1
  obtain ⟨t2, e2, k2⟩ := h2
  obtain rfl := hx.inv_str
  simp only [Option.some.injEq] at hm
  subst hm
  refine ⟨_, ?_, .sc rfl (.s _)⟩
  simp only [convert, Sem.run_bind, run_underlying ((tiok hT e1).str k1), run_underlying ((tiok hT e2).str k2), Result.andThen_ok]
  rfl
 ·cases hm
theorem opExtract_ok {H : Nat → Option Ob} {Av : Nat → Prop} {x : AV} {xv : Value} {i : Nat} (hx : AVR w G H Av xv x) {av : AV} (hm : opExtract x i = some av) : ∃ v, (Instr.extract xv i).run P w = .ok v w ∧ AVR w G H Av v av := by
 cases x with
 | t vs =>
  cases hx with
  | t us _ h =>
   have hm : vs[i]? = some av := hm
   have hi : i < vs.length := by
    rcases Nat.lt_or_ge i vs.length with h | h
    ·exact h
    ·rw [List.getElem?_eq_none h] at hm; cases hm
   have hl := h.length
   have hu : us.toList[i]? = some (us.toList[i]'(by omega)) := List.getElem?_eq_getElem _
   have := h.get hu hm
   refine ⟨_, ?_, this⟩
   have hus : us[i]? = some (us.toList[i]'(by omega)) := by rw [← Array.getElem?_toList]; exact hu
   simp [Instr.extract, hus]
 | _ => cases hm
theorem demAll_ok : ∀ {s : St} (h : RelG B G s a w) {vs : List Value} {as as' : List AV} {H' : Nat → Option Ob} (hv : AVRL w G s.heap (Ban B.F G s.heap) vs as) (hm : demAll s.heap as = some (as', H')),
 Eased B G s a w H' ∧ AVRL w G H' (Ban B.F G H') vs as' ∧ as'.length = as.length
 | s, h, _, _, as', H', .nil, hm => by
  simp only [demAll, Option.some.injEq, Prod.mk.injEq] at hm
  obtain ⟨rfl, rfl⟩ := hm
  exact ⟨.refl h, .nil, rfl⟩
 | s, h, _, _, as', H', .cons v av vs as hv hvs, hm => by
  simp only [demAll, Option.bind_eq_some_iff, Option.some.injEq, Prod.mk.injEq] at hm
  obtain ⟨⟨a1, H1⟩, m1, ⟨as2, H2⟩, m2, rfl, rfl⟩ := hm
  obtain ⟨e1, v1⟩ := demote_ok h hv m1
  obtain ⟨e2, v2, l2⟩ := demAll_ok e1.rel (e1.avrl hvs) m2
  exact ⟨e1.trans e2, .cons _ _ _ _ (e2.avr v1) v2, by simp [l2]⟩
theorem RelG.evs2 (h : RelG B G s a w) : ∀ (ps : List (Nat × Operand)), AVRL w G s.heap (Ban B.F G s.heap) (ps.map fun p => a.eval p.2) (ps.map fun p => s.ev p.2)
 | [] => .nil
 | p :: ps => .cons _ _ _ _ (h.ev p.2) (h.evs2 ps)
theorem RelG.evs (h : RelG B G s a w) : ∀ (xs : List Operand), AVRL w G s.heap (Ban B.F G s.heap) (xs.map a.eval) (xs.map s.ev)
 | [] => .nil
 | x :: xs => .cons _ _ _ _ (h.ev x) (h.evs xs)
theorem valOp_ok (hT : T.ok P = true) (h : RelG B G s a w) {o : Oper} {av : AV} {H' : Nat → Option Ob} (hm : valOp T s o = some (av, H')) :
 ∃ v w' G', (execOp a.eval o).run P w = .ok (.value v) w' ∧ RelG B G' { s with heap := H' } a w' ∧ AVR w' G' H' (Ban B.F G' H') v av := by
 have same : ∀ {c : Sem Value} {av' : AV}, execOp a.eval o = (do pure (.value (← c))) → (∃ v, c.run P w = .ok v w ∧ AVR w G s.heap (Ban B.F G s.heap) v av') → (av', s.heap) = (av, H') →
  ∃ v w' G', (execOp a.eval o).run P w = .ok (.value v) w' ∧ RelG B G' { s with heap := H' } a w' ∧ AVR w' G' H' (Ban B.F G' H') v av := by
  rintro c av' he ⟨v, hr, hv⟩ hm
  simp only [Prod.mk.injEq] at hm
  obtain ⟨rfl, rfl⟩ := hm
  exact ⟨v, w, G, by rw [he, Sem.run_bind, hr, Result.andThen_ok]; rfl, h, hv⟩
 have other : ∀ {c : Sem Value}, execOp a.eval o = (do pure (.value (← c))) → (∃ v w' G', c.run P w = .ok v w' ∧ RelG B G' { s with heap := H' } a w' ∧ AVR w' G' H' (Ban B.F G' H') v av) →
  ∃ v w' G', (execOp a.eval o).run P w = .ok (.value v) w' ∧ RelG B G' { s with heap := H' } a w' ∧ AVR w' G' H' (Ban B.F G' H') v av := by
  rintro c he ⟨v, w', G', hr, h1, h2⟩
  exact ⟨v, w', G', by rw [he, Sem.run_bind, hr, Result.andThen_ok]; rfl, h1, h2⟩
 obtain ⟨dst, op, type, pos, after, guard⟩ := o
 unfold valOp at hm
 cases op <;> simp only at hm <;> try (cases hm; done)
 case move x =>
  simp only [Option.some.injEq] at hm
  exact same (c := pure (a.eval x)) (by simp [execOp]) ⟨_, rfl, fixZ_ok type (h.ev x)⟩ hm
 case assign x =>
  simp only [Option.some.injEq] at hm
  exact same (c := pure (a.eval x)) (by simp [execOp]) ⟨_, rfl, fixZ_ok type (h.ev x)⟩ hm
 case load ty x =>
  simp only [Option.map_eq_some_iff] at hm
  obtain ⟨av', hm, he⟩ := hm
  exact same (by simp [execOp]) (opLoad_ok hT h (h.ev x) hm) he
 case fieldAddr ty x f =>
  simp only [Option.map_eq_some_iff] at hm
  obtain ⟨av', hm, he⟩ := hm
  exact same (by simp [execOp]) (opField_ok hT (h.ev x) hm) he
 case indexAddr ty x i =>
  simp only [dem1, Option.bind_eq_some_iff, Option.map_eq_some_iff] at hm
  obtain ⟨⟨x', H1⟩, m1, av', m2, he⟩ := hm
  simp only [Prod.mk.injEq] at he
  obtain ⟨rfl, rfl⟩ := he
  obtain ⟨e1, v1⟩ := demote_ok h (h.ev x) m1
  obtain ⟨v, hr, hv⟩ := opIndex_ok (s := { s with heap := H1 }) hT e1.rel v1 (e1.avr (h.ev i)) m2
  exact other (by simp [execOp]) ⟨v, w, G, hr, e1.rel, hv⟩
 case index ty x i =>
  simp only [Option.map_eq_some_iff] at hm
  obtain ⟨av', hm, he⟩ := hm
  exact same (by simp [execOp]) (opByte_ok hT (h.ev x) (h.ev i) hm) he
 case binOp op ty x y yt =>
  simp only [Option.map_eq_some_iff] at hm
  obtain ⟨av', hm, he⟩ := hm
  exact same (by simp only [execOp]) (opBin_ok hT (ox := x) (oy := y) (h.ev x) (ev2_ok h.ev y) hm) he
 case nilCheck x =>
  simp only [Option.map_eq_some_iff] at hm
  obtain ⟨av', hm, he⟩ := hm
  obtain ⟨rfl, ad, e⟩ := opNilC_ok (h.ev x) hm
  simp only [Prod.mk.injEq] at he
  obtain ⟨rfl, rfl⟩ := he
  exact ⟨.pointer (some ad), w, G, by simp only [execOp, e]; rfl, h, by rw [← e]; exact h.ev x⟩
 case unOp op ty x =>
  simp only [Option.map_eq_some_iff] at hm
  obtain ⟨av', hm, he⟩ := hm
  exact same (by simp [execOp]) (opUn_ok (h.ev x) hm) he
 case convert src dst x =>
  simp only [Option.map_eq_some_iff] at hm
  obtain ⟨av', hm, he⟩ := hm
  exact same (by simp [execOp]) (opConv_ok hT (h.ev x) hm) he
 case extract x i =>
  simp only [Option.map_eq_some_iff] at hm
  obtain ⟨av', hm, he⟩ := hm
  exact same (by simp [execOp]) (opExtract_ok (h.ev x) hm) he
 case makeFunc fn first captured =>
  cases fn with
  | func f =>
   simp only at hm
   split at hm
   case isFalse => cases hm
   rename_i hf
   simp only [Option.map_eq_some_iff, Prod.mk.injEq] at hm
   obtain ⟨⟨as', H1⟩, m1, rfl, rfl⟩ := hm
   obtain ⟨e1, v1, _⟩ := demAll_ok h (h.evs captured.toList) m1
   refine other (c := Instr.makeFunc (.func f) (first.map a.eval) (captured.map a.eval)) (by simp only [execOp]) ⟨.func (.func f) #[] (captured.map a.eval), w, G, ?_, e1.rel, .f f _ _ (by simpa using v1)⟩
   have : first = #[] := by simpa using hf
   simp [Instr.makeFunc, this]
  | _ => cases hm
 case alloc ty =>
  exact other (c := Instr.alloc ty true (.tuple #[])) (by simp only [execOp]) (opAlloc_ok hT h hm)
 case box ty x =>
  simp only [dem1, Option.bind_eq_some_iff] at hm
  obtain ⟨⟨x', H1⟩, m1, hm⟩ := hm
  obtain ⟨e1, v1⟩ := demote_ok h (h.ev x) m1
  exact other (c := Instr.box ty (a.eval x)) (by simp only [execOp]) (opBox_ok (s := { s with heap := H1 }) e1.rel v1 hm)
 case build ty parts =>
  simp only [Option.bind_eq_some_iff, Option.map_eq_some_iff, Prod.mk.injEq] at hm
  obtain ⟨⟨as', H1⟩, m1, av', m2, rfl, rfl⟩ := hm
  obtain ⟨e1, v1, l1⟩ := demAll_ok h (h.evs2 parts.toList) m1
  have hl : as'.length = (parts.toList.map (·.1)).length := by rw [l1, List.length_map, List.length_map]
  obtain ⟨v, hr, hv⟩ := opBuild_ok (s := { s with heap := H1 }) (vals := parts.toList.map fun p => (p.1, a.eval p.2)) hT e1.rel (by rw [List.map_fst_zip (Nat.le_of_eq hl.symm), List.map_map]; rfl) (by rw [List.map_snd_zip (Nat.le_of_eq hl), List.map_map]; exact v1) m2
  refine other (c := Instr.build ty (parts.map fun (i, x) => (i, a.eval x))) (by simp only [execOp]) ⟨v, w, G, ?_, e1.rel, hv⟩
  rw [← hr]
  congr 2
  apply Array.ext'
  simp
 case buildSlice ty len parts =>
  simp only [Option.bind_eq_some_iff] at hm
  obtain ⟨⟨as', H1⟩, m1, hm⟩ := hm
  obtain ⟨e1, v1, l1⟩ := demAll_ok h (h.evs2 parts.toList) m1
  have hl : as'.length = (parts.toList.map (·.1)).length := by rw [l1, List.length_map, List.length_map]
  obtain ⟨v, w', G', hr, h1, h2⟩ := opBuildSlice_ok (s := { s with heap := H1 }) (vals := parts.toList.map fun p => (p.1, a.eval p.2)) hT e1.rel (by rw [List.map_fst_zip (Nat.le_of_eq hl.symm), List.map_map]; rfl) (by rw [List.map_snd_zip (Nat.le_of_eq hl), List.map_map]; exact v1) hm
  refine other (c := Instr.buildSlice ty len (parts.map fun (i, x) => (i, a.eval x))) (by simp only [execOp]) ⟨v, w', G', ?_, h1, h2⟩
  rw [← hr]
  congr 2
  apply Array.ext'
  simp
 case makeSlice ty l c =>
  exact other (c := Instr.makeSlice ty (a.eval l) (a.eval c)) (by simp only [execOp]) (opMake_ok hT h (h.ev l) (h.ev c) hm)
 case slice ty x lo hi mx =>
  cases mx with
  | some _ => cases hm
  | none =>
   simp only [dem1, Option.bind_eq_some_iff] at hm
   obtain ⟨⟨x', H1⟩, m1, hm⟩ := hm
   obtain ⟨e1, v1⟩ := demote_ok h (h.ev x) m1
   have hb : ∀ o : Option Operand, BndR w G H1 (Ban B.F G H1) (o.map a.eval) (o.map s.ev)
    | none => .none
    | some o => .some _ _ (e1.avr (h.ev o))
   obtain ⟨v, G', hr, h1, h2⟩ := opSlice_ok (s := { s with heap := H1 }) hT e1.rel v1 (hb lo) (hb hi) hm
   exact other (c := Instr.sliceAt ty (a.eval x) (lo.map a.eval) (hi.map a.eval) none) (by simp only [execOp, Option.map_none]) ⟨v, w, G', hr, h1, h2⟩
 case call c =>
  obtain ⟨callee, args, argTypes⟩ := c
  unfold callB at hm
  simp only at hm
  split at hm
  ·split at hm
   case h_2 => cases hm
   rename_i x ty ha ht
   obtain rfl : args = #[x] := Array.ext' (by simpa using ha)
   obtain rfl : argTypes = #[ty] := Array.ext' (by simpa using ht)
   simp only [Option.map_eq_some_iff] at hm
   obtain ⟨av', hm, he⟩ := hm
   exact same (by simp [execOp, resolve, invoke, builtin]) (opLen_ok (ty' := type) hT h (h.ev x) hm) he
  ·split at hm
   case h_2 => cases hm
   rename_i x y ty ty' ha ht
   obtain rfl : args = #[x, y] := Array.ext' (by simpa using ha)
   obtain rfl : argTypes = #[ty, ty'] := Array.ext' (by simpa using ht)
   split at hm
   case isFalse => cases hm
   rename_i e
   subst e
   simp only [appC, dem1, Option.bind_eq_some_iff] at hm
   obtain ⟨⟨x', H1⟩, m1, ⟨y', H2⟩, m2, hm⟩ := hm
   obtain ⟨G1, r1, v1, t1⟩ := takeM_ok h (h.ev x) m1
   obtain ⟨e2, v2⟩ := demote_ok (s := { s with heap := H1 }) r1 (t1 (h.ev y)) m2
   exact other (by simp [execOp, resolve, invoke, builtin]) (opAppend_ok (s := { s with heap := H2 }) (ty' := type) hT e2.rel (fixZ_ok ty (e2.avr v1)) (fixZ_ok ty v2) hm)
  ·split at hm
   case h_2 => cases hm
   rename_i x y ha
   obtain rfl : args = #[x, y] := Array.ext' (by simpa using ha)
   obtain ⟨av', hm, he⟩ := Option.map_eq_some_iff.1 hm
   unfold opMax at hm
   split at hm
   case h_2 => cases hm
   rename_i k1 n1 k2 n2 e1 e2
   cases hm
   have hx := h.ev x
   have hy := h.ev y
   rw [e1] at hx
   rw [e2] at hy
   refine same (c := Builtin.max_ argTypes type #[a.eval x, a.eval y]) (by simp [execOp, resolve, invoke, builtin]) ⟨.int k1 (max n1 n2), ?_, .sc rfl (.i _ _)⟩ he
   rw [hx.inv_int, hy.inv_int]
   exact run_max_i w _ _ _ _ _ _
  ·split at hm
   case h_2 => cases hm
   rename_i x y ha
   obtain rfl : args = #[x, y] := Array.ext' (by simpa using ha)
   obtain ⟨av', hm, he⟩ := Option.map_eq_some_iff.1 hm
   unfold opMin at hm
   split at hm
   case h_2 => cases hm
   rename_i k1 n1 k2 n2 e1 e2
   cases hm
   have hx := h.ev x
   have hy := h.ev y
   rw [e1] at hx
   rw [e2] at hy
   refine same (c := Builtin.min_ argTypes type #[a.eval x, a.eval y]) (by simp [execOp, resolve, invoke, builtin]) ⟨.int k1 (min n1 n2), ?_, .sc rfl (.i _ _)⟩ he
   rw [hx.inv_int, hy.inv_int]
   exact run_min_i w _ _ _ _ _ _
  ·cases hm
end rel
end Go.Fs
