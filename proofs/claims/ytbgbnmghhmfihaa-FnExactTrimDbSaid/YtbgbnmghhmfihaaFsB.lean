/- A part of the proof: an evaluator of the program's code over plain data, proved sound, or a function's walk by it. No conditions beyond those in the theorems. -/
import Derived.Test.YtbgbnmghhmfihaaFsA
set_option linter.unusedVariables false
namespace Go.Fs
open Go.RowKit

/-- What a slot holds, as far as it is known. -/
inductive AV where
  | d (x : D)
  | z (sz : Nat)
  | r (k : Nat)
  | a (k o : Nat)
  | e (k i o : Nat)
  | m (k ve i o : Nat)
  | q (cs : List D) (o : Nat)
  | g (cs : List AV)
  | f (fn : FuncId) (caps : List AV)
  | t (vs : List AV)
  | mp (k : Nat)
  | x
  deriving Inhabited

/-- A value of one cell that comes to no block. -/
def scalV : D → Value
  | .b v => .bool v
  | .i k n => .int k n
  | .s v => .string v
  | _ => undef

def mapv : D → Bool
  | .b _ | .i _ _ | .s _ => true
  | _ => false

/-- What a call has made itself: a row that it may grow and write, a variable. -/
inductive Ob where
  | row (sz : Nat) (xs : List (List D)) (deep frozen : Bool) (ver : Nat)
  | box (cs : List AV)
  | map (kv : List (ByteArray × D))
  | dead

structure St where
  n : Nat
  env : Nat → AV
  heap : Nat → Option Ob

/-- Where an object lies. -/
structure GI where
  blk : Nat
  off : Nat
  cap : Nat
  vs : List Value
  sub : List Nat
  deriving Inhabited

mutual
inductive AVR (w : World) (G : Nat → GI) (H : Nat → Option Ob) (Av : Nat → Prop) : Value → AV → Prop
  | d (v : Value) (x : D) (S : List Nat) (h1 : v.oneCell' = true) (h : Tr w false v x S) (hS : ∀ b ∈ S, ¬ Av b) : AVR w G H Av v (.d x)
  | z (sz : Nat) : AVR w G H Av (.slice none 0 0) (.z sz)
  | r (k sz : Nat) (xs : List (List D)) (dp fz : Bool) (ve : Nat) (a : Option Addr) (hk : H k = some (.row sz xs dp fz ve))
      (ha : 0 < (G k).cap → a = some ⟨(G k).blk, (G k).off, none⟩) : AVR w G H Av (.slice a xs.length (G k).cap) (.r k)
  | rd (k : Nat) (v : Value) (hk : H k = some .dead) : AVR w G H Av v (.r k)
  | a (k o : Nat) (cs : List AV) (hk : H k = some (.box cs)) : AVR w G H Av (.pointer (some ⟨(G k).blk, o, none⟩)) (.a k o)
  | ad (k o : Nat) (v : Value) (hk : H k = some .dead) : AVR w G H Av v (.a k o)
  | e (k i o sz : Nat) (xs : List (List D)) (dp fz : Bool) (ve : Nat) (hk : H k = some (.row sz xs dp fz ve)) (hi : i < xs.length) :
      AVR w G H Av (.pointer (some ⟨(G k).blk, (G k).off + i * sz + o, none⟩)) (.e k i o)
  | ed (k i o : Nat) (v : Value) (hk : H k = some .dead) : AVR w G H Av v (.e k i o)
  | m (k i o sz : Nat) (xs : List (List D)) (dp fz : Bool) (ve : Nat) (v : Value) (z : Nat) (ys : List (List D)) (hk : H k = some (.row sz xs dp fz ve)) (hj : xs.flatten[i * sz + o]? = some (.l z ys))
      (hv : (G k).vs[i * sz + o]? = some v) (h1 : v.oneCell' = true) : AVR w G H Av v (.m k ve i o)
  | mo (k i o sz : Nat) (xs : List (List D)) (dp fz : Bool) (ve ve' : Nat) (v : Value) (hk : H k = some (.row sz xs dp fz ve')) (hlt : ve < ve') : AVR w G H Av v (.m k ve i o)
  | md (k ve i o : Nat) (v : Value) (hk : H k = some .dead) : AVR w G H Av v (.m k ve i o)
  | q (g base o : Nat) (cur : Array Value) (el : TypeId) (fr : Nat × Nat) (vs : List Value) (cs : List D) (S : List Nat)
      (hg : w.heap[g]? = some (.cells cur el fr)) (hv : ∀ j v, vs[j]? = some v → cur[base + j]? = some v) (h1 : ∀ v ∈ vs, v.oneCell' = true)
      (h : TrL w false vs cs S) (hb : ¬ Av g) (hS : ∀ b ∈ S, ¬ Av b) : AVR w G H Av (.pointer (some ⟨g, base + o, none⟩)) (.q cs o)
  | g (cs : Array Value) (as : List AV) (h : AVRL w G H Av cs.toList as) : AVR w G H Av (.agg cs) (.g as)
  | f (fn : FuncId) (cs : Array Value) (as : List AV) (h : AVRL w G H Av cs.toList as) : AVR w G H Av (.func (.func fn) #[] cs) (.f fn as)
  | t (vs : Array Value) (as : List AV) (h : AVRL w G H Av vs.toList as) : AVR w G H Av (.tuple vs) (.t as)
  | mp (k : Nat) (kv : List (ByteArray × D)) (hk : H k = some (.map kv)) : AVR w G H Av (.map (some (G k).blk)) (.mp k)
  | mpd (k : Nat) (v : Value) (hk : H k = some .dead) : AVR w G H Av v (.mp k)
  | x (v : Value) : AVR w G H Av v .x
inductive AVRL (w : World) (G : Nat → GI) (H : Nat → Option Ob) (Av : Nat → Prop) : List Value → List AV → Prop
  | nil : AVRL w G H Av [] []
  | cons (v : Value) (av : AV) (vs : List Value) (as : List AV) (h : AVR w G H Av v av) (hs : AVRL w G H Av vs as) : AVRL w G H Av (v :: vs) (av :: as)
end

/-- An object that may stand in another's place, for those who know its address. -/
inductive Ob.to (g g' : GI) : Ob → Ob → Prop
  | row (sz : Nat) (xs xs' : List (List D)) (dp fz dp' fz' : Bool) (ve ve' : Nat) (hl : xs'.length = xs.length) (hb : g'.blk = g.blk) (ho : g'.off = g.off) (hc : g'.cap = g.cap)
      (hve : ve < ve' ∨ (ve' = ve ∧ xs' = xs ∧ g'.vs = g.vs)) : Ob.to g g' (.row sz xs dp fz ve) (.row sz xs' dp' fz' ve')
  | box (cs cs' : List AV) (hb : g'.blk = g.blk) : Ob.to g g' (.box cs) (.box cs')
  | map (kv kv' : List (ByteArray × D)) (hb : g'.blk = g.blk) : Ob.to g g' (.map kv) (.map kv')
  | dead (o : Ob) : Ob.to g g' o .dead

theorem Ob.to.refl (g : GI) (o : Ob) : Ob.to g g o o := by
  cases o with
  | row sz xs dp fz ve => exact .row sz xs xs dp fz dp fz ve ve rfl rfl rfl rfl (.inr ⟨rfl, rfl, rfl⟩)
  | box cs => exact .box cs cs rfl
  | map kv => exact .map kv kv rfl
  | dead => exact .dead _

section mono
variable {w w' : World} {G G' : Nat → GI} {H H' : Nat → Option Ob} {Av Av' : Nat → Prop}

theorem AVR.mono_both (hw : ∀ b, b < w.heap.size → ¬ Av b → w'.heap[b]? = w.heap[b]?) (hA : ∀ b, b < w.heap.size → Av' b → Av b)
    (hH : ∀ k o, H k = some o → ∃ o', H' k = some o' ∧ Ob.to (G k) (G' k) o o') :
    (∀ {v : Value} {av : AV}, AVR w G H Av v av → AVR w' G' H' Av' v av) ∧ (∀ {vs : List Value} {as : List AV}, AVRL w G H Av vs as → AVRL w' G' H' Av' vs as) := by
  have key : ∀ {v : Value} {av : AV}, AVR w G H Av v av → AVR w' G' H' Av' v av := by
    intro v av h
    refine AVR.rec (w := w) (G := G) (H := H) (Av := Av) (motive_1 := fun v av _ => AVR w' G' H' Av' v av) (motive_2 := fun vs as _ => AVRL w' G' H' Av' vs as)
      ?_ ?_ ?_ ?_ ?_ ?_ ?_ ?_ ?_ ?_ ?_ ?_ ?_ ?_ ?_ ?_ ?_ ?_ ?_ ?_ h
    · intro v x S h1 h hS
      have hlt := h.lt
      exact .d v x S h1 (h.keep fun b hb => hw b (hlt b hb) (hS b hb)) fun b hb hn => hS b hb (hA b (hlt b hb) hn)
    · intro sz; exact .z sz
    · intro k sz xs dp fz ve a hk ha
      obtain ⟨o', ho', hto⟩ := hH k _ hk
      cases hto with
      | row _ _ xs' _ _ dp' fz' _ ve' hle hb ho hc =>
        rw [← hc, ← hle]
        exact .r k sz xs' dp' fz' ve' a ho' (by rw [hb, ho, hc]; exact ha)
      | dead => exact .rd k _ ho'
    · intro k v hk
      obtain ⟨o', ho', hto⟩ := hH k _ hk
      cases hto with
      | dead => exact .rd k _ ho'
    · intro k o cs hk
      obtain ⟨o', ho', hto⟩ := hH k _ hk
      cases hto with
      | box _ cs' hb => rw [← hb]; exact .a k o cs' ho'
      | dead => exact .ad k o _ ho'
    · intro k o v hk
      obtain ⟨o', ho', hto⟩ := hH k _ hk
      cases hto with
      | dead => exact .ad k o _ ho'
    · intro k i o sz xs dp fz ve hk hi
      obtain ⟨o', ho', hto⟩ := hH k _ hk
      cases hto with
      | row _ _ xs' _ _ dp' fz' _ ve' hle hb ho hc =>
        rw [← hb, ← ho]
        exact .e k i o sz xs' dp' fz' ve' ho' (by omega)
      | dead => exact .ed k i o _ ho'
    · intro k i o v hk
      obtain ⟨o', ho', hto⟩ := hH k _ hk
      cases hto with
      | dead => exact .ed k i o _ ho'
    · intro k i o sz xs dp fz ve v z ys hk hj hv h1
      obtain ⟨o', ho', hto⟩ := hH k _ hk
      cases hto with
      | row _ _ xs' _ _ dp' fz' _ ve' hle hb ho hc hve =>
        rcases hve with hlt | ⟨rfl, rfl, hvs⟩
        · exact .mo k i o sz xs' dp' fz' ve ve' _ ho' hlt
        · exact .m k i o sz _ dp' fz' _ _ z ys ho' hj (by rw [hvs]; exact hv) h1
      | dead => exact .md k _ i o _ ho'
    · intro k i o sz xs dp fz ve ve1 v hk hlt
      obtain ⟨o', ho', hto⟩ := hH k _ hk
      cases hto with
      | row _ _ xs' _ _ dp' fz' _ ve' hle hb ho hc hve => exact .mo k i o sz xs' dp' fz' ve ve' _ ho' (by rcases hve with h | ⟨h, _⟩ <;> omega)
      | dead => exact .md k _ i o _ ho'
    · intro k ve i o v hk
      obtain ⟨o', ho', hto⟩ := hH k _ hk
      cases hto with
      | dead => exact .md k _ i o _ ho'
    · intro g base o cur el fr vs cs S hg hv h1 h hb hS
      have hlt := h.lt
      have hgl : g < w.heap.size := (Array.getElem?_eq_some_iff.1 hg).1
      exact .q g base o cur el fr vs cs S ((hw g hgl hb).trans hg) hv h1 (h.keep fun b hb => hw b (hlt b hb) (hS b hb)) (fun hn => hb (hA g hgl hn)) fun b hb hn => hS b hb (hA b (hlt b hb) hn)
    · intro cs as _ ih; exact .g cs as ih
    · intro fn cs as _ ih; exact .f fn cs as ih
    · intro vs as _ ih; exact .t vs as ih
    · intro k kv hk
      obtain ⟨o', ho', hto⟩ := hH k _ hk
      cases hto with
      | map _ kv' hb => rw [← hb]; exact .mp k kv' ho'
      | dead => exact .mpd k _ ho'
    · intro k v hk
      obtain ⟨o', ho', hto⟩ := hH k _ hk
      cases hto with
      | dead => exact .mpd k _ ho'
    · intro v; exact .x v
    · exact .nil
    · intro v av vs as _ _ ih ihs; exact .cons v av vs as ih ihs
  refine ⟨key, fun {vs as} h => ?_⟩
  have := key (.t vs.toArray as (by simpa using h))
  cases this with
  | t _ _ h => simpa using h
end mono

theorem AVRL.length {w : World} {G : Nat → GI} {H : Nat → Option Ob} {Av : Nat → Prop} : ∀ {vs : List Value} {as : List AV}, AVRL w G H Av vs as → vs.length = as.length
  | _, _, .nil => rfl
  | _, _, .cons _ _ _ _ _ hs => by simp [hs.length]

theorem AVRL.get {w : World} {G : Nat → GI} {H : Nat → Option Ob} {Av : Nat → Prop} : ∀ {vs : List Value} {as : List AV}, AVRL w G H Av vs as → ∀ {j : Nat} {v : Value} {av : AV}, vs[j]? = some v → as[j]? = some av → AVR w G H Av v av
  | _, _, .nil, j, v, av, h, _ => by simp at h
  | _, _, .cons v av vs as h hs, 0, v', av', h1, h2 => by simp at h1 h2; subst h1 h2; exact h
  | _, _, .cons v av vs as h hs, j + 1, v', av', h1, h2 => hs.get (by simpa using h1) (by simpa using h2)

theorem AVRL.of {w : World} {G : Nat → GI} {H : Nat → Option Ob} {Av : Nat → Prop} : ∀ {vs : List Value} {as : List AV}, vs.length = as.length → (∀ (j : Nat) (v : Value) (av : AV), vs[j]? = some v → as[j]? = some av → AVR w G H Av v av) → AVRL w G H Av vs as
  | [], [], _, _ => .nil
  | v :: vs, av :: as, hl, h => .cons v av vs as (h 0 v av rfl rfl) (AVRL.of (by simpa using hl) fun j v' av' h1 h2 => h (j + 1) v' av' (by simpa using h1) (by simpa using h2))
  | [], _ :: _, hl, _ => by simp at hl
  | _ :: _, [], hl, _ => by simp at hl

theorem AVRL.append {w : World} {G : Nat → GI} {H : Nat → Option Ob} {Av : Nat → Prop} : ∀ {vs : List Value} {as : List AV} {vs' : List Value} {as' : List AV}, AVRL w G H Av vs as → AVRL w G H Av vs' as' → AVRL w G H Av (vs ++ vs') (as ++ as')
  | _, _, _, _, .nil, h => h
  | _, _, _, _, .cons v av vs as h hs, h' => .cons v av _ _ h (hs.append h')

theorem AVRL.set {w : World} {G : Nat → GI} {H : Nat → Option Ob} {Av : Nat → Prop} : ∀ {vs : List Value} {as : List AV}, AVRL w G H Av vs as → ∀ (j : Nat) {v : Value} {av : AV}, AVR w G H Av v av → AVRL w G H Av (vs.set j v) (as.set j av)
  | _, _, .nil, j, v, av, h => .nil
  | _, _, .cons v av vs as h hs, 0, v', av', h' => .cons v' av' vs as h' hs
  | _, _, .cons v av vs as h hs, j + 1, v', av', h' => .cons v av _ _ h (hs.set j h')

theorem AVRL.drop {w : World} {G : Nat → GI} {H : Nat → Option Ob} {Av : Nat → Prop} : ∀ {vs : List Value} {as : List AV}, AVRL w G H Av vs as → ∀ n, AVRL w G H Av (vs.drop n) (as.drop n)
  | _, _, .nil, n => by simpa using .nil
  | _, _, .cons v av vs as h hs, 0 => .cons v av vs as h hs
  | _, _, .cons v av vs as h hs, n + 1 => hs.drop n

theorem AVRL.take {w : World} {G : Nat → GI} {H : Nat → Option Ob} {Av : Nat → Prop} : ∀ {vs : List Value} {as : List AV}, AVRL w G H Av vs as → ∀ n, AVRL w G H Av (vs.take n) (as.take n)
  | _, _, .nil, n => by simpa using .nil
  | _, _, .cons v av vs as h hs, 0 => .nil
  | _, _, .cons v av vs as h hs, n + 1 => .cons v av _ _ h (hs.take n)

/-- The blocks that are a call's own through an object. -/
def ownOf (g : GI) : Option Ob → List Nat
  | some (.row _ _ dp false _) => if g.cap = 0 then [] else g.blk :: (if dp then g.sub else [])
  | some (.box _) => [g.blk]
  | some (.map _) => [g.blk]
  | _ => []

def Own (G : Nat → GI) (H : Nat → Option Ob) (b : Nat) : Prop := ∃ k, b ∈ ownOf (G k) (H k)

/-- What a shared value does not come to: blocks that are written, and such as the call was not handed. -/
def Ban (F : Nat → Prop) (G : Nat → GI) (H : Nat → Option Ob) (b : Nat) : Prop := Own G H b ∨ F b

structure RowR (w : World) (Av : Nat → Prop) (g : GI) (sz : Nat) (xs : List (List D)) (dp fz : Bool) : Prop where
  cells : 0 < g.cap → ∃ cur e, w.heap[g.blk]? = some (.cells cur e (0, 0)) ∧ g.off + g.cap * sz ≤ cur.size ∧ ∀ j v, g.vs[j]? = some v → cur[g.off + j]? = some v
  cap : xs.length ≤ g.cap
  max : g.cap ≤ maxLen
  len : g.vs.length = xs.length * sz
  one : ∀ v ∈ g.vs, v.oneCell' = true
  uni : ∀ x ∈ xs, x.length = sz
  tr : TrL w dp g.vs xs.flatten g.sub
  nodup : dp = true → g.sub.Nodup
  sub : dp = false ∨ fz = true → ∀ b ∈ g.sub, ¬ Av b
  frz : fz = true → 0 < g.cap → ¬ Av g.blk

structure BoxR (w : World) (G : Nat → GI) (H : Nat → Option Ob) (Av : Nat → Prop) (g : GI) (cs : List AV) : Prop where
  cells : ∃ cur e, w.heap[g.blk]? = some (.cells cur e (0, 0)) ∧ AVRL w G H Av cur.toList cs ∧ ∀ v ∈ cur.toList, v.oneCell' = true

structure MapR (w : World) (g : GI) (kv : List (ByteArray × D)) : Prop where
  cells : ∃ es clock, w.heap[g.blk]? = some (.map es clock) ∧ es.toList.map (fun e => (e.key, e.val)) = kv.map fun x => (Value.string x.1, scalV x.2)
  ok : ∀ x ∈ kv, mapv x.2 = true

def ObR (w : World) (G : Nat → GI) (H : Nat → Option Ob) (Av : Nat → Prop) (g : GI) : Ob → Prop
  | .row sz xs dp fz _ => RowR w Av g sz xs dp fz
  | .box cs => BoxR w G H Av g cs
  | .map kv => MapR w g kv
  | .dead => True

/-- What a world has but its blocks is as it was; no block has gone. -/
structure Rest (w w' : World) : Prop where
  os : w'.os = w.os
  tape : w'.tape = w.tape
  output : w'.output = w.output
  size : w.heap.size ≤ w'.heap.size
theorem Rest.refl (w : World) : Rest w w := ⟨rfl, rfl, rfl, Nat.le_refl _⟩
theorem Rest.trans {a b c : World} (h : Rest a b) (k : Rest b c) : Rest a c := ⟨k.os.trans h.os, k.tape.trans h.tape, k.output.trans h.output, Nat.le_trans h.size k.size⟩

/-- Where a call begins: the first new block, the world, the blocks that it may not come to, the blocks that it may write. -/
structure Ctx where
  base : Nat
  w0 : World
  F : Nat → Prop
  M : Nat → Prop
  av : Value
  aa : AV

structure RelG (B : Ctx) (G : Nat → GI) (s : St) (a : Act) (w : World) : Prop where
  obj : ∀ k o, s.heap k = some o → ObR w G s.heap (Ban B.F G s.heap) (G k) o
  env : ∀ t, AVR w G s.heap (Ban B.F G s.heap) (a.tmps.getD t undef) (s.env t)
  size : a.tmps.size = s.n
  defers : a.defers = []
  nodup : ∀ k, (ownOf (G k) (s.heap k)).Nodup
  disj : ∀ k k' b, b ∈ ownOf (G k) (s.heap k) → b ∈ ownOf (G k') (s.heap k') → k = k'
  ge : ∀ k b, b ∈ ownOf (G k) (s.heap k) → B.base ≤ b ∨ B.M b
  rest : Rest B.w0 w
  below : ∀ b, b < B.base → ¬ B.M b → w.heap[b]? = B.w0.heap[b]?
  ban : ∀ b, B.F b → b < B.base ∧ ¬ B.M b
  base : B.base ≤ w.heap.size
  anc : AVR w G s.heap (Ban B.F G s.heap) B.av B.aa

def Rel (B : Ctx) (s : St) (a : Act) (w : World) : Prop := ∃ G, RelG B G s a w

theorem RowR.void {w : World} {Av : Nat → Prop} {g : GI} {sz : Nat} {xs : List (List D)} {dp fz : Bool} (h : RowR w Av g sz xs dp fz) (hc : g.cap = 0) : xs = [] ∧ g.vs = [] ∧ g.sub = [] := by
  have hx : xs = [] := List.eq_nil_of_length_eq_zero (by have := h.cap; omega)
  subst hx
  have hv : g.vs = [] := List.eq_nil_of_length_eq_zero (by have := h.len; simpa using this)
  refine ⟨rfl, hv, ?_⟩
  have := h.tr
  rw [hv] at this
  generalize hs : g.sub = S at this
  cases this
  rfl

theorem RowR.mkVoid (w : World) (Av : Nat → Prop) (blk off sz : Nat) (dp fz : Bool) : RowR w Av { blk := blk, off := off, cap := 0, vs := [], sub := [] } sz [] dp fz :=
  ⟨fun h => absurd h (Nat.lt_irrefl 0), Nat.le_refl _, Nat.zero_le _, by simp, by simp, by simp, .nil, fun _ => List.nodup_nil, by simp, fun _ h => absurd h (Nat.lt_irrefl 0)⟩

theorem ObR.lt {w : World} {G : Nat → GI} {H : Nat → Option Ob} {Av : Nat → Prop} {g : GI} {o : Ob} (h : ObR w G H Av g o) : ∀ b, b ∈ ownOf g (some o) → b < w.heap.size := by
  intro b hb
  cases o with
  | row sz xs dp fz ve =>
    by_cases hc : g.cap = 0
    · cases fz <;> simp [ownOf, hc] at hb
    obtain ⟨cur, e, hg, _⟩ := h.cells (by omega)
    have hlt := (Array.getElem?_eq_some_iff.1 hg).1
    cases fz with
    | true => simp [ownOf] at hb
    | false =>
      cases dp with
      | true =>
        simp [ownOf, hc] at hb
        rcases hb with rfl | hb
        · exact hlt
        · exact h.tr.lt b hb
      | false => simp [ownOf, hc] at hb; subst hb; exact hlt
  | box cs =>
    obtain ⟨cur, e, hg, _⟩ := h.cells
    simp [ownOf] at hb
    subst hb
    exact (Array.getElem?_eq_some_iff.1 hg).1
  | map kv =>
    obtain ⟨es, clock, hg, _⟩ := h.cells
    simp [ownOf] at hb
    subst hb
    exact (Array.getElem?_eq_some_iff.1 hg).1
  | dead => simp [ownOf] at hb

theorem RelG.noF {B : Ctx} {G : Nat → GI} {s : St} {a : Act} {w : World} (h : RelG B G s a w) {k b : Nat} (hb : b ∈ ownOf (G k) (s.heap k)) : ¬ B.F b := by
  intro hf
  have h1 := h.ban b hf
  rcases h.ge k b hb with h2 | h2
  · omega
  · exact h1.2 h2

theorem RelG.own_lt {B : Ctx} {G : Nat → GI} {s : St} {a : Act} {w : World} (h : RelG B G s a w) {b : Nat} (hb : Own G s.heap b) : b < w.heap.size := by
  obtain ⟨k, hk⟩ := hb
  cases ho : s.heap k with
  | none => rw [ho] at hk; simp [ownOf] at hk
  | some o => rw [ho] at hk; exact (h.obj k o ho).lt b hk

/-- An object that nobody has touched. -/
theorem ObR.mono {w w' : World} {G G' : Nat → GI} {H H' : Nat → Option Ob} {Av Av' : Nat → Prop} {g : GI} {o : Ob} (h : ObR w G H Av g o)
    (hw : ∀ b, b < w.heap.size → ¬ Av b → w'.heap[b]? = w.heap[b]?) (hA : ∀ b, b < w.heap.size → Av' b → Av b)
    (hH : ∀ k o, H k = some o → ∃ o', H' k = some o' ∧ Ob.to (G k) (G' k) o o')
    (hown : ∀ b, b ∈ ownOf g (some o) → w'.heap[b]? = w.heap[b]?) : ObR w' G' H' Av' g o := by
  cases o with
  | row sz xs dp fz ve =>
    by_cases hc : g.cap = 0
    · obtain ⟨rfl, hv, hs⟩ := RowR.void h hc
      obtain ⟨h1, h2, h3, h4, h5, h6, h7, h8, h9, h10⟩ := h
      exact ⟨fun hp => by omega, h2, h3, h4, h5, h6, by rw [hv, hs]; exact .nil, h8, fun _ b hb => by rw [hs] at hb; simp at hb, fun _ hp => by omega⟩
    obtain ⟨hcells, h2, h3, h4, h5, h6, h7, h8, h9, h10⟩ := h
    obtain ⟨cur, e, hg, hcap, hv⟩ := hcells (by omega)
    have hlt := (Array.getElem?_eq_some_iff.1 hg).1
    have hblk : w'.heap[g.blk]? = w.heap[g.blk]? := by
      cases fz with
      | true => exact hw _ hlt (h10 rfl (by omega))
      | false => exact hown _ (by simp [ownOf, hc])
    have hsub : ∀ b ∈ g.sub, w'.heap[b]? = w.heap[b]? := by
      intro b hb
      cases fz with
      | true => exact hw _ (h7.lt b hb) (h9 (.inr rfl) b hb)
      | false =>
        cases dp with
        | true => exact hown _ (by simp [ownOf, hc, hb])
        | false => exact hw _ (h7.lt b hb) (h9 (.inl rfl) b hb)
    exact ⟨fun _ => ⟨cur, e, hblk.trans hg, hcap, hv⟩, h2, h3, h4, h5, h6, h7.keep hsub, h8, fun hd b hb hn => h9 hd b hb (hA b (h7.lt b hb) hn), fun hf hp hn => h10 hf hp (hA _ hlt hn)⟩
  | box cs =>
    obtain ⟨cur, e, hg, hr, h1⟩ := h
    exact ⟨⟨cur, e, (hown _ (by simp [ownOf])).trans hg, (AVR.mono_both hw hA hH).2 hr, h1⟩⟩
  | map kv =>
    obtain ⟨⟨es, clock, hg, hr⟩, ho⟩ := h
    exact ⟨⟨es, clock, (hown _ (by simp [ownOf])).trans hg, hr⟩, ho⟩
  | dead => trivial

end Go.Fs
