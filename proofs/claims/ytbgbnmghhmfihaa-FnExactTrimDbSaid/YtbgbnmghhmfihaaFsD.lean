/- A part of the proof: an evaluator of the program's code over plain data, proved sound, or a function's walk by it. No conditions beyond those in the theorems. -/
import Derived.Test.YtbgbnmghhmfihaaFsC
import Derived.Laws.Strings
import Derived.Laws.StructEq
set_option linter.unusedVariables false
namespace Go.Fs
open Go.RowKit

/-! ### types, as far as they are asked -/
inductive TK where
  | bool | str | int (k : IntKind) | slice (e : TypeId) | strct (fs : List (Nat × TypeId)) | ref | other
structure TI where
  size : Nat
  bytes : Nat
  kind : TK
  zero : List AV

def zeroOK : List Value → List AV → Bool
  | [], [] => true
  | v :: vs, av :: avs => (match v, av with
    | .bool a, .d (.b b) => a == b
    | .int k n, .d (.i k' n') => k == k' && n == n'
    | .string s, .d (.s s') => s.size == 0 && s'.size == 0
    | .slice none 0 0, .z _ => true
    | .pointer none, .d .n => true
    | .nilFunc, .d .n => true
    | .nilIface, .d .n => true
    | _, _ => false) && zeroOK vs avs
  | _, _ => false

def kindOK (P : Program) (d : Option TypeDesc) : TK → Bool
  | .bool => match d with | some .bool => true | _ => false
  | .str => match d with | some .string => true | _ => false
  | .int k => match d with | some (.int k') => k == k' | _ => false
  | .slice e => match d with | some (.slice e') => e == e' | _ => false
  | .strct fs => match d with | some (.struct fields) => (fields.toList.map fun f => (f.offset, f.type)) == fs && fields.toList.all (fun f => P.cellsOf f.type != 0) | _ => false
  | .ref => match d with | some (.pointer _) => true | some (.func ..) => true | some (.interface _) => true | some (.map ..) => true | _ => false
  | .other => true

def tiOK (P : Program) (t : TypeId) (ti : TI) : Bool :=
  match P.info? t with
  | some i => (ti.zero.length == ti.size) && i.size == ti.size && i.bytes == ti.bytes && kindOK P (P.underlying t) ti.kind && (match i.zero with | some z => zeroOK z.cells.toList ti.zero | none => false)
  | none => false

structure Tab where
  types : List (Nat × TI)
  maps : List (Nat × TypeId × TypeId × D) := []

def zmap : Value → D → Bool
  | .int k n, .i k' n' => k == k' && n == n'
  | .bool b, .b b' => b == b'
  | .string s, .s s' => s.size == 0 && s'.size == 0
  | _, _ => false
def mapOK (P : Program) (t k e : TypeId) (z : D) : Bool :=
  (match P.info? e with | some i => (match i.zero with | some z' => zmap z' z | none => false) | none => false) &&
  (match P.underlying t with | some (.map k' e') => k == k' && e == e' | _ => false) && (match P.underlying k with | some .string => true | _ => false)

def Tab.ok (P : Program) (T : Tab) : Bool := (T.types.all fun x => tiOK P x.1 x.2) && T.maps.all fun x => mapOK P x.1 x.2.1 x.2.2.1 x.2.2.2
def Tab.mp (T : Tab) (t : TypeId) : Option (TypeId × TypeId × D) := T.maps.lookup t
def Tab.ti (T : Tab) (t : TypeId) : Option TI := T.types.lookup t

theorem Tab.ti_ok {P : Program} {T : Tab} (h : T.ok P = true) {t : TypeId} {ti : TI} (ht : T.ti t = some ti) : tiOK P t ti = true := by
  have hm : (t, ti) ∈ T.types := by
    unfold Tab.ti at ht
    generalize T.types = l at ht
    induction l with
    | nil => simp at ht
    | cons x l ih =>
      rw [List.lookup_cons] at ht
      by_cases e : t == x.1
      · simp [e] at ht
        have : t = x.1 := by simpa using e
        subst this; subst ht
        simp
      · simp [e] at ht
        simp [ih ht]
  simp only [Tab.ok, Bool.and_eq_true] at h
  have := List.all_eq_true.1 h.1 _ hm
  simpa using this

structure TIOK (P : Program) (t : TypeId) (ti : TI) : Prop where
  info : ∃ i z, P.info? t = some i ∧ i.size = ti.size ∧ i.bytes = ti.bytes ∧ i.zero = some z ∧ zeroOK z.cells.toList ti.zero = true
  kind : kindOK P (P.underlying t) ti.kind = true
  zlen : ti.zero.length = ti.size

theorem tiok {P : Program} {T : Tab} (h : T.ok P = true) {t : TypeId} {ti : TI} (ht : T.ti t = some ti) : TIOK P t ti := by
  have := Tab.ti_ok h ht
  unfold tiOK at this
  cases hi : P.info? t with
  | none => simp [hi] at this
  | some i =>
    cases hz : i.zero with
    | none => simp [hi, hz] at this
    | some z =>
      simp [hi, hz] at this
      exact ⟨⟨i, z, hi, this.1.1.1.2, this.1.1.2, hz, this.2⟩, this.1.2, this.1.1.1.1⟩

section runs
variable {P : Program} {t : TypeId} {ti : TI} (w : World)
theorem TIOK.sizeOf (h : TIOK P t ti) : (sizeOf t).run P w = .ok ti.size w := by
  obtain ⟨i, z, hi, hs, _⟩ := h.info
  simp [Go.sizeOf, typeInfo, hi, hs]
theorem TIOK.cells (h : TIOK P t ti) : P.cellsOf t = ti.size := by
  obtain ⟨i, z, hi, hs, _⟩ := h.info
  simp [Program.cellsOf, hi, hs]
theorem TIOK.zeroValue (h : TIOK P t ti) : ∃ z, (zeroValue t).run P w = .ok z w ∧ zeroOK z.cells.toList ti.zero = true := by
  obtain ⟨i, z, hi, hs, hb, hz, hz'⟩ := h.info
  exact ⟨z, by simp [Go.zeroValue, typeInfo, hi, hz], hz'⟩
theorem TIOK.slice {e : TypeId} (h : TIOK P t ti) (hk : ti.kind = .slice e) : P.underlying t = some (.slice e) := by
  have := h.kind
  rw [hk] at this
  simp only [kindOK] at this
  split at this
  · rename_i e' he; rw [he]; simp at this; rw [this]
  · simp at this
theorem TIOK.strct {fs : List (Nat × TypeId)} (h : TIOK P t ti) (hk : ti.kind = .strct fs) : ∃ fields, P.underlying t = some (.struct fields) ∧ fields.toList.map (fun f => (f.offset, f.type)) = fs ∧ ∀ f ∈ fields.toList, P.cellsOf f.type ≠ 0 := by
  have := h.kind
  rw [hk] at this
  simp only [kindOK] at this
  split at this
  · rename_i fields he
    simp at this
    refine ⟨fields, he, this.1, fun f hf => ?_⟩
    obtain ⟨i, hi, rfl⟩ := Array.mem_iff_getElem.1 (Array.mem_toList_iff.1 hf)
    exact this.2 i hi
  · simp at this
theorem TIOK.bool (h : TIOK P t ti) (hk : ti.kind = .bool) : P.underlying t = some .bool := by
  have := h.kind
  rw [hk] at this
  simp only [kindOK] at this
  split at this
  · assumption
  · simp at this
theorem TIOK.str (h : TIOK P t ti) (hk : ti.kind = .str) : P.underlying t = some .string := by
  have := h.kind
  rw [hk] at this
  simp only [kindOK] at this
  split at this
  · assumption
  · simp at this
theorem TIOK.int {k : IntKind} (h : TIOK P t ti) (hk : ti.kind = .int k) : P.underlying t = some (.int k) := by
  have := h.kind
  rw [hk] at this
  simp only [kindOK] at this
  split at this
  · rename_i k' he; rw [he]; simp at this; rw [this]
  · simp at this
def TK.agg : TK → Option Bool
  | .strct _ => some true
  | .other => none
  | _ => some false
theorem TIOK.isAgg (h : TIOK P t ti) {b : Bool} (hk : ti.kind.agg = some b) : (isAgg t).run P w = .ok b w := by
  have := h.kind
  cases hq : ti.kind with
  | other => rw [hq] at hk; simp [TK.agg] at hk
  | strct fs =>
    rw [hq] at hk; simp [TK.agg] at hk; subst hk
    obtain ⟨fields, hu, _⟩ := h.strct hq
    simp [Go.isAgg, run_underlying hu]
  | bool => rw [hq] at hk; simp [TK.agg] at hk; subst hk; simp [Go.isAgg, run_underlying (h.bool hq)]
  | str => rw [hq] at hk; simp [TK.agg] at hk; subst hk; simp [Go.isAgg, run_underlying (h.str hq)]
  | int k => rw [hq] at hk; simp [TK.agg] at hk; subst hk; simp [Go.isAgg, run_underlying (h.int hq)]
  | slice e => rw [hq] at hk; simp [TK.agg] at hk; subst hk; simp [Go.isAgg, run_underlying (h.slice hq)]
  | ref =>
    rw [hq] at hk this; simp [TK.agg] at hk; subst hk
    simp only [kindOK] at this
    split at this
    · rename_i e; simp [Go.isAgg, run_underlying e]
    · rename_i e; simp [Go.isAgg, run_underlying e]
    · rename_i e; simp [Go.isAgg, run_underlying e]
    · rename_i e; simp [Go.isAgg, run_underlying e]
    · simp at this
end runs

/-! ### constants, operands -/
def constAV : Value → AV
  | .bool b => .d (.b b)
  | .int k n => .d (.i k n)
  | .string s => .d (.s s)
  | .slice none 0 0 => .z 0
  | .pointer none => .d .n
  | .nilFunc => .d .n
  | .nilIface => .d .n
  | _ => .x

def St.ev (s : St) : Operand → AV
  | .tmp t => s.env t
  | .const v => constAV v
  | .func f => .f f []
  | .global _ => .x

section base
variable {w : World} {G : Nat → GI} {H : Nat → Option Ob} {Av : Nat → Prop}
theorem AVR.sc {v : Value} {x : D} (h1 : v.oneCell' = true) (h : Tr w false v x []) : AVR w G H Av v (.d x) := .d v x [] h1 h (by simp)
theorem constAV_ok (v : Value) : AVR w G H Av v (constAV v) := by
  unfold constAV
  split
  · exact .sc rfl (.b _)
  · exact .sc rfl (.i _ _)
  · exact .sc rfl (.s _)
  · exact .z _
  · exact .sc rfl .np
  · exact .sc rfl .nf
  · exact .sc rfl .ni
  · exact .x _
theorem zeroOK_ok : ∀ {vs : List Value} {avs : List AV}, zeroOK vs avs = true → AVRL w G H Av vs avs ∧ ∀ v ∈ vs, v.oneCell' = true
  | [], [], _ => ⟨.nil, by simp⟩
  | v :: vs, av :: avs, h => by
    simp only [zeroOK, Bool.and_eq_true] at h
    obtain ⟨h1, h2⟩ := h
    obtain ⟨i1, i2⟩ := zeroOK_ok h2
    have key : AVR w G H Av v av ∧ v.oneCell' = true := by
      split at h1
      · rename_i a b; have : a = b := by simpa using h1
        subst this; exact ⟨.sc rfl (.b _), rfl⟩
      · rename_i k n k' n'
        simp at h1
        obtain ⟨rfl, rfl⟩ := h1
        exact ⟨.sc rfl (.i _ _), rfl⟩
      · rename_i s s'
        simp at h1
        have e1 : s = s' := by
          rw [h1.1, h1.2]
        subst e1
        exact ⟨.sc rfl (.s _), rfl⟩
      · exact ⟨.z _, rfl⟩
      · exact ⟨.sc rfl .np, rfl⟩
      · exact ⟨.sc rfl .nf, rfl⟩
      · exact ⟨.sc rfl .ni, rfl⟩
      · simp at h1
    exact ⟨.cons v av vs avs key.1 i1, by
      intro u hu
      rcases List.mem_cons.1 hu with rfl | hu
      · exact key.2
      · exact i2 u hu⟩
  | [], _ :: _, h => by simp [zeroOK] at h
  | _ :: _, [], h => by simp [zeroOK] at h
end base

theorem RelG.ev {B : Ctx} {G : Nat → GI} {s : St} {a : Act} {w : World} (h : RelG B G s a w) (x : Operand) : AVR w G s.heap (Ban B.F G s.heap) (a.eval x) (s.ev x) := by
  cases x with
  | tmp t => exact h.env t
  | const v => exact constAV_ok v
  | func f => exact .f f #[] [] .nil
  | global g => exact .x _

/-! ### numbers, texts, truths -/
def binD (op : BinOp) : D → D → Option D
  | .i k a, .i k' b => if k = k' then match op with
    | .add => some (.i k (k.wrap (a + b)))
    | .sub => some (.i k (k.wrap (a - b)))
    | .mul => some (.i k (k.wrap (a * b)))
    | .quo => if b = 0 then none else some (.i k (k.wrap (a.tdiv b)))
    | .rem => if b = 0 then none else some (.i k (a.tmod b))
    | .eql => some (.b (decide (a = b)))
    | .neq => some (.b (!decide (a = b)))
    | .lss => some (.b (decide (a < b)))
    | .leq => some (.b (decide (a ≤ b)))
    | .gtr => some (.b (decide (b < a)))
    | .geq => some (.b (decide (b ≤ a)))
    | _ => none else none
  | .s a, .s b => match op with
    | .add => if a.size + b.size ≤ 9223372036854775807 then some (.s (a ++ b)) else none
    | .eql => some (.b (decide (a = b)))
    | .neq => some (.b (!decide (a = b)))
    | .lss => some (.b (Op.bytesLess a.data.toList b.data.toList))
    | .leq => some (.b (Op.bytesLess a.data.toList b.data.toList || decide (a = b)))
    | .gtr => some (.b (!(Op.bytesLess a.data.toList b.data.toList || decide (a = b))))
    | .geq => some (.b (!Op.bytesLess a.data.toList b.data.toList))
    | _ => none
  | .b a, .b b => match op with
    | .eql => some (.b (a == b))
    | .neq => some (.b (!(a == b)))
    | _ => none
  | _, _ => none


theorem strEq (a b : ByteArray) : (a.toList == b.toList) = decide (a = b) := by
  rw [ByteArray.toList_eq, ByteArray.toList_eq, Bool.eq_iff_iff]
  simp
  constructor
  · intro h
    obtain ⟨a⟩ := a
    obtain ⟨b⟩ := b
    simp_all
  · rintro rfl; rfl

theorem Tr.inv_i {w : World} {own : Bool} {v : Value} {k : IntKind} {n : Int} {S : List Nat} (h : Tr w own v (.i k n) S) : v = .int k n ∧ S = [] := by cases h; exact ⟨rfl, rfl⟩
theorem Tr.inv_b {w : World} {own : Bool} {v : Value} {x : Bool} {S : List Nat} (h : Tr w own v (.b x) S) : v = .bool x ∧ S = [] := by cases h; exact ⟨rfl, rfl⟩
theorem Tr.inv_s {w : World} {own : Bool} {v : Value} {x : ByteArray} {S : List Nat} (h : Tr w own v (.s x) S) : v = .string x ∧ S = [] := by cases h; exact ⟨rfl, rfl⟩

/-- Of one cell, without memory: a number, a truth, a text, or nothing. -/
def scal : D → Bool
  | .b _ | .i _ _ | .s _ | .n => true
  | _ => false
theorem scal_tr {w : World} {own : Bool} {v : Value} {x : D} {S : List Nat} (h : Tr w own v x S) (hs : scal x = true) : S = [] ∧ (∀ w' own', Tr w' own' v x []) ∧ v.oneCell' = true := by
  cases h <;> simp [scal] at hs
  · exact ⟨rfl, fun _ _ => .b _, rfl⟩
  · exact ⟨rfl, fun _ _ => .i _ _, rfl⟩
  · exact ⟨rfl, fun _ _ => .s _, rfl⟩
  · exact ⟨rfl, fun _ _ => .np, rfl⟩
  · exact ⟨rfl, fun _ _ => .nf, rfl⟩
  · exact ⟨rfl, fun _ _ => .ni, rfl⟩

theorem binD_ok {P : Program} {w : World} {own own' : Bool} {op : BinOp} {t : TypeId} {x y : Operand} {v u : Value} {a b d : D} {S S' : List Nat}
    (hv : Tr w own v a S) (hu : Tr w own' u b S') (h : binD op a b = some d) (hb : (∃ p, a = .b p) → P.underlying t = some .bool) :
    ∃ r, (do eqGuard op t x y v u; binOp op t v u : Sem Value).run P w = .ok r w ∧ scal d = true ∧ Tr w false r d [] := by
  unfold binD at h
  split at h
  · rename_i k p k' q
    obtain ⟨rfl, _⟩ := hv.inv_i
    obtain ⟨rfl, _⟩ := hu.inv_i
    split at h
    · rename_i e
      subst e
      have hq : (eqGuard op t x y (.int k p) (.int k q)).run P w = .ok () w := by cases op <;> simp [eqGuard]
      rw [Sem.run_bind, hq, Result.andThen_ok]
      cases op <;> simp only [Option.some.injEq, reduceCtorEq, Option.ite_none_left_eq_some] at h <;> first
        | (subst h; exact ⟨_, by simp [binOp, Op.intArith], rfl, .i _ _⟩)
        | (obtain ⟨hq0, rfl⟩ := h; exact ⟨_, by simp [binOp, Op.intDiv, hq0], rfl, .i _ _⟩)
        | (subst h; exact ⟨_, by simp only [binOp, Op.intCmp, ne_eq, not_true, if_false]; rfl, rfl, .b _⟩)
    · cases h
  · rename_i p q
    obtain ⟨rfl, _⟩ := hv.inv_s
    obtain ⟨rfl, _⟩ := hu.inv_s
    have hq : (eqGuard op t x y (.string p) (.string q)).run P w = .ok () w := by cases op <;> simp [eqGuard]
    rw [Sem.run_bind, hq, Result.andThen_ok]
    cases op <;> simp only [Option.some.injEq, reduceCtorEq, Option.ite_none_right_eq_some] at h <;> first
      | (obtain ⟨hs, rfl⟩ := h
         refine ⟨.string (p ++ q), ?_, rfl, .s _⟩
         have : ¬ ((p.size + q.size : Nat) : Int) > IntKind.i64.max := by
           have : IntKind.i64.max = 9223372036854775807 := by decide
           rw [this]; omega
         simp only [binOp, Op.stringOp]
         rw [if_neg this]; rfl)
      | (subst h; exact ⟨_, by simp only [binOp, Op.stringOp, ← strEq, ByteArray.toList_eq]; rfl, rfl, .b _⟩)
  · rename_i p q
    obtain ⟨rfl, _⟩ := hv.inv_b
    obtain ⟨rfl, _⟩ := hu.inv_b
    have hq : (eqGuard op t x y (.bool p) (.bool q)).run P w = .ok () w := by cases op <;> simp [eqGuard]
    rw [Sem.run_bind, hq, Result.andThen_ok]
    have ht := hb ⟨p, rfl⟩
    cases op <;> simp only [Option.some.injEq, reduceCtorEq] at h <;> (subst h; exact ⟨_, by simp [binOp, run_equal_bool (w := w) t p q ht], rfl, .b _⟩)
  · cases h

end Go.Fs
