/- A part of the proof: an evaluator of the program's code over plain data, proved sound; the equations of its functions; what they compute. No conditions beyond those in the theorems. -/
import Derived.WideLaws
import Derived.Test.YtkgkoolfobmfnaaGreatDoorP2
set_option linter.unusedVariables false
set_option linter.unusedSimpArgs false
set_option linter.constructorNameAsVariable false
set_option linter.unusedSectionVars false
set_option linter.defProp false
namespace Go.Fs
open Go.RowKit

def Tab.kd (T : Tab) (t : TypeId) : Option TK := (T.ti t).map (·.kind)

/-- Nothing, of a slice's type. -/
def fixZ (T : Tab) (ty : TypeId) : AV → AV
  | .z n => match T.kd ty with
    | some (.slice e) => .z (((T.ti e).map (·.size)).getD n)
    | _ => .z n
  | av => av

/-- Values as they are handed on: what is known by its place is known by its content. -/
def dem1 {α : Type} (H : Nat → Option Ob) (x : AV) (f : AV → (Nat → Option Ob) → Option α) : Option α := (demote H x).bind fun y => f y.1 y.2
def demAll (H : Nat → Option Ob) : List AV → Option (List AV × (Nat → Option Ob))
  | [] => some ([], H)
  | av :: avs => (demote H av).bind fun x => (demAll x.2 avs).bind fun y => some (x.1 :: y.1, y.2)

/-- The second side of a comparison: the literal nil is known as such. -/
def St.ev2 (s : St) : Operand → AV
  | .const .nilIface => .nl
  | y => s.ev y
theorem St.ev2_congr {s s' : St} {y : Operand} (h : s.ev y = s'.ev y) : s.ev2 y = s'.ev2 y := by
  unfold St.ev2
  split
  · rfl
  · exact h
/-- A pointer that is not nil. -/
def opNilC (H : Nat → Option Ob) : AV → Option AV
  | .a k o => match H k with
    | some (.box _) => some (.a k o)
    | _ => none
  | .e k i o => match H k with
    | some (.row ..) => some (.e k i o)
    | _ => none
  | .q cs o => some (.q cs o)
  | .d (.p cs) => some (.d (.p cs))
  | _ => none
def eqNil (k : Option TK) (op : BinOp) (p : Bool) : Option AV := match k, op with
  | some .iface, .eql => some (.d (.b (!p)))
  | some .iface, .neq => some (.d (.b p))
  | _, _ => none
theorem eqNil_e (p : Bool) : eqNil (some .iface) .eql p = some (.d (.b (!p))) := rfl
theorem eqNil_n (p : Bool) : eqNil (some .iface) .neq p = some (.d (.b p)) := rfl
def opBin (T : Tab) (op : BinOp) (ty : TypeId) (x y : AV) : Option AV :=
  match x, y with
  | .d (.b p), .d b => match T.kd ty with
    | some .bool => (binD op (.b p) b).map .d
    | _ => none
  | .d (.i k p), .d b => (binD op (.i k p) b).map .d
  | .d (.s p), .d b => (binD op (.s p) b).map .d
  | .d (.e p), .nl => eqNil (T.kd ty) op p
  | _, _ => none

def opUn (op : UnOp) (x : AV) : Option AV :=
  match op, x with
  | .not, .d (.b p) => some (.d (.b !p))
  | .neg, .d (.i k n) => some (.d (.i k (k.wrap (0 - n))))
  | _, _ => none

def opConv (T : Tab) (src dst : TypeId) (x : AV) : Option AV :=
  match T.kd src, T.kd dst, x with
  | some (.int _), some (.int k), .d (.i _ n) => some (.d (.i k (k.wrap n)))
  | some .str, some .str, .d (.s p) => some (.d (.s p))
  | _, _, _ => none

def opExtract (x : AV) (i : Nat) : Option AV :=
  match x with
  | .t vs => vs[i]?
  | _ => none

def opMax : AV → AV → Option AV
  | .d (.i k a), .d (.i _ b) => some (.d (.i k (max a b)))
  | _, _ => none
def opMin : AV → AV → Option AV
  | .d (.i k a), .d (.i _ b) => some (.d (.i k (min a b)))
  | _, _ => none
theorem run_max_i {P : Program} (w : World) (ts : Array TypeId) (t : TypeId) (k k' : IntKind) (x y : Int) :
    (Builtin.max_ ts t #[.int k x, .int k' y]).run P w = .ok (.int k (max x y)) w := by
  have e : (if y > x then y else x) = max x y := by
    rw [Int.max_def]
    split <;> split <;> omega
  simp [Builtin.max_, Builtin.max2, e]
theorem run_min_i {P : Program} (w : World) (ts : Array TypeId) (t : TypeId) (k k' : IntKind) (x y : Int) :
    (Builtin.min_ ts t #[.int k x, .int k' y]).run P w = .ok (.int k (min x y)) w := by
  have e : (if y < x then y else x) = min x y := by
    rw [Int.min_def]
    split <;> split <;> omega
  simp [Builtin.min_, Builtin.min2, e]

def appC (T : Tab) (dst : Nat) (ty : TypeId) (y : AV) (x : AV × (Nat → Option Ob)) : Option (AV × (Nat → Option Ob)) := dem1 x.2 y fun y' H => opAppend T H dst ty (fixZ T ty x.1) (fixZ T ty y')
def callB (T : Tab) (s : St) (dst : Nat) (c : Call) : Option (AV × (Nat → Option Ob)) :=
  match c.callee with
  | .builtin .len => match c.args.toList, c.argTypes.toList with
    | [x], [ty] => (opLen T s.heap ty (s.ev x)).map (·, s.heap)
    | _, _ => none
  | .builtin .append => match c.args.toList, c.argTypes.toList with
    | [x, y], [ty, ty'] => if ty = ty' then (takeM s.heap (650000 + dst) (s.ev x)).bind (appC T dst ty (s.ev y)) else none
    | _, _ => none
  | .builtin .max => match c.args.toList with
    | [x, y] => (opMax (s.ev x) (s.ev y)).map (·, s.heap)
    | _ => none
  | .builtin .min => match c.args.toList with
    | [x, y] => (opMin (s.ev x) (s.ev y)).map (·, s.heap)
    | _ => none
  | _ => none

/-- An operation that answers with a value. -/
def valOp (T : Tab) (s : St) (o : Oper) : Option (AV × (Nat → Option Ob)) :=
  match o.op with
  | .move x => some (fixZ T o.type (s.ev x), s.heap)
  | .assign x => some (fixZ T o.type (s.ev x), s.heap)
  | .load ty x => (opLoad T s.heap ty (s.ev x)).map (·, s.heap)
  | .fieldAddr ty x f => (opField T s.heap ty (s.ev x) f).map (·, s.heap)
  | .indexAddr ty x i => dem1 s.heap (s.ev x) fun x' H' => (opIndex T H' ty x' (s.ev i)).map (·, H')
  | .index ty x i => (opByte T ty (s.ev x) (s.ev i)).map (·, s.heap)
  | .binOp op ty x y _ => (opBin T op ty (s.ev x) (s.ev2 y)).map (·, s.heap)
  | .nilCheck x => (opNilC s.heap (s.ev x)).map (·, s.heap)
  | .unOp op _ x => (opUn op (s.ev x)).map (·, s.heap)
  | .convert src dst x => (opConv T src dst (s.ev x)).map (·, s.heap)
  | .extract x i => (opExtract (s.ev x) i).map (·, s.heap)
  | .makeFunc (.func f) first captured => if first.size = 0 then (demAll s.heap (captured.toList.map s.ev)).map fun y => (.f f y.1, y.2) else none
  | .alloc ty => opAlloc T s.heap (o.dst.getD 0) ty
  | .box _ x => dem1 s.heap (s.ev x) fun x' H' => opBox H' (o.dst.getD 0) x'
  | .build ty parts => (demAll s.heap (parts.toList.map fun p => s.ev p.2)).bind fun y => (opBuild T y.2 ty ((parts.toList.map (·.1)).zip y.1)).map (·, y.2)
  | .buildSlice ty len parts => (demAll s.heap (parts.toList.map fun p => s.ev p.2)).bind fun y => opBuildSlice T y.2 (o.dst.getD 0) ty len ((parts.toList.map (·.1)).zip y.1)
  | .makeSlice ty l c => opMake T s.heap (o.dst.getD 0) ty (s.ev l) (s.ev c)
  | .slice ty x lo hi none => dem1 s.heap (s.ev x) fun x' H' => opSlice T H' (o.dst.getD 0) ty x' (lo.map s.ev) (hi.map s.ev)
  | .call c => callB T s (o.dst.getD 0) c
  | _ => none

section rel
variable {P : Program} {T : Tab} {B : Ctx} {G : Nat → GI} {s : St} {a : Act} {w : World}

theorem fixZ_ok {H : Nat → Option Ob} {Av : Nat → Prop} {v : Value} {av : AV} (ty : TypeId) (h : AVR w G H Av v av) : AVR w G H Av v (fixZ T ty av) := by
  unfold fixZ
  split
  · cases h
    split <;> exact .z _
  · exact h

theorem opBin_ok (hT : T.ok P = true) {H : Nat → Option Ob} {Av : Nat → Prop} {op : BinOp} {ty : TypeId} {ox oy : Operand} {x y : AV} {xv yv : Value} (hx : AVR w G H Av xv x) (hy : AVR w G H Av yv y ∨ (y = .nl ∧ oy = .const .nilIface ∧ yv = .nilIface)) {av : AV} (hm : opBin T op ty x y = some av) :
    ∃ v, (do eqGuard op ty ox oy xv yv; binOp op ty xv yv : Sem Value).run P w = .ok v w ∧ AVR w G H Av v av := by
  have key : ∀ {a b : D} {d : D}, AVR w G H Av xv (.d a) → AVR w G H Av yv (.d b) → binD op a b = some d → ((∃ p, a = .b p) → P.underlying ty = some .bool) →
      ∃ v, (do eqGuard op ty ox oy xv yv; binOp op ty xv yv : Sem Value).run P w = .ok v w ∧ AVR w G H Av v (.d d) := by
    intro a b d hx hy hd hb
    cases hx with
    | d _ _ S _ hx _ =>
      cases hy with
      | d _ _ S' _ hy _ =>
        obtain ⟨r, h1, h2, h3⟩ := binD_ok (w := w) (x := ox) (y := oy) hx hy hd hb
        exact ⟨r, h1, .sc (scal_tr h3 h2).2.2 h3⟩
  unfold opBin at hm
  split at hm
  · split at hm
    case h_2 => cases hm
    rename_i p b hk
    simp only [Option.map_eq_some_iff, Tab.kd] at hm hk
    obtain ⟨d, hd, rfl⟩ := hm
    obtain ⟨ti, hti, hk⟩ := hk
    exact key hx (hy.resolve_right fun e => by cases e.1) hd fun _ => (tiok hT hti).bool hk
  · simp only [Option.map_eq_some_iff] at hm
    obtain ⟨d, hd, rfl⟩ := hm
    exact key hx (hy.resolve_right fun e => by cases e.1) hd fun ⟨p, hp⟩ => by cases hp
  · simp only [Option.map_eq_some_iff] at hm
    obtain ⟨d, hd, rfl⟩ := hm
    exact key hx (hy.resolve_right fun e => by cases e.1) hd fun ⟨p, hp⟩ => by cases hp
  · rename_i p
    obtain ⟨_, rfl, rfl⟩ := hy.resolve_left fun e => by cases e
    have hiff : ∀ {k : TK}, T.kd ty = some k → k = .iface → P.underlying ty = some (.interface (P.methodsAt ty)) := fun {k} hk e => by
      simp only [Option.map_eq_some_iff, Tab.kd] at hk
      obtain ⟨ti, hti, rfl⟩ := hk
      obtain ⟨ms, hu⟩ := (tiok hT hti).iface e
      rw [hu]
      simp [Program.methodsAt, hu]
    have hg : ∀ v, (∃ S, Tr w false v (.e p) S) → (eqGuard op ty ox (.const .nilIface) v .nilIface).run P w = .ok () w := by
      rintro v ⟨S, ht⟩
      cases ht <;> cases op <;> simp [eqGuard]
    have hv : ∃ S, Tr w false xv (.e p) S := by
      cases hx with
      | d _ _ S _ hx _ => exact ⟨S, hx⟩
    obtain ⟨S, ht⟩ := hv
    rw [Sem.run_bind, hg xv ⟨S, ht⟩, Result.andThen_ok]
    unfold eqNil at hm
    split at hm
    · rename_i hk
      simp only [Option.some.injEq] at hm
      subst hm
      have hu := hiff hk rfl
      cases ht with
      | ni => exact ⟨.bool true, by simp [binOp, run_equal_nil_nil w ty hu], .sc rfl (.b _)⟩
      | ei te pv => exact ⟨.bool false, by simp [binOp, run_equal_held_nil w ty te pv hu], .sc rfl (.b _)⟩
    · rename_i hk
      simp only [Option.some.injEq] at hm
      subst hm
      have hu := hiff hk rfl
      cases ht with
      | ni => exact ⟨.bool false, by simp [binOp, run_equal_nil_nil w ty hu], .sc rfl (.b _)⟩
      | ei te pv => exact ⟨.bool true, by simp [binOp, run_equal_held_nil w ty te pv hu], .sc rfl (.b _)⟩
    · cases hm
  · cases hm
theorem ev2_ok {H : Nat → Option Ob} {Av : Nat → Prop} {s : St} {a : Act} (h : ∀ x, AVR w G H Av (a.eval x) (s.ev x)) (y : Operand) : AVR w G H Av (a.eval y) (s.ev2 y) ∨ (s.ev2 y = .nl ∧ y = .const .nilIface ∧ a.eval y = .nilIface) := by
  unfold St.ev2
  split
  · exact .inr ⟨rfl, rfl, rfl⟩
  · exact .inl (h _)
theorem opNilC_ok {H : Nat → Option Ob} {Av : Nat → Prop} {x : AV} {xv : Value} (hx : AVR w G H Av xv x) {av : AV} (hm : opNilC H x = some av) : av = x ∧ ∃ ad, xv = .pointer (some ad) := by
  unfold opNilC at hm
  split at hm
  · split at hm
    case h_2 => cases hm
    rename_i k o cs hk
    cases hm
    cases hx with
    | a => exact ⟨rfl, _, rfl⟩
    | ad _ _ _ hk' => rw [hk] at hk'; cases hk'
  · split at hm
    case h_2 => cases hm
    rename_i k i o sz xs dp fz ve hk
    cases hm
    cases hx with
    | e => exact ⟨rfl, _, rfl⟩
    | ed _ _ _ _ hk' => rw [hk] at hk'; cases hk'
  · cases hm
    cases hx with
    | q => exact ⟨rfl, _, rfl⟩
  · cases hm
    cases hx with
    | d _ _ S _ ht _ =>
      cases ht with
      | p => exact ⟨rfl, _, rfl⟩
  · cases hm

theorem opUn_ok {H : Nat → Option Ob} {Av : Nat → Prop} {op : UnOp} {x : AV} {xv : Value} (hx : AVR w G H Av xv x) {av : AV} (hm : opUn op x = some av) : ∃ v, (Op.unary op xv).run P w = .ok v w ∧ AVR w G H Av v av := by
  unfold opUn at hm
  split at hm
  · obtain rfl := hx.inv_bool
    simp only [Option.some.injEq] at hm
    subst hm
    exact ⟨.bool !_, by simp [Op.unary], .sc rfl (.b _)⟩
  · obtain rfl := hx.inv_int
    simp only [Option.some.injEq] at hm
    subst hm
    exact ⟨.int _ _, by simp [Op.unary, Op.intArith], .int _ _⟩
  · cases hm

theorem opConv_ok (hT : T.ok P = true) {H : Nat → Option Ob} {Av : Nat → Prop} {src dst : TypeId} {x : AV} {xv : Value} (hx : AVR w G H Av xv x) {av : AV} (hm : opConv T src dst x = some av) : ∃ v, (convert src dst xv).run P w = .ok v w ∧ AVR w G H Av v av := by
  unfold opConv at hm
  split at hm
  · rename_i h1 h2
    simp only [Option.map_eq_some_iff, Tab.kd] at h1 h2
    obtain ⟨t1, e1, k1⟩ := h1
    obtain ⟨t2, e2, k2⟩ := h2
    obtain rfl := hx.inv_int
    simp only [Option.some.injEq] at hm
    subst hm
    refine ⟨_, ?_, .int _ _⟩
    simp only [convert, Sem.run_bind, run_underlying ((tiok hT e1).int k1), run_underlying ((tiok hT e2).int k2), Result.andThen_ok, Conv.intToInt]
    rfl
  · rename_i h1 h2
    simp only [Option.map_eq_some_iff, Tab.kd] at h1 h2
    obtain ⟨t1, e1, k1⟩ := h1
    obtain ⟨t2, e2, k2⟩ := h2
    obtain rfl := hx.inv_str
    simp only [Option.some.injEq] at hm
    subst hm
    refine ⟨_, ?_, .sc rfl (.s _)⟩
    simp only [convert, Sem.run_bind, run_underlying ((tiok hT e1).str k1), run_underlying ((tiok hT e2).str k2), Result.andThen_ok]
    rfl
  · cases hm

theorem opExtract_ok {H : Nat → Option Ob} {Av : Nat → Prop} {x : AV} {xv : Value} {i : Nat} (hx : AVR w G H Av xv x) {av : AV} (hm : opExtract x i = some av) : ∃ v, (Instr.extract xv i).run P w = .ok v w ∧ AVR w G H Av v av := by
  cases x with
  | t vs =>
    cases hx with
    | t us _ h =>
      have hm : vs[i]? = some av := hm
      have hi : i < vs.length := by
        rcases Nat.lt_or_ge i vs.length with h | h
        · exact h
        · rw [List.getElem?_eq_none h] at hm; cases hm
      have hl := h.length
      have hu : us.toList[i]? = some (us.toList[i]'(by omega)) := List.getElem?_eq_getElem _
      have := h.get hu hm
      refine ⟨_, ?_, this⟩
      have hus : us[i]? = some (us.toList[i]'(by omega)) := by rw [← Array.getElem?_toList]; exact hu
      simp [Instr.extract, hus]
  | _ => cases hm

theorem demAll_ok : ∀ {s : St} (h : RelG B G s a w) {vs : List Value} {as as' : List AV} {H' : Nat → Option Ob} (hv : AVRL w G s.heap (Ban B.F G s.heap) vs as) (hm : demAll s.heap as = some (as', H')),
    Eased B G s a w H' ∧ AVRL w G H' (Ban B.F G H') vs as' ∧ as'.length = as.length
  | s, h, _, _, as', H', .nil, hm => by
    simp only [demAll, Option.some.injEq, Prod.mk.injEq] at hm
    obtain ⟨rfl, rfl⟩ := hm
    exact ⟨.refl h, .nil, rfl⟩
  | s, h, _, _, as', H', .cons v av vs as hv hvs, hm => by
    simp only [demAll, Option.bind_eq_some_iff, Option.some.injEq, Prod.mk.injEq] at hm
    obtain ⟨⟨a1, H1⟩, m1, ⟨as2, H2⟩, m2, rfl, rfl⟩ := hm
    obtain ⟨e1, v1⟩ := demote_ok h hv m1
    obtain ⟨e2, v2, l2⟩ := demAll_ok e1.rel (e1.avrl hvs) m2
    exact ⟨e1.trans e2, .cons _ _ _ _ (e2.avr v1) v2, by simp [l2]⟩

theorem RelG.evs2 (h : RelG B G s a w) : ∀ (ps : List (Nat × Operand)), AVRL w G s.heap (Ban B.F G s.heap) (ps.map fun p => a.eval p.2) (ps.map fun p => s.ev p.2)
  | [] => .nil
  | p :: ps => .cons _ _ _ _ (h.ev p.2) (h.evs2 ps)

theorem RelG.evs (h : RelG B G s a w) : ∀ (xs : List Operand), AVRL w G s.heap (Ban B.F G s.heap) (xs.map a.eval) (xs.map s.ev)
  | [] => .nil
  | x :: xs => .cons _ _ _ _ (h.ev x) (h.evs xs)


theorem valOp_ok (hT : T.ok P = true) (h : RelG B G s a w) {o : Oper} {av : AV} {H' : Nat → Option Ob} (hm : valOp T s o = some (av, H')) :
    ∃ v w' G', (execOp a.eval o).run P w = .ok (.value v) w' ∧ RelG B G' { s with heap := H' } a w' ∧ AVR w' G' H' (Ban B.F G' H') v av := by
  have same : ∀ {c : Sem Value} {av' : AV}, execOp a.eval o = (do pure (.value (← c))) → (∃ v, c.run P w = .ok v w ∧ AVR w G s.heap (Ban B.F G s.heap) v av') → (av', s.heap) = (av, H') →
      ∃ v w' G', (execOp a.eval o).run P w = .ok (.value v) w' ∧ RelG B G' { s with heap := H' } a w' ∧ AVR w' G' H' (Ban B.F G' H') v av := by
    rintro c av' he ⟨v, hr, hv⟩ hm
    simp only [Prod.mk.injEq] at hm
    obtain ⟨rfl, rfl⟩ := hm
    exact ⟨v, w, G, by rw [he, Sem.run_bind, hr, Result.andThen_ok]; rfl, h, hv⟩
  have other : ∀ {c : Sem Value}, execOp a.eval o = (do pure (.value (← c))) → (∃ v w' G', c.run P w = .ok v w' ∧ RelG B G' { s with heap := H' } a w' ∧ AVR w' G' H' (Ban B.F G' H') v av) →
      ∃ v w' G', (execOp a.eval o).run P w = .ok (.value v) w' ∧ RelG B G' { s with heap := H' } a w' ∧ AVR w' G' H' (Ban B.F G' H') v av := by
    rintro c he ⟨v, w', G', hr, h1, h2⟩
    exact ⟨v, w', G', by rw [he, Sem.run_bind, hr, Result.andThen_ok]; rfl, h1, h2⟩
  obtain ⟨dst, op, type, pos, after, guard⟩ := o
  unfold valOp at hm
  cases op <;> simp only at hm <;> try (cases hm; done)
  case move x =>
    simp only [Option.some.injEq] at hm
    exact same (c := pure (a.eval x)) (by simp [execOp]) ⟨_, rfl, fixZ_ok type (h.ev x)⟩ hm
  case assign x =>
    simp only [Option.some.injEq] at hm
    exact same (c := pure (a.eval x)) (by simp [execOp]) ⟨_, rfl, fixZ_ok type (h.ev x)⟩ hm
  case load ty x =>
    simp only [Option.map_eq_some_iff] at hm
    obtain ⟨av', hm, he⟩ := hm
    exact same (by simp [execOp]) (opLoad_ok hT h (h.ev x) hm) he
  case fieldAddr ty x f =>
    simp only [Option.map_eq_some_iff] at hm
    obtain ⟨av', hm, he⟩ := hm
    exact same (by simp [execOp]) (opField_ok hT (h.ev x) hm) he
  case indexAddr ty x i =>
    simp only [dem1, Option.bind_eq_some_iff, Option.map_eq_some_iff] at hm
    obtain ⟨⟨x', H1⟩, m1, av', m2, he⟩ := hm
    simp only [Prod.mk.injEq] at he
    obtain ⟨rfl, rfl⟩ := he
    obtain ⟨e1, v1⟩ := demote_ok h (h.ev x) m1
    obtain ⟨v, hr, hv⟩ := opIndex_ok (s := { s with heap := H1 }) hT e1.rel v1 (e1.avr (h.ev i)) m2
    exact other (by simp [execOp]) ⟨v, w, G, hr, e1.rel, hv⟩
  case index ty x i =>
    simp only [Option.map_eq_some_iff] at hm
    obtain ⟨av', hm, he⟩ := hm
    exact same (by simp [execOp]) (opByte_ok hT (h.ev x) (h.ev i) hm) he
  case binOp op ty x y yt =>
    simp only [Option.map_eq_some_iff] at hm
    obtain ⟨av', hm, he⟩ := hm
    exact same (by simp only [execOp]) (opBin_ok hT (ox := x) (oy := y) (h.ev x) (ev2_ok h.ev y) hm) he
  case nilCheck x =>
    simp only [Option.map_eq_some_iff] at hm
    obtain ⟨av', hm, he⟩ := hm
    obtain ⟨rfl, ad, e⟩ := opNilC_ok (h.ev x) hm
    simp only [Prod.mk.injEq] at he
    obtain ⟨rfl, rfl⟩ := he
    exact ⟨.pointer (some ad), w, G, by simp only [execOp, e]; rfl, h, by rw [← e]; exact h.ev x⟩
  case unOp op ty x =>
    simp only [Option.map_eq_some_iff] at hm
    obtain ⟨av', hm, he⟩ := hm
    exact same (by simp [execOp]) (opUn_ok (h.ev x) hm) he
  case convert src dst x =>
    simp only [Option.map_eq_some_iff] at hm
    obtain ⟨av', hm, he⟩ := hm
    exact same (by simp [execOp]) (opConv_ok hT (h.ev x) hm) he
  case extract x i =>
    simp only [Option.map_eq_some_iff] at hm
    obtain ⟨av', hm, he⟩ := hm
    exact same (by simp [execOp]) (opExtract_ok (h.ev x) hm) he
  case makeFunc fn first captured =>
    cases fn with
    | func f =>
      simp only at hm
      split at hm
      case isFalse => cases hm
      rename_i hf
      simp only [Option.map_eq_some_iff, Prod.mk.injEq] at hm
      obtain ⟨⟨as', H1⟩, m1, rfl, rfl⟩ := hm
      obtain ⟨e1, v1, _⟩ := demAll_ok h (h.evs captured.toList) m1
      refine other (c := Instr.makeFunc (.func f) (first.map a.eval) (captured.map a.eval)) (by simp only [execOp]) ⟨.func (.func f) #[] (captured.map a.eval), w, G, ?_, e1.rel, .f f _ _ (by simpa using v1)⟩
      have : first = #[] := by simpa using hf
      simp [Instr.makeFunc, this]
    | _ => cases hm
  case alloc ty =>
    exact other (c := Instr.alloc ty true (.tuple #[])) (by simp only [execOp]) (opAlloc_ok hT h hm)
  case box ty x =>
    simp only [dem1, Option.bind_eq_some_iff] at hm
    obtain ⟨⟨x', H1⟩, m1, hm⟩ := hm
    obtain ⟨e1, v1⟩ := demote_ok h (h.ev x) m1
    exact other (c := Instr.box ty (a.eval x)) (by simp only [execOp]) (opBox_ok (s := { s with heap := H1 }) e1.rel v1 hm)
  case build ty parts =>
    simp only [Option.bind_eq_some_iff, Option.map_eq_some_iff, Prod.mk.injEq] at hm
    obtain ⟨⟨as', H1⟩, m1, av', m2, rfl, rfl⟩ := hm
    obtain ⟨e1, v1, l1⟩ := demAll_ok h (h.evs2 parts.toList) m1
    have hl : as'.length = (parts.toList.map (·.1)).length := by rw [l1, List.length_map, List.length_map]
    obtain ⟨v, hr, hv⟩ := opBuild_ok (s := { s with heap := H1 }) (vals := parts.toList.map fun p => (p.1, a.eval p.2)) hT e1.rel (by rw [List.map_fst_zip (Nat.le_of_eq hl.symm), List.map_map]; rfl) (by rw [List.map_snd_zip (Nat.le_of_eq hl), List.map_map]; exact v1) m2
    refine other (c := Instr.build ty (parts.map fun (i, x) => (i, a.eval x))) (by simp only [execOp]) ⟨v, w, G, ?_, e1.rel, hv⟩
    rw [← hr]
    congr 2
    apply Array.ext'
    simp
  case buildSlice ty len parts =>
    simp only [Option.bind_eq_some_iff] at hm
    obtain ⟨⟨as', H1⟩, m1, hm⟩ := hm
    obtain ⟨e1, v1, l1⟩ := demAll_ok h (h.evs2 parts.toList) m1
    have hl : as'.length = (parts.toList.map (·.1)).length := by rw [l1, List.length_map, List.length_map]
    obtain ⟨v, w', G', hr, h1, h2⟩ := opBuildSlice_ok (s := { s with heap := H1 }) (vals := parts.toList.map fun p => (p.1, a.eval p.2)) hT e1.rel (by rw [List.map_fst_zip (Nat.le_of_eq hl.symm), List.map_map]; rfl) (by rw [List.map_snd_zip (Nat.le_of_eq hl), List.map_map]; exact v1) hm
    refine other (c := Instr.buildSlice ty len (parts.map fun (i, x) => (i, a.eval x))) (by simp only [execOp]) ⟨v, w', G', ?_, h1, h2⟩
    rw [← hr]
    congr 2
    apply Array.ext'
    simp
  case makeSlice ty l c =>
    exact other (c := Instr.makeSlice ty (a.eval l) (a.eval c)) (by simp only [execOp]) (opMake_ok hT h (h.ev l) (h.ev c) hm)
  case slice ty x lo hi mx =>
    cases mx with
    | some _ => cases hm
    | none =>
      simp only [dem1, Option.bind_eq_some_iff] at hm
      obtain ⟨⟨x', H1⟩, m1, hm⟩ := hm
      obtain ⟨e1, v1⟩ := demote_ok h (h.ev x) m1
      have hb : ∀ o : Option Operand, BndR w G H1 (Ban B.F G H1) (o.map a.eval) (o.map s.ev)
        | none => .none
        | some o => .some _ _ (e1.avr (h.ev o))
      obtain ⟨v, G', hr, h1, h2⟩ := opSlice_ok (s := { s with heap := H1 }) hT e1.rel v1 (hb lo) (hb hi) hm
      exact other (c := Instr.sliceAt ty (a.eval x) (lo.map a.eval) (hi.map a.eval) none) (by simp only [execOp, Option.map_none]) ⟨v, w, G', hr, h1, h2⟩
  case call c =>
    obtain ⟨callee, args, argTypes⟩ := c
    unfold callB at hm
    simp only at hm
    split at hm
    · split at hm
      case h_2 => cases hm
      rename_i x ty ha ht
      obtain rfl : args = #[x] := Array.ext' (by simpa using ha)
      obtain rfl : argTypes = #[ty] := Array.ext' (by simpa using ht)
      simp only [Option.map_eq_some_iff] at hm
      obtain ⟨av', hm, he⟩ := hm
      exact same (by simp [execOp, resolve, invoke, builtin]) (opLen_ok (ty' := type) hT h (h.ev x) hm) he
    · split at hm
      case h_2 => cases hm
      rename_i x y ty ty' ha ht
      obtain rfl : args = #[x, y] := Array.ext' (by simpa using ha)
      obtain rfl : argTypes = #[ty, ty'] := Array.ext' (by simpa using ht)
      split at hm
      case isFalse => cases hm
      rename_i e
      subst e
      simp only [appC, dem1, Option.bind_eq_some_iff] at hm
      obtain ⟨⟨x', H1⟩, m1, ⟨y', H2⟩, m2, hm⟩ := hm
      obtain ⟨G1, r1, v1, t1⟩ := takeM_ok h (h.ev x) m1
      obtain ⟨e2, v2⟩ := demote_ok (s := { s with heap := H1 }) r1 (t1 (h.ev y)) m2
      exact other (by simp [execOp, resolve, invoke, builtin]) (opAppend_ok (s := { s with heap := H2 }) (ty' := type) hT e2.rel (fixZ_ok ty (e2.avr v1)) (fixZ_ok ty v2) hm)
    · split at hm
      case h_2 => cases hm
      rename_i x y ha
      obtain rfl : args = #[x, y] := Array.ext' (by simpa using ha)
      obtain ⟨av', hm, he⟩ := Option.map_eq_some_iff.1 hm
      unfold opMax at hm
      split at hm
      case h_2 => cases hm
      rename_i k1 n1 k2 n2 e1 e2
      cases hm
      have hx := h.ev x
      have hy := h.ev y
      rw [e1] at hx
      rw [e2] at hy
      refine same (c := Builtin.max_ argTypes type #[a.eval x, a.eval y]) (by simp [execOp, resolve, invoke, builtin]) ⟨.int k1 (max n1 n2), ?_, .sc rfl (.i _ _)⟩ he
      rw [hx.inv_int, hy.inv_int]
      exact run_max_i w _ _ _ _ _ _
    · split at hm
      case h_2 => cases hm
      rename_i x y ha
      obtain rfl : args = #[x, y] := Array.ext' (by simpa using ha)
      obtain ⟨av', hm, he⟩ := Option.map_eq_some_iff.1 hm
      unfold opMin at hm
      split at hm
      case h_2 => cases hm
      rename_i k1 n1 k2 n2 e1 e2
      cases hm
      have hx := h.ev x
      have hy := h.ev y
      rw [e1] at hx
      rw [e2] at hy
      refine same (c := Builtin.min_ argTypes type #[a.eval x, a.eval y]) (by simp [execOp, resolve, invoke, builtin]) ⟨.int k1 (min n1 n2), ?_, .sc rfl (.i _ _)⟩ he
      rw [hx.inv_int, hy.inv_int]
      exact run_min_i w _ _ _ _ _ _
    · cases hm
end rel
end Go.Fs
namespace Go.Fs
open Go.RowKit

inductive In where
  | d (x : D)
  | io (x : D)


def Flat (v : Value) : Prop := ∀ u ∈ v.cells.toList, u.oneCell' = true

inductive ArgsR (w : World) : List Value → List In → List Nat → List Nat → Prop
  | nil : ArgsR w [] [] [] []
  | d (v : Value) (x : D) (S : List Nat) (vs : List Value) (ins : List In) (Sd M : List Nat) (h : Tr w false v x S) (hf : Flat v) (hs : ArgsR w vs ins Sd M) : ArgsR w (v :: vs) (.d x :: ins) (S ++ Sd) M
  | io (v : Value) (x : D) (S : List Nat) (vs : List Value) (ins : List In) (Sd M : List Nat) (h : Tr w true v x S) (hf : Flat v) (hs : ArgsR w vs ins Sd M) : ArgsR w (v :: vs) (.io x :: ins) Sd (S ++ M)

/-- What is left of what was handed over, as the first argument. -/
def IoR (w : World) (args : List Value) (io : Option D) (S : List Nat) : Prop :=
  match io with
  | none => S = []
  | some x => ∃ v vs, args = v :: vs ∧ Tr w true v x S

/-- What a function gives; 'deep': of one's own; 'io': what its first argument has become. -/
structure Ret where
  ret : D
  deep : Bool := true
  io : Option D := none

/-- Every part of a result has one cell. -/
def RetFlat (v : Value) : Prop := Flat v ∨ ∃ vs, v = .tuple vs ∧ ∀ u ∈ vs.toList, Flat u

structure Post (w : World) (args : List Value) (Sd M : List Nat) (out : Ret) (v : Value) (w' : World) : Prop where
  rest : Rest w w'
  keep : ∀ b, b < w.heap.size → b ∉ M → w'.heap[b]? = w.heap[b]?
  res : ∃ S Si, Tr w' out.deep v out.ret S ∧ RetFlat v ∧ IoR w' args out.io Si ∧ Si.Nodup ∧ (∀ b ∈ Si, w.heap.size ≤ b ∨ b ∈ M) ∧ (∀ b ∈ S, b ∉ Si) ∧
    (out.deep = true → S.Nodup ∧ ∀ b ∈ S, w.heap.size ≤ b ∨ b ∈ M) ∧ ∀ b ∈ S, w.heap.size ≤ b ∨ b ∈ Sd ∨ b ∈ M ∨ b < nG

/-- A call of a function comes to an end and gives this. -/
def Does (P : Program) (f : FuncId) (args : Array Value) (w : World) (R : Value → World → Prop) : Prop :=
  ((callFunc f args).run P w = .ok (.enter f args) w ∧ Calls P f args w fun | .returned v, w' => R v w' | _, _ => False) ∨
  ∃ v w', (callFunc f args).run P w = .ok (.value v) w' ∧ R v w'

def FnOK (P : Program) (f : FuncId) (ins : List In) (out : Ret) : Prop :=
  ∀ (w : World) (args : List Value) (Sd M : List Nat), KnW w (· ∈ M) → ArgsR w args ins Sd M → M.Nodup → (∀ b ∈ M, b ∉ Sd) → Does P f args.toArray w (Post w args Sd M out)

def cellsD : D → List D
  | .g ds => ds
  | d => [d]
def partsD : D → List D
  | .t vs => vs.flatMap cellsD
  | d => cellsD d
def oneAV (d : D) (avs : List AV) : AV :=
  match d with
  | .g ds => .g (avs.take ds.length)
  | _ => avs.headD .x
def tupAV : List D → List AV → List AV
  | [], _ => []
  | d :: ds, avs => oneAV d avs :: tupAV ds (avs.drop (cellsD d).length)
/-- A result, out of its cells. -/
def retAV (d : D) (avs : List AV) : AV :=
  match d with
  | .t vs => .t (tupAV vs avs)
  | d => oneAV d avs

/-- The cells of a datum of one's own: lists get keys of their own. -/
def adCells : Nat → List D → List AV
  | _, [] => []
  | k, .l _ _ :: ds => .r k :: adCells (k + 1) ds
  | k, d :: ds => .d d :: adCells (k + 1) ds
def adObs : Nat → List D → List (Nat × Ob)
  | _, [] => []
  | k, .l sz xs :: ds => (k, .row sz xs true false 0) :: adObs (k + 1) ds
  | k, _ :: ds => adObs (k + 1) ds

/-- Objects that take the place of others. -/
def ovr (L : List (Nat × Ob)) (H : Nat → Option Ob) : Nat → Option Ob := fun k => match L.lookup k with | some o => some o | none => H k
def ovG (L : List (Nat × GI)) (G : Nat → GI) : Nat → GI := fun k => match L.lookup k with | some g => g | none => G k

section rel
variable {P : Program} {T : Tab} {B : Ctx} {G : Nat → GI} {s : St} {a : Act} {w w' : World}

theorem lookup_mem {α : Type} {L : List (Nat × α)} {k : Nat} {x : α} (h : L.lookup k = some x) : (k, x) ∈ L := by
  induction L with
  | nil => simp at h
  | cons y L ih =>
    rw [List.lookup_cons] at h
    by_cases e : k == y.1
    · simp [e] at h
      have : k = y.1 := by simpa using e
      subst this; subst h
      simp
    · simp [e] at h
      simp [ih h]

theorem lookup_of_mem {α : Type} {L : List (Nat × α)} (hn : (L.map (·.1)).Nodup) {k : Nat} {x : α} (h : (k, x) ∈ L) : L.lookup k = some x := by
  induction L with
  | nil => simp at h
  | cons y L ih =>
    rw [List.lookup_cons]
    simp only [List.map_cons, List.nodup_cons] at hn
    rcases List.mem_cons.1 h with rfl | h
    · simp
    · have hne : (k == y.1) = false := by
        simp only [beq_eq_false_iff_ne, ne_eq]
        rintro rfl
        exact hn.1 (List.mem_map.2 ⟨_, h, rfl⟩)
      rw [hne]
      exact ih hn.2 h

theorem lookup_none {α : Type} {L : List (Nat × α)} {k : Nat} (h : k ∉ L.map (·.1)) : L.lookup k = none := by
  cases e : L.lookup k with
  | none => rfl
  | some x => exact absurd (List.mem_map.2 ⟨_, lookup_mem e, rfl⟩) h

/-- New objects, and such as have turned. -/
theorem RelG.steps (h : RelG B G s a w) (L : List (Nat × GI × Ob)) (hk : (L.map (·.1)).Nodup) (hr : Rest w w')
    (hw : ∀ b, b < w.heap.size → (∀ x ∈ L, b ∉ ownOf (G x.1) (s.heap x.1)) → w'.heap[b]? = w.heap[b]?)
    (hT : ∀ x ∈ L, ∀ o, s.heap x.1 = some o → Ob.to (G x.1) x.2.1 o x.2.2)
    (hsub : ∀ x ∈ L, ∀ b ∈ ownOf x.2.1 (some x.2.2), (∃ y ∈ L, b ∈ ownOf (G y.1) (s.heap y.1)) ∨ w.heap.size ≤ b)
    (hnd : ∀ x ∈ L, (ownOf x.2.1 (some x.2.2)).Nodup) (hdis : ∀ x ∈ L, ∀ y ∈ L, ∀ b, b ∈ ownOf x.2.1 (some x.2.2) → b ∈ ownOf y.2.1 (some y.2.2) → x.1 = y.1)
    (hobj : ∀ x ∈ L, ObR w' (ovG (L.map fun x => (x.1, x.2.1)) G) (ovr (L.map fun x => (x.1, x.2.2)) s.heap) (Ban B.F (ovG (L.map fun x => (x.1, x.2.1)) G) (ovr (L.map fun x => (x.1, x.2.2)) s.heap)) x.2.1 x.2.2) :
    RelG B (ovG (L.map fun x => (x.1, x.2.1)) G) { s with heap := ovr (L.map fun x => (x.1, x.2.2)) s.heap } a w' ∧
      ∀ {v : Value} {av : AV}, AVR w G s.heap (Ban B.F G s.heap) v av → AVR w' (ovG (L.map fun x => (x.1, x.2.1)) G) (ovr (L.map fun x => (x.1, x.2.2)) s.heap) (Ban B.F (ovG (L.map fun x => (x.1, x.2.1)) G) (ovr (L.map fun x => (x.1, x.2.2)) s.heap)) v av := by
  have hk1 : ((L.map fun x => (x.1, x.2.1)).map (·.1)).Nodup := by rw [List.map_map]; exact hk
  have hk2 : ((L.map fun x => (x.1, x.2.2)).map (·.1)).Nodup := by rw [List.map_map]; exact hk
  have inG : ∀ x ∈ L, ovG (L.map fun x => (x.1, x.2.1)) G x.1 = x.2.1 := fun x hx => by
    simp only [ovG, lookup_of_mem hk1 (List.mem_map.2 ⟨x, hx, rfl⟩)]
  have inH : ∀ x ∈ L, ovr (L.map fun x => (x.1, x.2.2)) s.heap x.1 = some x.2.2 := fun x hx => by
    simp only [ovr, lookup_of_mem hk2 (List.mem_map.2 ⟨x, hx, rfl⟩)]
  have outG : ∀ k, k ∉ L.map (·.1) → ovG (L.map fun x => (x.1, x.2.1)) G k = G k := fun k hn => by
    simp only [ovG]; rw [lookup_none (by rw [List.map_map]; exact hn)]
  have outH : ∀ k, k ∉ L.map (·.1) → ovr (L.map fun x => (x.1, x.2.2)) s.heap k = s.heap k := fun k hn => by
    simp only [ovr]; rw [lookup_none (by rw [List.map_map]; exact hn)]
  have mem : ∀ k, k ∈ L.map (·.1) → ∃ x ∈ L, x.1 = k := fun k hm => by simpa using hm
  have hto : ∀ k o, s.heap k = some o → ∃ o', ovr (L.map fun x => (x.1, x.2.2)) s.heap k = some o' ∧ Ob.to (G k) (ovG (L.map fun x => (x.1, x.2.1)) G k) o o' := by
    intro k o ho
    by_cases hm : k ∈ L.map (·.1)
    · obtain ⟨x, hx, rfl⟩ := mem k hm
      exact ⟨_, inH x hx, by rw [inG x hx]; exact hT x hx o ho⟩
    · exact ⟨o, by rw [outH k hm]; exact ho, by rw [outG k hm]; exact .refl _ _⟩
  have hban : ∀ b, b < w.heap.size → Ban B.F (ovG (L.map fun x => (x.1, x.2.1)) G) (ovr (L.map fun x => (x.1, x.2.2)) s.heap) b → Ban B.F G s.heap b := by
    rintro b hb (⟨k, hm⟩ | hf)
    case inr => exact .inr hf
    by_cases hkm : k ∈ L.map (·.1)
    · obtain ⟨x, hx, rfl⟩ := mem k hkm
      rw [inG x hx, inH x hx] at hm
      rcases hsub x hx b hm with ⟨y, _, hy⟩ | hge
      · exact .inl ⟨y.1, hy⟩
      · omega
    · rw [outG k hkm, outH k hkm] at hm
      exact .inl ⟨k, hm⟩
  refine ⟨?_, fun hv => (AVR.mono_both (fun b hb hn => hw b hb fun x _ hm => hn (.inl ⟨x.1, hm⟩)) hban hto).1 hv⟩
  refine h.step (w' := w') (G' := ovG (L.map fun x => (x.1, x.2.1)) G) _ (fun k => k ∈ L.map (·.1)) hr ?_ (fun k hn => ⟨outH k hn, outG k hn⟩) (fun k o _ ho => hto k o ho) ?_ ?_ ?_ ?_
  · intro b hb hn
    exact hw b hb fun x hx => hn x.1 (List.mem_map.2 ⟨x, hx, rfl⟩)
  · intro k hkm b hb
    obtain ⟨x, hx, rfl⟩ := mem k hkm
    rw [inG x hx, inH x hx] at hb
    rcases hsub x hx b hb with ⟨y, hy, hm⟩ | hge
    · exact .inl ⟨y.1, List.mem_map.2 ⟨y, hy, rfl⟩, hm⟩
    · exact .inr hge
  · intro k hkm
    obtain ⟨x, hx, rfl⟩ := mem k hkm
    rw [inG x hx, inH x hx]
    exact hnd x hx
  · intro k k' hkm hkm' b hb hb'
    obtain ⟨x, hx, rfl⟩ := mem k hkm
    obtain ⟨y, hy, rfl⟩ := mem k' hkm'
    rw [inG x hx, inH x hx] at hb
    rw [inG y hy, inH y hy] at hb'
    exact hdis x hx y hy b hb hb'
  · intro k o hkm ho
    obtain ⟨x, hx, rfl⟩ := mem k hkm
    rw [inH x hx] at ho
    cases ho
    rw [inG x hx]
    exact hobj x hx

/-- A row out of a list of one's own. -/
theorem deepRow (b0 o0 : Nat) {v : Value} {sz : Nat} {xs : List (List D)} {S : List Nat} (h : Tr w true v (.l sz xs) S) (hn : S.Nodup) :
    ∃ gi ad, (∀ Av, RowR w Av gi sz xs true false) ∧ v = .slice ad xs.length gi.cap ∧ (0 < gi.cap → ad = some ⟨gi.blk, gi.off, none⟩) ∧ (gi.cap = 0 → gi.blk = b0 ∧ gi.off = o0) ∧
      (∀ ve, ∀ b ∈ ownOf gi (some (.row sz xs true false ve)), b ∈ S) ∧ ∀ ve, (ownOf gi (some (.row sz xs true false ve))).Nodup := by
  cases h with
  | z ad c _ ho =>
    obtain rfl := ho rfl
    exact ⟨{ blk := b0, off := o0, cap := 0, vs := [], sub := [] }, ad, fun Av => RowR.mkVoid .., rfl, fun h => absurd h (Nat.lt_irrefl 0), fun _ => ⟨rfl, rfl⟩, by simp [ownOf], by simp [ownOf]⟩
  | l g o c _ cur e fr vs _ S2 hg hc hm hl hv h1 hx ho hs =>
    obtain ⟨rfl, hcap⟩ := ho rfl
    obtain ⟨n1, n2⟩ := List.nodup_cons.1 hn
    by_cases hc0 : c = 0
    · subst hc0
      obtain rfl : xs = [] := List.eq_nil_of_length_eq_zero (by omega)
      exact ⟨{ blk := b0, off := o0, cap := 0, vs := [], sub := [] }, _, fun Av => RowR.mkVoid .., rfl, fun h => absurd h (Nat.lt_irrefl 0), fun _ => ⟨rfl, rfl⟩, by simp [ownOf], by simp [ownOf]⟩
    exact ⟨{ blk := g, off := o, cap := c, vs := vs, sub := S2 }, _, fun Av => ⟨fun _ => ⟨cur, e, hg, hcap, hv⟩, hc, hm, hl, h1, hx, hs, fun _ => n2, by simp, by simp⟩, rfl, fun _ => rfl, fun h => absurd h hc0,
      fun ve b hb => by
        rcases (mem_ownRow hb).2 with rfl | ⟨_, hb⟩
        · simp
        · simp [hb], fun ve => nodup_ownRow fun _ => ⟨n1, n2⟩⟩

/-- Entries that are rows of one's own, out of these blocks. -/
structure Ents (w : World) (S : List Nat) (L : List (Nat × GI × Ob)) : Prop where
  keys : (L.map (·.1)).Nodup
  row : ∀ x ∈ L, ∃ sz xs ve, x.2.2 = .row sz xs true false ve ∧ ∀ Av, RowR w Av x.2.1 sz xs true false
  sub : ∀ x ∈ L, ∀ b ∈ ownOf x.2.1 (some x.2.2), b ∈ S
  nd : ∀ x ∈ L, (ownOf x.2.1 (some x.2.2)).Nodup
  dis : ∀ x ∈ L, ∀ y ∈ L, ∀ b, b ∈ ownOf x.2.1 (some x.2.2) → b ∈ ownOf y.2.1 (some y.2.2) → x.1 = y.1

theorem Ents.cons {S S' : List Nat} {L : List (Nat × GI × Ob)} (h : Ents w S' L) {k : Nat} {gi : GI} {sz : Nat} {xs : List (List D)} {ve : Nat} (hk : k ∉ L.map (·.1)) (hr : ∀ Av, RowR w Av gi sz xs true false)
    (hs : ∀ b ∈ ownOf gi (some (.row sz xs true false ve)), b ∈ S) (hn : (ownOf gi (some (.row sz xs true false ve))).Nodup) (hd : ∀ b ∈ S, b ∉ S') : Ents w (S ++ S') ((k, gi, .row sz xs true false ve) :: L) := by
  refine ⟨?_, ?_, ?_, ?_, ?_⟩
  · simp only [List.map_cons]; exact List.nodup_cons.2 ⟨hk, h.keys⟩
  · intro x hx
    rcases List.mem_cons.1 hx with rfl | hx
    · exact ⟨sz, xs, ve, rfl, hr⟩
    · exact h.row x hx
  · intro x hx b hb
    rcases List.mem_cons.1 hx with rfl | hx
    · exact List.mem_append.2 (.inl (hs b hb))
    · exact List.mem_append.2 (.inr (h.sub x hx b hb))
  · intro x hx
    rcases List.mem_cons.1 hx with rfl | hx
    · exact hn
    · exact h.nd x hx
  · intro x hx y hy b hb hb'
    rcases List.mem_cons.1 hx with rfl | hx <;> rcases List.mem_cons.1 hy with rfl | hy
    · rfl
    · exact absurd (h.sub y hy b hb') (hd b (hs b hb))
    · exact absurd (h.sub x hx b hb) (hd b (hs b hb'))
    · exact h.dis x hx y hy b hb hb'

theorem Ents.mono {S S' : List Nat} {L : List (Nat × GI × Ob)} (h : Ents w S L) (hs : ∀ b ∈ S, b ∈ S') : Ents w S' L :=
  ⟨h.keys, h.row, fun x hx b hb => hs b (h.sub x hx b hb), h.nd, h.dis⟩

theorem Ents.append {S S' : List Nat} {L L' : List (Nat × GI × Ob)} (h : Ents w S L) (h' : Ents w S' L') (hk : ∀ x ∈ L, ∀ y ∈ L', x.1 ≠ y.1) (hd : ∀ b ∈ S, b ∉ S') : Ents w (S ++ S') (L ++ L') := by
  refine ⟨?_, ?_, ?_, ?_, ?_⟩
  · rw [List.map_append]
    refine List.nodup_append.2 ⟨h.keys, h'.keys, fun a ha b hb e => ?_⟩
    obtain ⟨x, hx, rfl⟩ := List.mem_map.1 ha
    obtain ⟨y, hy, rfl⟩ := List.mem_map.1 hb
    exact hk x hx y hy e
  · intro x hx
    rcases List.mem_append.1 hx with hx | hx
    · exact h.row x hx
    · exact h'.row x hx
  · intro x hx b hb
    rcases List.mem_append.1 hx with hx | hx
    · exact List.mem_append.2 (.inl (h.sub x hx b hb))
    · exact List.mem_append.2 (.inr (h'.sub x hx b hb))
  · intro x hx
    rcases List.mem_append.1 hx with hx | hx
    · exact h.nd x hx
    · exact h'.nd x hx
  · intro x hx y hy b hb hb'
    rcases List.mem_append.1 hx with hx | hx <;> rcases List.mem_append.1 hy with hy | hy
    · exact h.dis x hx y hy b hb hb'
    · exact absurd (h'.sub y hy b hb') (hd b (h.sub x hx b hb))
    · exact absurd (h'.sub x hx b hb) (hd b (h.sub y hy b hb'))
    · exact h'.dis x hx y hy b hb hb'

theorem Ents.nil (S : List Nat) : Ents w S [] := ⟨List.nodup_nil, by simp, by simp, by simp, by simp⟩

/-- The entries of what a call has given. -/
theorem adEnts : ∀ {vs : List Value} {ds : List D} {S : List Nat} (h : TrL w true vs ds S), S.Nodup → (∀ v ∈ vs, v.oneCell' = true) → ∀ k, ∃ L : List (Nat × GI × Ob),
    L.map (fun x => (x.1, x.2.2)) = adObs k ds ∧ (∀ x ∈ L, k ≤ x.1) ∧ Ents w S L ∧
    ∀ (G' : Nat → GI) (H' : Nat → Option Ob) (Av : Nat → Prop), (∀ x ∈ L, G' x.1 = x.2.1 ∧ H' x.1 = some x.2.2) → (∀ b ∈ S, Av b → ∃ x ∈ L, b ∈ ownOf x.2.1 (some x.2.2)) → AVRL w G' H' Av vs (adCells k ds)
  | _, _, _, .nil, _, _, k => ⟨[], rfl, by simp, .nil _, fun _ _ _ _ _ => .nil⟩
  | _, _, _, .cons v d S vs ds Ss h hs, hn, h1, k => by
    obtain ⟨n1, n2, n3⟩ := List.nodup_append.1 hn
    obtain ⟨L, e1, e2, e3, e4⟩ := adEnts hs n2 (fun u hu => h1 u (by simp [hu])) (k + 1)
    have other : (∀ sz xs, d ≠ .l sz xs) → adObs k (d :: ds) = adObs (k + 1) ds ∧ adCells k (d :: ds) = .d d :: adCells (k + 1) ds := by
      intro hd
      cases d <;> first | exact ⟨rfl, rfl⟩ | exact absurd rfl (hd _ _)
    by_cases hd : ∃ sz xs, d = .l sz xs
    · obtain ⟨sz, xs, rfl⟩ := hd
      obtain ⟨gi, ad, r1, r2, r3, _, r4, r5⟩ := deepRow 0 0 h n1
      refine ⟨(k, gi, .row sz xs true false 0) :: L, by simp [adObs, e1], ?_, e3.cons (fun hm => ?_) r1 (r4 0) (r5 0) (fun b hb hb' => n3 b hb b hb' rfl), ?_⟩
      · intro x hx
        rcases List.mem_cons.1 hx with rfl | hx
        · exact Nat.le_refl _
        · have := e2 x hx; omega
      · obtain ⟨x, hx, rfl⟩ := List.mem_map.1 hm
        have := e2 x hx
        omega
      · intro G' H' Av hL hAv
        obtain ⟨g1, g2⟩ := hL (k, gi, .row sz xs true false 0) (by simp)
        have g1 : G' k = gi := g1
        have g2 : H' k = some (.row sz xs true false 0) := g2
        refine .cons _ _ _ _ ?_ (e4 G' H' Av (fun x hx => hL x (by simp [hx])) fun b hb ha => ?_)
        · subst r2
          have := AVR.r (w := w) (G := G') (H := H') (Av := Av) k sz xs true false 0 ad g2 (by rw [g1]; exact r3)
          rw [g1] at this
          exact this
        · obtain ⟨x, hx, hm⟩ := hAv b (by simp [hb]) ha
          rcases List.mem_cons.1 hx with rfl | hx
          · exact absurd rfl (n3 b (r4 0 b hm) b hb)
          · exact ⟨x, hx, hm⟩
    · obtain ⟨o1, o2⟩ := other fun sz xs e => hd ⟨sz, xs, e⟩
      refine ⟨L, by rw [o1, e1], fun x hx => by have := e2 x hx; omega, e3.mono fun b hb => by simp [hb], ?_⟩
      intro G' H' Av hL hAv
      rw [o2]
      refine .cons _ _ _ _ (.d v d S (h1 v (by simp)) h.shared fun b hb ha => ?_) (e4 G' H' Av hL fun b hb ha => hAv b (by simp [hb]) ha)
      obtain ⟨x, hx, hm⟩ := hAv b (by simp [hb]) ha
      exact n3 b hb b (e3.sub x hx b hm) rfl
end rel
end Go.Fs
namespace Go.Fs
open Go.RowKit

def borC (H : Nat → Option Ob) : AV → Option D
  | .d x => some x
  | .z sz => some (.l sz [])
  | .r k => match H k with
    | some (.row sz xs _ _ _) => some (.l sz xs)
    | _ => none
  | .m k ve i o => match H k with
    | some (.row sz xs _ _ ve') => if ve = ve' ∧ i < xs.length ∧ o < sz then some ((xs.getD i []).getD o .u) else none
    | _ => none
  | _ => none
def borCs (H : Nat → Option Ob) : List AV → Option (List D)
  | [] => some []
  | av :: avs => (borC H av).bind fun x => (borCs H avs).map (x :: ·)
/-- A variable that a function holds, or a value. -/
def borB (H : Nat → Option Ob) : AV → Option D
  | .a k 0 => match H k with
    | some (.box cs) => (borCs H cs).map .p
    | _ => none
  | av => borC H av
def borBs (H : Nat → Option Ob) : List AV → Option (List D)
  | [] => some []
  | av :: avs => (borB H av).bind fun x => (borBs H avs).map (x :: ·)
/-- What is lent to a callee. -/
def bor (H : Nat → Option Ob) : AV → Option D
  | .g cs => (borCs H cs).map .g
  | .f fn caps => (borBs H caps).map (.f fn)
  | av => borB H av
def borL (H : Nat → Option Ob) : List AV → Option (List D)
  | [] => some []
  | av :: avs => (bor H av).bind fun x => (borL H avs).map (x :: ·)

/-- The keys that a value comes to. -/
def keyC (H : Nat → Option Ob) : AV → List Nat
  | .r k => [k]
  | .m k _ _ _ => [k]
  | _ => []
def keyB (H : Nat → Option Ob) : AV → List Nat
  | .a k _ => match H k with
    | some (.box cs) => k :: cs.flatMap (keyC H)
    | _ => [k]
  | av => keyC H av
def keyA (H : Nat → Option Ob) : AV → List Nat
  | .g cs => cs.flatMap (keyC H)
  | .f _ caps => caps.flatMap (keyB H)
  | av => keyB H av

/-- Lists of one's own, handed over to be written. -/
def ioCs (H : Nat → Option Ob) : List AV → Option (List D × List Nat)
  | [] => some ([], [])
  | .r k :: avs => match H k with
    | some (.row sz xs true false _) => (ioCs H avs).map fun y => (.l sz xs :: y.1, k :: y.2)
    | _ => none
  | .d x :: avs => if scal x then (ioCs H avs).map fun y => (x :: y.1, y.2) else none
  | .z sz :: avs => (ioCs H avs).map fun y => (.l sz [] :: y.1, y.2)
  | _ => none
def ioObs (H : Nat → Option Ob) : List AV → List D → Option (List (Nat × Ob))
  | [], [] => some []
  | .r k :: avs, .l sz' xs' :: ds => match H k with
    | some (.row sz xs true false ve) => if sz' = sz then (ioObs H avs ds).map ((k, .row sz xs' true false (ve + 1)) :: ·) else none
    | _ => none
  | .d x :: avs, d :: ds => ioObs H avs ds
  | _, _ => none

section rel
variable {P : Program} {T : Tab} {B : Ctx} {G : Nat → GI} {s : St} {a : Act} {w w' : World}

/-- Blocks that may be lent: none that is barred from outside, and of one's own only those of these keys. -/
def Lent (B : Ctx) (G : Nat → GI) (H : Nat → Option Ob) (ks : List Nat) (S : List Nat) : Prop := ∀ b ∈ S, ¬ B.F b ∧ ∀ k, b ∈ ownOf (G k) (H k) → k ∈ ks

theorem Lent.append {H : Nat → Option Ob} {ks ks' S S' : List Nat} (h : Lent B G H ks S) (h' : Lent B G H ks' S') : Lent B G H (ks ++ ks') (S ++ S') := by
  intro b hb
  rcases List.mem_append.1 hb with hb | hb
  · exact ⟨(h b hb).1, fun k hk => List.mem_append.2 (.inl ((h b hb).2 k hk))⟩
  · exact ⟨(h' b hb).1, fun k hk => List.mem_append.2 (.inr ((h' b hb).2 k hk))⟩
theorem Lent.of {H : Nat → Option Ob} {ks S : List Nat} (h : ∀ b ∈ S, ¬ Ban B.F G H b) : Lent B G H ks S := fun b hb => ⟨fun hf => h b hb (.inr hf), fun k hk => absurd (.inl ⟨k, hk⟩) (h b hb)⟩

theorem borC_ok (h : RelG B G s a w) {v : Value} {av : AV} (hv : AVR w G s.heap (Ban B.F G s.heap) v av) {x : D} (hb : borC s.heap av = some x) :
    ∃ S, Tr w false v x S ∧ v.oneCell' = true ∧ Lent B G s.heap (keyC s.heap av) S := by
  have own : ∀ {k b : Nat}, b ∈ ownOf (G k) (s.heap k) → ¬ B.F b ∧ ∀ k', b ∈ ownOf (G k') (s.heap k') → k' ∈ [k] := fun {k b} hb => ⟨h.noF hb, fun k' hk' => by rw [h.disj k' k b hk' hb]; simp⟩
  cases hv with
  | d v x S h1 ht hS =>
    simp only [borC, Option.some.injEq] at hb
    subst hb
    exact ⟨S, ht, h1, .of hS⟩
  | z sz =>
    simp only [borC, Option.some.injEq] at hb
    subst hb
    exact ⟨[], .z _ _ _ (by simp), rfl, .of (by simp)⟩
  | r k sz xs dp fz ve ad hk ha =>
    simp only [borC, hk, Option.some.injEq] at hb
    subst hb
    have hR : RowR w (Ban B.F G s.heap) (G k) sz xs dp fz := h.obj k _ hk
    obtain ⟨S, t1, t2, _⟩ := hR.whole ha
    refine ⟨S, t1.shared, rfl, fun b hb => ?_⟩
    obtain ⟨hc, hb⟩ := t2 b hb
    have free : ¬ Ban B.F G s.heap b → ¬ B.F b ∧ ∀ k', b ∈ ownOf (G k') (s.heap k') → k' ∈ [k] := fun hn => ⟨fun hf => hn (.inr hf), fun k' hk' => absurd (.inl ⟨k', hk'⟩) hn⟩
    cases fz with
    | true =>
      rcases List.mem_cons.1 hb with rfl | hb
      · exact free (hR.frz rfl (by omega))
      · exact free (hR.sub (.inr rfl) b hb)
    | false =>
      rcases List.mem_cons.1 hb with rfl | hb
      · exact own (by rw [hk]; simp [ownOf, hc])
      · cases dp with
        | true => exact own (by rw [hk]; simp [ownOf, hc, hb])
        | false => exact free (hR.sub (.inl rfl) b hb)
  | m k i o sz xs dp fz ve v z ys hk hj hvj h1 =>
    simp only [borC, hk] at hb
    split at hb
    case isFalse => cases hb
    rename_i hc
    simp only [Option.some.injEq] at hb
    subst hb
    have hR : RowR w (Ban B.F G s.heap) (G k) sz xs dp fz := h.obj k _ hk
    obtain ⟨x, hx⟩ : ∃ x, xs[i]? = some x := ⟨_, List.getElem?_eq_getElem hc.2.1⟩
    have hgd : xs.getD i [] = x := by rw [List.getD_eq_getElem?_getD, hx]; rfl
    have hfx := flat_get hR.uni hx hc.2.2
    rw [hfx] at hj
    have hgo : x.getD o .u = .l z ys := by rw [List.getD_eq_getElem?_getD, hj]; rfl
    rw [hgd, hgo]
    obtain ⟨u, S1, hu, ht, hS, _⟩ := hR.tr.get (hfx.trans hj)
    rw [hvj] at hu
    cases hu
    refine ⟨S1, ht.shared, h1, fun b hb => ?_⟩
    have hb := hS b hb
    have hc0 : (G k).cap ≠ 0 := fun hc => by rw [(hR.void hc).2.2] at hb; simp at hb
    have free : ¬ Ban B.F G s.heap b → ¬ B.F b ∧ ∀ k', b ∈ ownOf (G k') (s.heap k') → k' ∈ [k] := fun hn => ⟨fun hf => hn (.inr hf), fun k' hk' => absurd (.inl ⟨k', hk'⟩) hn⟩
    cases fz with
    | true => exact free (hR.sub (.inr rfl) b hb)
    | false =>
      cases dp with
      | true => exact own (by rw [hk]; simp [ownOf, hc0, hb])
      | false => exact free (hR.sub (.inl rfl) b hb)
  | mo k i o sz xs dp fz ve ve' v hk hlt =>
    simp only [borC, hk] at hb
    split at hb
    · rename_i hc; omega
    · cases hb
  | rd k v hk => simp [borC, hk] at hb
  | md k ve i o v hk => simp [borC, hk] at hb
  | _ => simp [borC] at hb

theorem borCs_ok (h : RelG B G s a w) : ∀ {vs : List Value} {avs : List AV} (hv : AVRL w G s.heap (Ban B.F G s.heap) vs avs) {ds : List D} (hb : borCs s.heap avs = some ds),
    ∃ S, TrL w false vs ds S ∧ (∀ v ∈ vs, v.oneCell' = true) ∧ Lent B G s.heap (avs.flatMap (keyC s.heap)) S
  | _, _, .nil, ds, hb => by
    simp only [borCs, Option.some.injEq] at hb
    subst hb
    exact ⟨[], .nil, by simp, .of (by simp)⟩
  | _, _, .cons v av vs avs hv hvs, ds, hb => by
    simp only [borCs, Option.bind_eq_some_iff, Option.map_eq_some_iff] at hb
    obtain ⟨x, hx, ds', hd, rfl⟩ := hb
    obtain ⟨S, t, o, l⟩ := borC_ok h hv hx
    obtain ⟨S', t', o', l'⟩ := borCs_ok h hvs hd
    refine ⟨S ++ S', .cons _ _ _ _ _ _ t t', ?_, l.append l'⟩
    intro u hu
    rcases List.mem_cons.1 hu with rfl | hu
    · exact o
    · exact o' u hu

theorem borB_ok (h : RelG B G s a w) {v : Value} {av : AV} (hv : AVR w G s.heap (Ban B.F G s.heap) v av) {x : D} (hb : borB s.heap av = some x) :
    ∃ S, Tr w false v x S ∧ v.oneCell' = true ∧ Lent B G s.heap (keyB s.heap av) S := by
  unfold borB at hb
  split at hb
  · rename_i k
    split at hb
    case h_2 => cases hb
    rename_i cs hk
    simp only [Option.map_eq_some_iff] at hb
    obtain ⟨ds, hd, rfl⟩ := hb
    cases hv with
    | a _ _ cs' hk' =>
      obtain ⟨cur, e, hg, hr, h1⟩ := (h.obj k _ hk : BoxR w G s.heap _ (G k) cs).cells
      obtain ⟨S, t, _, l⟩ := borCs_ok h hr hd
      refine ⟨(G k).blk :: S, .p _ 0 cur e (0, 0) cur.toList ds S hg (fun j v hj => by simpa using hj) h1 (by simp) t, rfl, ?_⟩
      simp only [keyB, hk]
      have hown : (G k).blk ∈ ownOf (G k) (s.heap k) := by rw [hk]; simp [ownOf]
      exact Lent.append (ks := [k]) (S := [(G k).blk]) (fun b hb => by
        obtain rfl : b = (G k).blk := by simpa using hb
        exact ⟨h.noF hown, fun k' hk' => by rw [h.disj k' k _ hk' hown]; simp⟩) l
    | ad _ _ _ hk' => rw [hk] at hk'; cases hk'
  · have := borC_ok h hv hb
    obtain ⟨S, t, o, l⟩ := this
    refine ⟨S, t, o, ?_⟩
    unfold keyB
    split
    · simp [borC] at hb
    · exact l

theorem borBs_ok (h : RelG B G s a w) : ∀ {vs : List Value} {avs : List AV} (hv : AVRL w G s.heap (Ban B.F G s.heap) vs avs) {ds : List D} (hb : borBs s.heap avs = some ds),
    ∃ S, TrL w false vs ds S ∧ (∀ v ∈ vs, v.oneCell' = true) ∧ Lent B G s.heap (avs.flatMap (keyB s.heap)) S
  | _, _, .nil, ds, hb => by
    simp only [borBs, Option.some.injEq] at hb
    subst hb
    exact ⟨[], .nil, by simp, .of (by simp)⟩
  | _, _, .cons v av vs avs hv hvs, ds, hb => by
    simp only [borBs, Option.bind_eq_some_iff, Option.map_eq_some_iff] at hb
    obtain ⟨x, hx, ds', hd, rfl⟩ := hb
    obtain ⟨S, t, o, l⟩ := borB_ok h hv hx
    obtain ⟨S', t', o', l'⟩ := borBs_ok h hvs hd
    refine ⟨S ++ S', .cons _ _ _ _ _ _ t t', ?_, l.append l'⟩
    intro u hu
    rcases List.mem_cons.1 hu with rfl | hu
    · exact o
    · exact o' u hu

theorem flat_one {v : Value} (h : v.oneCell' = true) : Flat v := by
  intro u hu
  have hc : v.cells = #[v] := by cases v <;> simp_all [Value.cells, Value.oneCell']
  rw [hc] at hu
  obtain rfl : u = v := by simpa using hu
  exact h

theorem bor_ok (h : RelG B G s a w) {v : Value} {av : AV} (hv : AVR w G s.heap (Ban B.F G s.heap) v av) {x : D} (hb : bor s.heap av = some x) :
    ∃ S, Tr w false v x S ∧ Flat v ∧ Lent B G s.heap (keyA s.heap av) S := by
  unfold bor at hb
  split at hb
  · simp only [Option.map_eq_some_iff] at hb
    obtain ⟨ds, hd, rfl⟩ := hb
    cases hv with
    | g cs _ hcs =>
      obtain ⟨S, t, o, l⟩ := borCs_ok h hcs hd
      exact ⟨S, .g _ _ _ t, o, l⟩
  · simp only [Option.map_eq_some_iff] at hb
    obtain ⟨ds, hd, rfl⟩ := hb
    cases hv with
    | f fn cs _ hcs =>
      obtain ⟨S, t, o, l⟩ := borBs_ok h hcs hd
      exact ⟨S, .f _ _ _ _ t, flat_one rfl, l⟩
  · obtain ⟨S, t, o, l⟩ := borB_ok h hv hb
    refine ⟨S, t, flat_one o, ?_⟩
    unfold keyA
    split
    · simp [borB, borC] at hb
    · simp [borB, borC] at hb
    · exact l

theorem borL_ok (h : RelG B G s a w) : ∀ {vs : List Value} {avs : List AV} (hv : AVRL w G s.heap (Ban B.F G s.heap) vs avs) {ds : List D} (hb : borL s.heap avs = some ds),
    ∃ S, ArgsR w vs (ds.map .d) S [] ∧ Lent B G s.heap (avs.flatMap (keyA s.heap)) S
  | _, _, .nil, ds, hb => by
    simp only [borL, Option.some.injEq] at hb
    subst hb
    exact ⟨[], .nil, .of (by simp)⟩
  | _, _, .cons v av vs avs hv hvs, ds, hb => by
    simp only [borL, Option.bind_eq_some_iff, Option.map_eq_some_iff] at hb
    obtain ⟨x, hx, ds', hd, rfl⟩ := hb
    obtain ⟨S, t, o, l⟩ := bor_ok h hv hx
    obtain ⟨S', t', l'⟩ := borL_ok h hvs hd
    exact ⟨S ++ S', .d _ _ _ _ _ _ _ t o t', l.append l'⟩

theorem ioCs_ok (h : RelG B G s a w) : ∀ {vs : List Value} {avs : List AV} (hv : AVRL w G s.heap (Ban B.F G s.heap) vs avs) {ds : List D} {ks : List Nat} (hb : ioCs s.heap avs = some (ds, ks)),
    ∃ S, TrL w true vs ds S ∧ (∀ v ∈ vs, v.oneCell' = true) ∧ (∀ b ∈ S, ∃ k ∈ ks, b ∈ ownOf (G k) (s.heap k)) ∧ (ks.Nodup → S.Nodup) ∧ ∀ k ∈ ks, s.heap k ≠ none
  | _, _, .nil, ds, ks, hb => by
    simp only [ioCs, Option.some.injEq, Prod.mk.injEq] at hb
    obtain ⟨rfl, rfl⟩ := hb
    exact ⟨[], .nil, by simp, by simp, fun _ => List.nodup_nil, by simp⟩
  | _, _, .cons v av vs avs hv hvs, ds, ks, hb => by
    cases av with
    | r k =>
      simp only [ioCs] at hb
      split at hb
      case h_2 => cases hb
      rename_i sz xs ve hk
      simp only [Option.map_eq_some_iff, Prod.mk.injEq] at hb
      obtain ⟨⟨ds', ks'⟩, hd, rfl, rfl⟩ := hb
      obtain ⟨S', t', o', w', n', k'⟩ := ioCs_ok h hvs hd
      cases hv with
      | r _ sz0 xs0 dp0 fz0 ve0 ad hk0 ha =>
        rw [hk] at hk0
        cases hk0
        have hR : RowR w (Ban B.F G s.heap) (G k) sz xs true false := h.obj k _ hk
        obtain ⟨S, t1, t2, t3⟩ := hR.whole ha
        have hin : ∀ b ∈ S, b ∈ ownOf (G k) (s.heap k) := fun b hb => by
          obtain ⟨hc, hb⟩ := t2 b hb
          rw [hk]
          simpa [ownOf, hc] using hb
        refine ⟨S ++ S', .cons _ _ _ _ _ _ t1 t', ?_, ?_, ?_, ?_⟩
        · intro u hu
          rcases List.mem_cons.1 hu with rfl | hu
          · rfl
          · exact o' u hu
        · intro b hb
          rcases List.mem_append.1 hb with hb | hb
          · exact ⟨k, by simp, hin b hb⟩
          · obtain ⟨i, hi, hm⟩ := w' b hb
            exact ⟨i, by simp [hi], hm⟩
        · intro hn
          obtain ⟨h1, h2⟩ := List.nodup_cons.1 hn
          refine List.nodup_append.2 ⟨?_, n' h2, ?_⟩
          · by_cases hc : (G k).cap = 0
            · have : S = [] := List.eq_nil_iff_forall_not_mem.2 fun b hb => (t2 b hb).1 hc
              rw [this]; exact List.nodup_nil
            · have hnd := h.nodup k
              rw [hk] at hnd
              simp only [ownOf, if_true, hc, if_false] at hnd
              exact t3 rfl (List.nodup_cons.1 hnd).1
          · intro b hb c hc e
            subst e
            obtain ⟨i, hi, hm⟩ := w' b hc
            have := h.disj i k b hm (hin b hb)
            subst this
            exact h1 hi
        · intro i hi
          rcases List.mem_cons.1 hi with rfl | hi
          · rw [hk]; simp
          · exact k' i hi
      | rd _ _ hk0 => rw [hk] at hk0; cases hk0
    | d x =>
      simp only [ioCs] at hb
      split at hb
      case isFalse => cases hb
      rename_i hsc
      simp only [Option.map_eq_some_iff, Prod.mk.injEq] at hb
      obtain ⟨⟨ds', ks'⟩, hd, rfl, rfl⟩ := hb
      obtain ⟨S', t', o', w', n', k'⟩ := ioCs_ok h hvs hd
      cases hv with
      | d _ _ S h1 ht hS =>
        obtain ⟨_, hany, _⟩ := scal_tr ht hsc
        refine ⟨[] ++ S', .cons _ _ _ _ _ _ (hany w true) t', ?_, by simpa using w', by simpa using n', k'⟩
        intro u hu
        rcases List.mem_cons.1 hu with rfl | hu
        · exact h1
        · exact o' u hu
    | z sz =>
      simp only [ioCs, Option.map_eq_some_iff, Prod.mk.injEq] at hb
      obtain ⟨⟨ds', ks'⟩, hd, rfl, rfl⟩ := hb
      obtain ⟨S', t', o', w', n', k'⟩ := ioCs_ok h hvs hd
      cases hv with
      | z =>
        refine ⟨[] ++ S', .cons _ _ _ _ _ _ (.z none 0 sz (fun _ => rfl)) t', ?_, by simpa using w', by simpa using n', k'⟩
        intro u hu
        rcases List.mem_cons.1 hu with rfl | hu
        · rfl
        · exact o' u hu
    | _ => simp [ioCs] at hb

/-- The entries of what was handed over and has been written. -/
theorem ioEnts (h : RelG B G s a w) : ∀ {vs : List Value} {avs : List AV} (hv : AVRL w G s.heap (Ban B.F G s.heap) vs avs) {ds : List D} {ks : List Nat} (hb : ioCs s.heap avs = some (ds, ks)) (hks : ks.Nodup)
    {ds' : List D} {S : List Nat} (ht : TrL w' true vs ds' S) (hn : S.Nodup) {os : List (Nat × Ob)} (ho : ioObs s.heap avs ds' = some os),
    ∃ L : List (Nat × GI × Ob), L.map (fun x => (x.1, x.2.2)) = os ∧ L.map (·.1) = ks ∧ Ents w' S L ∧ ∀ x ∈ L, ∀ o, s.heap x.1 = some o → Ob.to (G x.1) x.2.1 o x.2.2
  | _, _, .nil, ds, ks, hb, hks, ds', S, ht, hn, os, ho => by
    simp only [ioCs, Option.some.injEq, Prod.mk.injEq] at hb
    obtain ⟨rfl, rfl⟩ := hb
    cases ht
    simp only [ioObs, Option.some.injEq] at ho
    subst ho
    exact ⟨[], rfl, rfl, .nil _, by simp⟩
  | _, _, .cons v av vs avs hv hvs, ds, ks, hb, hks, ds', S, ht, hn, os, ho => by
    cases ht with
    | cons _ d S1 _ ds1 S2 ht hts =>
    obtain ⟨n1, n2, n3⟩ := List.nodup_append.1 hn
    cases av with
    | r k =>
      simp only [ioCs] at hb
      split at hb
      case h_2 => cases hb
      rename_i sz xs ve hk
      simp only [Option.map_eq_some_iff, Prod.mk.injEq] at hb
      obtain ⟨⟨ds0, ks0⟩, hd, rfl, rfl⟩ := hb
      obtain ⟨k1, k2⟩ := List.nodup_cons.1 hks
      cases d with
      | l sz' xs' =>
        simp only [ioObs, hk] at ho
        split at ho
        case isFalse => cases ho
        rename_i e
        subst e
        simp only [Option.map_eq_some_iff] at ho
        obtain ⟨os', ho', rfl⟩ := ho
        obtain ⟨L, e1, e2, e3, e4⟩ := ioEnts h hvs hd k2 hts n2 ho'
        cases hv with
        | r _ sz0 xs0 dp0 fz0 ve0 ad hk0 ha =>
          rw [hk] at hk0
          cases hk0
          obtain ⟨gi, ad', r1, r2, r3, r6, r4, r5⟩ := deepRow (G k).blk (G k).off ht n1
          simp only [Value.slice.injEq] at r2
          obtain ⟨rfl, r7, r8⟩ := r2
          refine ⟨(k, gi, .row sz' xs' true false (ve + 1)) :: L, by simp [e1], by simp [e2], e3.cons (by rw [e2]; exact k1) r1 (r4 _) (r5 _) (fun b hb hb' => n3 b hb b hb' rfl), ?_⟩
          intro x hx o hxo
          rcases List.mem_cons.1 hx with rfl | hx
          · simp only at hxo ⊢
            rw [hk] at hxo
            cases hxo
            by_cases hc : (G k).cap = 0
            · obtain ⟨q1, q2⟩ := r6 (by omega)
              exact .row _ _ _ _ _ _ _ _ _ r7.symm q1 q2 r8.symm (.inl (Nat.lt_succ_self _))
            · have h1 := ha (by omega)
              have h2 := r3 (by omega)
              rw [h1] at h2
              simp only [Option.some.injEq, Addr.mk.injEq] at h2
              exact .row _ _ _ _ _ _ _ _ _ r7.symm h2.1.symm h2.2.1.symm r8.symm (.inl (Nat.lt_succ_self _))
          · exact e4 x hx o hxo
        | rd _ _ hk0 => rw [hk] at hk0; cases hk0
      | _ => simp [ioObs] at ho
    | d x =>
      simp only [ioCs] at hb
      split at hb
      case isFalse => cases hb
      simp only [Option.map_eq_some_iff, Prod.mk.injEq] at hb
      obtain ⟨⟨ds0, ks0⟩, hd, rfl, rfl⟩ := hb
      simp only [ioObs] at ho
      obtain ⟨L, e1, e2, e3, e4⟩ := ioEnts h hvs hd hks hts n2 ho
      exact ⟨L, e1, e2, e3.mono fun b hb => by simp [hb], e4⟩
    | z sz => simp [ioObs] at ho
    | _ => simp [ioCs] at hb
end rel
end Go.Fs
namespace Go.Fs
open Go.RowKit

def ioD (av : AV) (ds : List D) : D :=
  match av with
  | .g _ => .g ds
  | _ => ds.headD .u
def ioIn (io : Option AV) (ds : List D) : List In :=
  match io with
  | some av => [.io (ioD av ds)]
  | none => []
def ioCells (io : Option AV) : List AV :=
  match io with
  | some av => cellsA av
  | none => []
def ioOut (io : Option D) : List D :=
  match io with
  | some x => cellsD x
  | none => []

section rel
variable {P : Program} {T : Tab} {B : Ctx} {G : Nat → GI} {s : St} {a : Act} {w w' : World}

theorem ovG_in {L : List (Nat × GI × Ob)} (hk : (L.map (·.1)).Nodup) {x : Nat × GI × Ob} (hx : x ∈ L) : ovG (L.map fun x => (x.1, x.2.1)) G x.1 = x.2.1 := by
  have hk1 : ((L.map fun x => (x.1, x.2.1)).map (·.1)).Nodup := by rw [List.map_map]; exact hk
  simp only [ovG, lookup_of_mem hk1 (List.mem_map.2 ⟨x, hx, rfl⟩)]
theorem ovr_in {H : Nat → Option Ob} {L : List (Nat × GI × Ob)} (hk : (L.map (·.1)).Nodup) {x : Nat × GI × Ob} (hx : x ∈ L) : ovr (L.map fun x => (x.1, x.2.2)) H x.1 = some x.2.2 := by
  have hk1 : ((L.map fun x => (x.1, x.2.2)).map (·.1)).Nodup := by rw [List.map_map]; exact hk
  simp only [ovr, lookup_of_mem hk1 (List.mem_map.2 ⟨x, hx, rfl⟩)]
theorem ovG_out {L : List (Nat × GI × Ob)} {k : Nat} (hk : k ∉ L.map (·.1)) : ovG (L.map fun x => (x.1, x.2.1)) G k = G k := by
  simp only [ovG]; rw [lookup_none (by rw [List.map_map]; exact hk)]
theorem ovr_out {H : Nat → Option Ob} {L : List (Nat × GI × Ob)} {k : Nat} (hk : k ∉ L.map (·.1)) : ovr (L.map fun x => (x.1, x.2.2)) H k = H k := by
  simp only [ovr]; rw [lookup_none (by rw [List.map_map]; exact hk)]

theorem Does.mono {f : FuncId} {args : Array Value} {R R' : Value → World → Prop} (h : Does P f args w R) (hr : ∀ v w', R v w' → R' v w') : Does P f args w R' := by
  rcases h with ⟨h1, h2⟩ | ⟨v, w', h1, h2⟩
  · refine .inl ⟨h1, h2.mono fun e w' he => ?_⟩
    cases e with
    | returned v => exact hr _ _ he
    | panicked c => exact he
    | outgrown => exact he
  · exact .inr ⟨v, w', h1, hr _ _ h2⟩

theorem cells_tr {own : Bool} {v : Value} {x : D} {S : List Nat} (h : Tr w own v x S) (hf : Flat v) : TrL w own v.cells.toList (cellsD x) S := by
  have one : (∀ cs, v ≠ .agg cs) → (∀ ds, x ≠ .g ds) → TrL w own v.cells.toList (cellsD x) S := by
    intro h1 h2
    have e1 : v.cells = #[v] := by cases v <;> first | rfl | exact absurd rfl (h1 _)
    have e2 : cellsD x = [x] := by cases x <;> first | rfl | exact absurd rfl (h2 _)
    rw [e1, e2]
    have := TrL.cons v x S [] [] [] h .nil
    simpa using this
  cases h with
  | g cs ds S h => exact h
  | _ => exact one (by intros; simp) (by intros; simp)

/-- The parts of a result. -/
theorem parts_tr {own : Bool} {v : Value} {x : D} {S : List Nat} (h : Tr w own v x S) (hf : RetFlat v) : ∃ vs, TrL w own vs (partsD x) S ∧ (∀ u ∈ vs, u.oneCell' = true) ∧
    ∀ {G : Nat → GI} {H : Nat → Option Ob} {Av : Nat → Prop} {avs : List AV}, AVRL w G H Av vs avs → AVR w G H Av v (retAV x avs) := by
  have one : ∀ {v : Value} {x : D} {S : List Nat}, Tr w own v x S → Flat v → (∀ vs, x ≠ .t vs) → ∀ {G : Nat → GI} {H : Nat → Option Ob} {Av : Nat → Prop} {avs : List AV} {us : List Value} {bs : List AV}, AVRL w G H Av (v.cells.toList ++ us) avs → AVR w G H Av v (oneAV x avs) ∧ AVRL w G H Av us (avs.drop (cellsD x).length) := by
    intro v x S h hf hx G H Av avs us bs ha
    have hl := (cells_tr h hf).length
    have h1 := ha.take v.cells.toList.length
    have h2 := ha.drop v.cells.toList.length
    rw [List.take_left] at h1
    rw [List.drop_left] at h2
    rw [hl] at h1 h2
    refine ⟨?_, h2⟩
    cases h with
    | g cs ds S h => exact .g _ _ h1
    | t vs ds S h => exact absurd rfl (hx _)
    | _ =>
      simp only [cellsD, List.length_singleton] at h1
      simp only [oneAV]
      cases avs with
      | nil => cases h1
      | cons a as =>
        simp only [List.take_succ_cons, List.take_zero] at h1
        cases h1 with
        | cons _ _ _ _ h _ => exact h
  by_cases hx : ∃ vs, x = .t vs
  · obtain ⟨ds, rfl⟩ := hx
    cases h with
    | t vs _ _ hs =>
      have hfl : ∀ u ∈ vs.toList, Flat u := by
        rcases hf with hf | ⟨us, e, hf⟩
        · have := hf (.tuple vs) (by simp [Value.cells])
          simp [Value.oneCell'] at this
        · cases e; exact hf
      have key : ∀ {us : List Value} {ds : List D} {S : List Nat}, TrL w own us ds S → (∀ u ∈ us, Flat u) → (∀ d ∈ ds, ∀ vs, d ≠ .t vs) →
          TrL w own (us.flatMap fun u => u.cells.toList) (ds.flatMap cellsD) S ∧
          ∀ {G : Nat → GI} {H : Nat → Option Ob} {Av : Nat → Prop} {avs : List AV}, AVRL w G H Av (us.flatMap fun u => u.cells.toList) avs → AVRL w G H Av us (tupAV ds avs) := by
        intro us ds S h
        induction h using TrL.rec (motive_1 := fun _ _ _ _ => True) with
        | nil => intro _ _; exact ⟨.nil, fun _ => .nil⟩
        | cons v d S us ds Ss h hs _ ih =>
          intro hf hd
          obtain ⟨i1, i2⟩ := ih (fun u hu => hf u (by simp [hu])) fun d' hd' => hd d' (by simp [hd'])
          refine ⟨by simpa using (cells_tr h (hf v (by simp))).append i1, fun {G H Av avs} ha => ?_⟩
          rw [List.flatMap_cons] at ha
          obtain ⟨o1, o2⟩ := one h (hf v (by simp)) (hd d (by simp)) (bs := []) ha
          exact .cons _ _ _ _ o1 (i2 o2)
        | _ => trivial
      have hnt : ∀ d ∈ ds, ∀ vs, d ≠ .t vs := by
        intro d hd vs' e
        subst e
        obtain ⟨j, hj, hjd⟩ := List.mem_iff_getElem.1 hd
        obtain ⟨u, S1, hu, ht, _⟩ := hs.get (j := j) (d := .t vs') (by rw [List.getElem?_eq_getElem hj, hjd])
        cases ht with
        | t us _ _ _ =>
          have := hfl _ (List.mem_of_getElem? hu) (.tuple us) (by simp [Value.cells])
          simp [Value.oneCell'] at this
      obtain ⟨k1, k2⟩ := key hs hfl hnt
      exact ⟨_, k1, fun u hu => by
        obtain ⟨v, hv, hu⟩ := List.mem_flatMap.1 hu
        exact hfl v hv u hu, fun ha => .t _ _ (k2 ha)⟩
  · have hnx : ∀ vs, x ≠ .t vs := fun vs e => hx ⟨vs, e⟩
    have hfl : Flat v := by
      rcases hf with hf | ⟨us, rfl, hf⟩
      · exact hf
      · cases h; exact absurd rfl (hnx _)
    have hp : partsD x = cellsD x := by cases x <;> first | rfl | exact absurd rfl (hnx _)
    have hr : ∀ avs, retAV x avs = oneAV x avs := by intro avs; cases x <;> first | rfl | exact absurd rfl (hnx _)
    rw [hp]
    refine ⟨_, cells_tr h hfl, hfl, fun {G H Av avs} ha => ?_⟩
    rw [hr]
    exact (one h hfl hnx (us := []) (bs := []) (by simpa using ha)).1

/-- A call whose answer is one's own. -/
theorem call_own (h : RelG B G s a w) {f : FuncId} {io : Option AV} {iov : Option Value} (hio : ∀ av, io = some av → ∃ v, iov = some v ∧ AVR w G s.heap (Ban B.F G s.heap) v av) (hio0 : io = none → iov = none)
    {rest : List AV} {vs : List Value} (hrest : AVRL w G s.heap (Ban B.F G s.heap) vs rest) {ds0 : List D} {ks : List Nat} (hic : ioCs s.heap (ioCells io) = some (ds0, ks)) {ds : List D} (hb : borL s.heap rest = some ds)
    (hks : ks.Nodup) (hdis : ∀ k ∈ ks, k ∉ rest.flatMap (keyA s.heap)) {out : Ret} (hf : FnOK P f (ioIn io ds0 ++ ds.map .d) out) (hdeep : out.deep = true) (hoi : out.io.isSome = io.isSome)
    {key : Nat} (hfree : ∀ x ∈ adObs key (partsD out.ret), s.heap x.1 = none) {os : List (Nat × Ob)} (hos : ioObs s.heap (ioCells io) (ioOut out.io) = some os) :
    Does P f (iov.toList ++ vs).toArray w fun v w' => ∃ G', RelG B G' { s with heap := ovr (os ++ adObs key (partsD out.ret)) s.heap } a w' ∧
      AVR w' G' (ovr (os ++ adObs key (partsD out.ret)) s.heap) (Ban B.F G' (ovr (os ++ adObs key (partsD out.ret)) s.heap)) v (retAV out.ret (adCells key (partsD out.ret))) := by
  -- what is handed
  have hcells : AVRL w G s.heap (Ban B.F G s.heap) ((iov.toList).flatMap fun v => v.cells.toList) (ioCells io) ∧ (∀ v ∈ iov.toList, Flat v) ∧ ∀ S, TrL w true ((iov.toList).flatMap fun v => v.cells.toList) ds0 S → ∀ Sd, ArgsR w vs (ds.map .d) Sd [] → ArgsR w (iov.toList ++ vs) (ioIn io ds0 ++ ds.map .d) Sd S := by
    cases io with
    | none =>
      rw [hio0 rfl]
      refine ⟨.nil, by simp, fun S hS Sd ha => ?_⟩
      cases hS
      exact ha
    | some av =>
      obtain ⟨v, rfl, hv⟩ := hio av rfl
      have hc : AVRL w G s.heap (Ban B.F G s.heap) v.cells.toList (cellsA av) ∧ Flat v ∧ ∀ S, TrL w true v.cells.toList ds0 S → Tr w true v (ioD av ds0) S := by
        cases hav : av with
        | g cs =>
          subst hav
          cases hv with
          | g us _ hus =>
            obtain ⟨_, _, o, _⟩ := ioCs_ok h hus hic
            exact ⟨hus, o, fun S hS => .g _ _ _ hS⟩
        | _ =>
          subst hav
          simp only [ioCells, cellsA] at hic
          obtain ⟨_, ht, o, _⟩ := ioCs_ok h (.cons _ _ _ _ hv .nil) hic
          have o1 := o v (by simp)
          have hc1 : v.cells = #[v] := by cases v <;> simp_all [Value.cells, Value.oneCell']
          rw [hc1]
          refine ⟨.cons _ _ _ _ hv .nil, flat_one o1, fun S hS => ?_⟩
          cases hS with
          | cons _ d S1 _ ds1 S2 h1 h2 =>
            cases h2
            simpa [ioD] using h1
      refine ⟨by simpa [ioCells] using hc.1, by simpa using hc.2.1, fun S hS Sd ha => ?_⟩
      have := ArgsR.io v _ S vs _ Sd [] (hc.2.2 S (by simpa using hS)) hc.2.1 ha
      simpa [ioIn] using this
  obtain ⟨hcv, hfl, hargs⟩ := hcells
  obtain ⟨S, t1, t2, t3, t4, t5⟩ := ioCs_ok h hcv hic
  obtain ⟨Sd, u1, u2⟩ := borL_ok h hrest hb
  refine (hf w _ Sd S (h.knW fun b hb => by obtain ⟨k, _, hm⟩ := t3 b hb; exact ⟨k, hm⟩) (hargs S t1 Sd u1) (t4 hks) fun b hb hbd => ?_).mono fun v w' hp => ?_
  · obtain ⟨k, hk, hm⟩ := t3 b hb
    exact hdis k hk ((u2 b hbd).2 k hm)
  obtain ⟨hr, hkeep, S', Si, r1, r2, r3, r4, r5, r6, r7, _⟩ := hp
  rw [hdeep] at r1
  obtain ⟨r7, r8⟩ := r7 hdeep
  -- what was handed, now
  have hio' : TrL w' true ((iov.toList).flatMap fun v => v.cells.toList) (ioOut out.io) Si := by
    cases hoo : out.io with
    | none =>
      rw [hoo] at r3 hoi
      cases io with
      | some _ => simp at hoi
      | none =>
        rw [hio0 rfl]
        have : Si = [] := r3
        subst this
        exact .nil
    | some x =>
      rw [hoo] at r3 hoi
      cases io with
      | none => simp at hoi
      | some av =>
        obtain ⟨v0, rfl, _⟩ := hio av rfl
        obtain ⟨v1, vs1, e, ht⟩ := r3
        simp only [Option.toList_some, List.singleton_append, List.cons.injEq] at e
        obtain ⟨rfl, rfl⟩ := e
        have := cells_tr ht (hfl v0 (by simp))
        simpa [ioOut] using this
  obtain ⟨L1, a1, a2, a3, a4⟩ := ioEnts h hcv hic hks hio' r4 hos
  obtain ⟨us, p1, p2, p3⟩ := parts_tr r1 r2
  obtain ⟨L2, b1, b2, b3, b4⟩ := adEnts p1 r7 p2 key
  have hkk : ∀ x ∈ L1, ∀ y ∈ L2, x.1 ≠ y.1 := by
    intro x hx y hy e
    have h1 : x.1 ∈ ks := by rw [← a2]; exact List.mem_map.2 ⟨x, hx, rfl⟩
    have h2 := hfree (y.1, y.2.2) (by rw [← b1]; exact List.mem_map.2 ⟨y, hy, rfl⟩)
    exact t5 x.1 h1 (by rw [e]; exact h2)
  have hE := a3.append b3 hkk fun b hb hb' => r6 b hb' hb
  have hM : ∀ b ∈ S, ∃ x ∈ L1 ++ L2, b ∈ ownOf (G x.1) (s.heap x.1) := fun b hb => by
    obtain ⟨k, hk, hm⟩ := t3 b hb
    rw [← a2] at hk
    obtain ⟨x, hx, rfl⟩ := List.mem_map.1 hk
    exact ⟨x, by simp [hx], hm⟩
  have hfresh : ∀ b ∈ Si ++ S', (∃ y ∈ L1 ++ L2, b ∈ ownOf (G y.1) (s.heap y.1)) ∨ w.heap.size ≤ b := by
    intro b hb
    have : w.heap.size ≤ b ∨ b ∈ S := by
      rcases List.mem_append.1 hb with hb | hb
      · exact r5 b hb
      · exact r8 b hb
    rcases this with h1 | h1
    · exact .inr h1
    · exact .inl (hM b h1)
  obtain ⟨hrel, havr⟩ := h.steps (L1 ++ L2) hE.keys hr (fun b hb hn => hkeep b hb fun hbS => by
      obtain ⟨x, hx, hm⟩ := hM b hbS
      exact hn x hx hm) (fun x hx o ho => by
      rcases List.mem_append.1 hx with hx | hx
      · exact a4 x hx o ho
      · have := hfree (x.1, x.2.2) (by rw [← b1]; exact List.mem_map.2 ⟨x, hx, rfl⟩)
        rw [ho] at this; cases this) (fun x hx b hb => hfresh b (hE.sub x hx b hb)) hE.nd hE.dis (fun x hx => by
      obtain ⟨sz, xs, ve, e, hR⟩ := hE.row x hx
      rw [e]
      exact hR _)
  have hmapO : (L1 ++ L2).map (fun x => (x.1, x.2.2)) = os ++ adObs key (partsD out.ret) := by rw [List.map_append, a1, b1]
  rw [hmapO] at hrel havr
  refine ⟨_, hrel, p3 (b4 _ _ _ (fun x hx => ?_) fun b hb hba => ?_)⟩
  · have hx' : x ∈ L1 ++ L2 := by simp [hx]
    exact ⟨ovG_in hE.keys hx', by rw [← hmapO]; exact ovr_in hE.keys hx'⟩
  · -- a block of the answer that is barred is owned through a new row
    rw [← hmapO] at hba
    rcases hba with ⟨k, hm⟩ | hF
    · by_cases hk : k ∈ (L1 ++ L2).map (·.1)
      · obtain ⟨x, hx, rfl⟩ := List.mem_map.1 hk
        rw [ovG_in hE.keys hx, ovr_in hE.keys hx] at hm
        rcases List.mem_append.1 hx with hx | hx
        · exact absurd (a3.sub x hx b hm) (r6 b hb)
        · exact ⟨x, hx, hm⟩
      · rw [ovG_out hk, ovr_out hk] at hm
        exfalso
        rcases r8 b hb with h1 | h1
        · have := h.own_lt ⟨k, hm⟩; omega
        · obtain ⟨x, hx, hmx⟩ := hM b h1
          exact hk (List.mem_map.2 ⟨x, hx, h.disj x.1 k b hmx hm⟩)
    · exfalso
      rcases r8 b hb with h1 | h1
      · have := (h.ban b hF).1
        have := h.base
        omega
      · obtain ⟨x, hx, hmx⟩ := hM b h1
        exact h.noF hmx hF
end rel
end Go.Fs
namespace Go.Fs
open Go.RowKit

def frz1 (H : Nat → Option Ob) (k : Nat) : Option (Nat → Option Ob) :=
  match H k with
  | some (.row sz xs dp fz ve) => some (if fz then H else upd H k (some (.row sz xs dp true ve)))
  | _ => none
def frzL (H : Nat → Option Ob) : List Nat → Option (Nat → Option Ob)
  | [] => some H
  | k :: ks => (frz1 H k).bind fun H' => frzL H' ks

def moveV (H : Nat → Option Ob) : AV → Option (D × Bool × (Nat → Option Ob))
  | .g cs => (moveCs H cs).map fun m => (.g m.1, m.2.1, m.2.2)
  | .a k 0 => match H k with
    | some (.box cs) => (moveCs (upd H k (some .dead)) cs).map fun m => (.p m.1, m.2.1, m.2.2)
    | _ => none
  | av => moveC H av
def moveVs (H : Nat → Option Ob) : List AV → Option (List D × Bool × (Nat → Option Ob))
  | [] => some ([], true, H)
  | av :: avs => (moveV H av).bind fun x => (moveVs x.2.2 avs).bind fun y => some (x.1 :: y.1, x.2.1 && y.2.1, y.2.2)

section rel
variable {P : Program} {T : Tab} {B : Ctx} {G : Nat → GI} {s : St} {a : Act} {w w' : World}

theorem frz1_ok (h : RelG B G s a w) {k : Nat} {H' : Nat → Option Ob} (hm : frz1 s.heap k = some H') :
    Eased B G s a w H' ∧ ownOf (G k) (H' k) = [] ∧ ∀ i, ownOf (G i) (s.heap i) = [] → ownOf (G i) (H' i) = [] := by
  unfold frz1 at hm
  split at hm
  case h_2 => cases hm
  rename_i sz xs dp fz ve hk
  simp only [Option.some.injEq] at hm
  subst hm
  cases fz with
  | true => exact ⟨.refl h, by simp [hk, ownOf], fun i hi => hi⟩
  | false =>
    obtain ⟨f1, _, f3⟩ := h.freeze hk
    refine ⟨⟨f1, f3⟩, by simp [upd_same, ownOf], fun i hi => ?_⟩
    by_cases e : i = k
    · subst e; simp [upd_same, ownOf]
    · simpa [upd_ne _ _ e] using hi

theorem frzL_ok : ∀ {s : St} (h : RelG B G s a w) {ks : List Nat} {H' : Nat → Option Ob} (hm : frzL s.heap ks = some H'),
    Eased B G s a w H' ∧ (∀ k ∈ ks, ownOf (G k) (H' k) = []) ∧ ∀ i, ownOf (G i) (s.heap i) = [] → ownOf (G i) (H' i) = []
  | s, h, [], H', hm => by
    simp only [frzL, Option.some.injEq] at hm
    subst hm
    exact ⟨.refl h, by simp, fun _ h => h⟩
  | s, h, k :: ks, H', hm => by
    simp only [frzL, Option.bind_eq_some_iff] at hm
    obtain ⟨H1, m1, m2⟩ := hm
    obtain ⟨e1, o1, p1⟩ := frz1_ok h m1
    obtain ⟨e2, o2, p2⟩ := frzL_ok e1.rel m2
    refine ⟨e1.trans e2, ?_, fun i hi => p2 i (p1 i hi)⟩
    intro i hi
    rcases List.mem_cons.1 hi with rfl | hi
    · exact p2 i o1
    · exact o2 i hi

/-- A call whose answer may come to what was lent. -/
theorem call_shared (h : RelG B G s a w) {f : FuncId} {rest : List AV} {vs : List Value} (hrest : AVRL w G s.heap (Ban B.F G s.heap) vs rest) {H1 : Nat → Option Ob}
    (hfz : frzL s.heap (rest.flatMap (keyA s.heap)) = some H1) (hkeys : rest.flatMap (keyA H1) = rest.flatMap (keyA s.heap)) {ds : List D} (hb : borL H1 rest = some ds) {out : Ret} (hf : FnOK P f (ds.map .d) out) (hio : out.io = none) :
    Does P f vs.toArray w fun v w' => RelG B G { s with heap := H1 } a w' ∧ AVR w' G H1 (Ban B.F G H1) v (retAV out.ret ((partsD out.ret).map .d)) := by
  obtain ⟨e1, o1, _⟩ := frzL_ok h hfz
  obtain ⟨Sd, u1, u2⟩ := borL_ok (s := { s with heap := H1 }) e1.rel (e1.avrl hrest) hb
  refine (hf w _ Sd [] (h.knW (by simp)) u1 List.nodup_nil (by simp)).mono fun v w' hp => ?_
  obtain ⟨hr, hkeep, S', Si, r1, r2, r3, r4, r5, r6, r7, r8⟩ := hp
  have hrel := e1.rel.grow (w' := w') hr fun b hb => hkeep b hb (by simp)
  obtain ⟨us, p1, p2, p3⟩ := parts_tr r1 r2
  refine ⟨hrel, p3 (p1.avrl p2 fun b hb => ?_)⟩
  rintro (⟨k, hm⟩ | hF)
  · rcases r8 b hb with h1 | h1 | h1 | h1
    · have := e1.rel.own_lt ⟨k, hm⟩; omega
    · have hk := (u2 b h1).2 k hm
      have hm : b ∈ ownOf (G k) (H1 k) := hm
      rw [o1 k (hkeys ▸ hk)] at hm
      simp at hm
    · simp at h1
    · have := e1.rel.knO hm; omega
  · rcases r8 b hb with h1 | h1 | h1 | h1
    · have := (h.ban b hF).1
      have := h.base
      omega
    · exact (u2 b h1).1 hF
    · simp at h1
    · have := B.kF b hF; omega

theorem moveV_ok (h : RelG B G s a w) {v : Value} {av : AV} (hv : AVR w G s.heap (Ban B.F G s.heap) v av) {d : D} {f : Bool} {H' : Nat → Option Ob} (hm : moveV s.heap av = some (d, f, H')) :
    Moved B G s a w H' ∧ ∃ S, Tr w f v d S ∧ Flat v ∧ (∀ b ∈ S, ¬ Ban B.F G H' b) ∧ (f = true → S.Nodup ∧ ∀ b ∈ S, Own G s.heap b) := by
  cases hav : av with
  | g cs =>
    subst hav
    simp only [moveV, Option.map_eq_some_iff, Prod.mk.injEq] at hm
    obtain ⟨⟨ds, f', H1⟩, m1, rfl, rfl, rfl⟩ := hm
    cases hv with
    | g vs _ hvs =>
      obtain ⟨M, S, t, o, n, w1⟩ := moveCs_ok h hvs m1
      exact ⟨M, S, .g _ _ _ t, o, n, w1⟩
  | a k o =>
    subst hav
    cases o with
    | succ o => simp [moveV, moveC] at hm
    | zero =>
    simp only [moveV] at hm
    split at hm
    case h_2 => cases hm
    rename_i cs hk
    simp only [Option.map_eq_some_iff, Prod.mk.injEq] at hm
    obtain ⟨⟨ds, f', H1⟩, m1, rfl, rfl, rfl⟩ := hm
    cases hv with
    | ad _ _ _ hk' => rw [hk] at hk'; cases hk'
    | a _ _ cs' hk' =>
      have hne : s.heap k ≠ none := by rw [hk]; simp
      have M1 : Moved B G s a w (upd s.heap k (some .dead)) := ⟨h.kill k hne, fun hv => hv.kill k hne, fun b hb => (own_kill hb).1, fun i => by
        by_cases e : i = k
        · subst e; exact .inr ⟨hne, upd_same ..⟩
        · exact .inl (upd_ne _ _ e)⟩
      have hB : BoxR w G s.heap (Ban B.F G s.heap) (G k) cs := h.obj k _ hk
      obtain ⟨cur, e, hg, hcs, h1⟩ := hB
      have hcs' := M1.avr (AVR.t cur cs hcs)
      cases hcs' with
      | t _ _ hcs' =>
      obtain ⟨M2, S, t, o, n, w1⟩ := moveCs_ok (s := { s with heap := upd s.heap k (some .dead) }) M1.rel hcs' m1
      have hblk : (G k).blk ∈ ownOf (G k) (s.heap k) := by rw [hk]; simp [ownOf]
      have hnot : ¬ Own G (upd s.heap k (some .dead)) (G k).blk := fun hn => by
        obtain ⟨_, i, hi, hm⟩ := own_kill hn
        exact hi (h.disj i k _ hm hblk)
      refine ⟨⟨M2.rel, fun hv => M2.avr (M1.avr hv), fun b hb => M1.own b (M2.own b hb), fun i => ?_⟩, (G k).blk :: S, .p (G k).blk 0 cur e (0, 0) cur.toList ds S hg (fun j v hj => by simpa using hj) h1 (fun _ => ⟨rfl, rfl, by simp⟩) t, flat_one rfl, ?_, fun hf => ?_⟩
      · rcases M2.keys i with e | ⟨e1, e2⟩
        · have e : H1 i = upd s.heap k (some .dead) i := e
          show H1 i = s.heap i ∨ (s.heap i ≠ none ∧ H1 i = some .dead)
          rw [e]
          exact M1.keys i
        · by_cases hi : i = k
          · subst hi; exact .inr ⟨hne, e2⟩
          · have e1 : upd s.heap k (some .dead) i ≠ none := e1
            rw [upd_ne _ _ hi] at e1
            exact .inr ⟨e1, e2⟩
      · intro b hb
        rcases List.mem_cons.1 hb with rfl | hb
        · rintro (hn | hn)
          · exact hnot (M2.own _ hn)
          · exact h.noF hblk hn
        · exact n b hb
      · obtain ⟨w2, w3⟩ := w1 hf
        refine ⟨List.nodup_cons.2 ⟨fun hb => hnot (w3 _ hb), w2⟩, fun b hb => ?_⟩
        rcases List.mem_cons.1 hb with rfl | hb
        · exact ⟨k, hblk⟩
        · exact M1.own b (w3 b hb)
  | _ =>
    subst hav
    obtain ⟨M, S, t, o, n, w1⟩ := moveC_ok h hv hm
    exact ⟨M, S, t, flat_one o, n, w1⟩

theorem Moved.avrl {H' : Nat → Option Ob} (h : Moved B G s a w H') {vs : List Value} {as : List AV} (hv : AVRL w G s.heap (Ban B.F G s.heap) vs as) : AVRL w G H' (Ban B.F G H') vs as := by
  have := h.avr (.t vs.toArray as (by simpa using hv))
  cases this with
  | t _ _ h => simpa using h

theorem moveVs_ok : ∀ {s : St} (h : RelG B G s a w) {vs : List Value} {avs : List AV} (hv : AVRL w G s.heap (Ban B.F G s.heap) vs avs) {ds : List D} {f : Bool} {H' : Nat → Option Ob} (hm : moveVs s.heap avs = some (ds, f, H')),
    Moved B G s a w H' ∧ ∃ S, TrL w f vs ds S ∧ (∀ v ∈ vs, Flat v) ∧ (∀ b ∈ S, ¬ Ban B.F G H' b) ∧ (f = true → S.Nodup ∧ ∀ b ∈ S, Own G s.heap b)
  | s, h, _, _, .nil, ds, f, H', hm => by
    simp only [moveVs, Option.some.injEq, Prod.mk.injEq] at hm
    obtain ⟨rfl, rfl, rfl⟩ := hm
    exact ⟨.refl h, [], .nil, by simp, by simp, fun _ => ⟨List.nodup_nil, by simp⟩⟩
  | s, h, _, _, .cons v av vs avs hv hvs, ds, f, H', hm => by
    simp only [moveVs, Option.bind_eq_some_iff] at hm
    obtain ⟨⟨d1, f1, H1⟩, m1, ⟨d2, f2, H2⟩, m2, hm⟩ := hm
    simp only [Option.some.injEq, Prod.mk.injEq] at hm
    obtain ⟨rfl, rfl, rfl⟩ := hm
    obtain ⟨M1, S1, t1, o1, n1, w1⟩ := moveV_ok h hv m1
    obtain ⟨M2, S2, t2, o2, n2, w2⟩ := moveVs_ok M1.rel (M1.avrl hvs) m2
    refine ⟨M1.trans M2, S1 ++ S2, ?_, ?_, ?_, ?_⟩
    · by_cases e : (f1 && f2) = true
      · rw [e]
        simp at e
        rw [e.1] at t1
        rw [e.2] at t2
        exact .cons _ _ _ _ _ _ t1 t2
      · rw [Bool.not_eq_true] at e
        rw [e]
        exact .cons _ _ _ _ _ _ t1.shared t2.shared
    · intro u hu
      rcases List.mem_cons.1 hu with rfl | hu
      · exact o1
      · exact o2 u hu
    · intro b hb hn
      rcases List.mem_append.1 hb with hb | hb
      · exact n1 b hb (M2.ban hn)
      · exact n2 b hb hn
    · intro e
      simp at e
      obtain ⟨a1, a2⟩ := w1 e.1
      obtain ⟨b1, b2⟩ := w2 e.2
      refine ⟨List.nodup_append.2 ⟨a1, b1, fun x hx y hy e => ?_⟩, fun b hb => ?_⟩
      · subst e
        exact n1 x hx (.inl (b2 x hy))
      · rcases List.mem_append.1 hb with hb | hb
        · exact a2 b hb
        · exact M1.own b (b2 b hb)
end rel

/-- Where keys of what is handed over begin. -/
def keyIn : Nat := 900000
def inAV : In → AV
  | .d (.g ds) => .g (ds.map .d)
  | .d x => .d x
  | .io (.p _) => .a keyIn 0
  | .io x => oneAV x (adCells keyIn (cellsD x))
def inHeap : List In → (Nat → Option Ob)
  | .io (.p ds) :: _ => ovr ((keyIn, .box (adCells (keyIn + 1) ds)) :: adObs (keyIn + 1) ds) fun _ => none
  | .io x :: _ => ovr (adObs keyIn (cellsD x)) fun _ => none
  | _ => fun _ => none
def inSt (n : Nat) (ins : List In) : St := { n := n, env := fun t => (ins.map inAV).getD t .x, heap := inHeap ins }
def In.isD : In → Bool
  | .d _ => true
  | .io _ => false
/-- Only the first argument may be handed over. -/
def insOK : List In → Bool
  | .io _ :: ins => ins.all In.isD
  | ins => ins.all In.isD

def packD : List D → D
  | [d] => d
  | ds => .t ds

/-- The results' slots, or what their variables hold. -/
def resL (T : Tab) (s : St) : List ResultVar → Option (List AV)
  | [] => some []
  | .tmp t :: rs => (resL T s rs).map (s.env t :: ·)
  | .cell t ty :: rs => (opLoad T s.heap ty (s.env t)).bind fun av => (resL T s rs).map (av :: ·)

/-- What is given at the end. -/
def outR (T : Tab) (s : St) (aa : AV) (rs : List ResultVar) : Option Ret :=
  (resL T s rs).bind fun avs => (demAll s.heap avs).bind fun x => (moveVs x.2 x.1).bind fun y => match aa with
  | .x => some { ret := packD y.1, deep := y.2.1, io := none }
  | aa => if y.2.1 then (moveV y.2.2 aa).bind fun z => if z.2.1 then some { ret := packD y.1, deep := true, io := some z.1 } else none else none

def ancA : List In → AV
  | .io x :: _ => inAV (.io x)
  | _ => .x

end Go.Fs
