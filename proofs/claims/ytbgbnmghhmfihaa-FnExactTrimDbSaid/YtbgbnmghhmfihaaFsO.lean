/- A part of the proof: an evaluator of the program's code over plain data, proved sound, or a function's walk by it. No conditions beyond those in the theorems. -/
import Derived.Test.YtbgbnmghhmfihaaFsN
set_option linter.unusedVariables false
set_option linter.constructorNameAsVariable false
namespace Go.Fs
open Go.RowKit

def Tab.kd (T : Tab) (t : TypeId) : Option TK := (T.ti t).map (·.kind)

/-- Nothing, of a slice's type. -/
def fixZ (T : Tab) (ty : TypeId) : AV → AV
  | .z n => match T.kd ty with
    | some (.slice e) => .z (((T.ti e).map (·.size)).getD n)
    | _ => .z n
  | av => av

/-- Values as they are handed on: what is known by its place is known by its content. -/
def dem1 {α : Type} (H : Nat → Option Ob) (x : AV) (f : AV → (Nat → Option Ob) → Option α) : Option α := (demote H x).bind fun y => f y.1 y.2
def demAll (H : Nat → Option Ob) : List AV → Option (List AV × (Nat → Option Ob))
  | [] => some ([], H)
  | av :: avs => (demote H av).bind fun x => (demAll x.2 avs).bind fun y => some (x.1 :: y.1, y.2)

def opBin (T : Tab) (op : BinOp) (ty : TypeId) (x y : AV) : Option AV :=
  match x, y with
  | .d (.b p), .d b => match T.kd ty with
    | some .bool => (binD op (.b p) b).map .d
    | _ => none
  | .d (.i k p), .d b => (binD op (.i k p) b).map .d
  | .d (.s p), .d b => (binD op (.s p) b).map .d
  | _, _ => none

def opUn (op : UnOp) (x : AV) : Option AV :=
  match op, x with
  | .not, .d (.b p) => some (.d (.b !p))
  | .neg, .d (.i k n) => some (.d (.i k (k.wrap (0 - n))))
  | _, _ => none

def opConv (T : Tab) (src dst : TypeId) (x : AV) : Option AV :=
  match T.kd src, T.kd dst, x with
  | some (.int _), some (.int k), .d (.i _ n) => some (.d (.i k (k.wrap n)))
  | some .str, some .str, .d (.s p) => some (.d (.s p))
  | _, _, _ => none

def opExtract (x : AV) (i : Nat) : Option AV :=
  match x with
  | .t vs => vs[i]?
  | _ => none

def callB (T : Tab) (s : St) (dst : Nat) (c : Call) : Option (AV × (Nat → Option Ob)) :=
  match c.callee with
  | .builtin .len => match c.args.toList, c.argTypes.toList with
    | [x], [ty] => (opLen T s.heap ty (s.ev x)).map (·, s.heap)
    | _, _ => none
  | .builtin .append => match c.args.toList, c.argTypes.toList with
    | [x, y], [ty, ty'] => if ty = ty' then dem1 s.heap (s.ev x) fun x' H' => dem1 H' (s.ev y) fun y' H'' => opAppend T H'' dst ty (fixZ T ty x') (fixZ T ty y') else none
    | _, _ => none
  | _ => none

/-- An operation that answers with a value. -/
def valOp (T : Tab) (s : St) (o : Oper) : Option (AV × (Nat → Option Ob)) :=
  match o.op with
  | .move x => some (fixZ T o.type (s.ev x), s.heap)
  | .assign x => some (fixZ T o.type (s.ev x), s.heap)
  | .load ty x => (opLoad T s.heap ty (s.ev x)).map (·, s.heap)
  | .fieldAddr ty x f => (opField T s.heap ty (s.ev x) f).map (·, s.heap)
  | .indexAddr ty x i => dem1 s.heap (s.ev x) fun x' H' => (opIndex T H' ty x' (s.ev i)).map (·, H')
  | .index ty x i => (opByte T ty (s.ev x) (s.ev i)).map (·, s.heap)
  | .binOp op ty x y _ => (opBin T op ty (s.ev x) (s.ev y)).map (·, s.heap)
  | .unOp op _ x => (opUn op (s.ev x)).map (·, s.heap)
  | .convert src dst x => (opConv T src dst (s.ev x)).map (·, s.heap)
  | .extract x i => (opExtract (s.ev x) i).map (·, s.heap)
  | .makeFunc (.func f) first captured => if first.size = 0 then (demAll s.heap (captured.toList.map s.ev)).map fun y => (.f f y.1, y.2) else none
  | .alloc ty => opAlloc T s.heap (o.dst.getD 0) ty
  | .box _ x => dem1 s.heap (s.ev x) fun x' H' => opBox H' (o.dst.getD 0) x'
  | .build ty parts => (demAll s.heap (parts.toList.map fun p => s.ev p.2)).bind fun y => (opBuild T y.2 ty ((parts.toList.map (·.1)).zip y.1)).map (·, y.2)
  | .buildSlice ty len parts => (demAll s.heap (parts.toList.map fun p => s.ev p.2)).bind fun y => opBuildSlice T y.2 (o.dst.getD 0) ty len ((parts.toList.map (·.1)).zip y.1)
  | .makeSlice ty l c => opMake T s.heap (o.dst.getD 0) ty (s.ev l) (s.ev c)
  | .slice ty x lo hi none => dem1 s.heap (s.ev x) fun x' H' => opSlice T H' (o.dst.getD 0) ty x' (lo.map s.ev) (hi.map s.ev)
  | .call c => callB T s (o.dst.getD 0) c
  | _ => none

section rel
variable {P : Program} {T : Tab} {B : Ctx} {G : Nat → GI} {s : St} {a : Act} {w : World}

theorem fixZ_ok {H : Nat → Option Ob} {Av : Nat → Prop} {v : Value} {av : AV} (ty : TypeId) (h : AVR w G H Av v av) : AVR w G H Av v (fixZ T ty av) := by
  unfold fixZ
  split
  · cases h
    split <;> exact .z _
  · exact h

theorem opBin_ok (hT : T.ok P = true) {H : Nat → Option Ob} {Av : Nat → Prop} {op : BinOp} {ty : TypeId} {ox oy : Operand} {x y : AV} {xv yv : Value} (hx : AVR w G H Av xv x) (hy : AVR w G H Av yv y) {av : AV} (hm : opBin T op ty x y = some av) :
    ∃ v, (do eqGuard op ty ox oy xv yv; binOp op ty xv yv : Sem Value).run P w = .ok v w ∧ AVR w G H Av v av := by
  have key : ∀ {a b : D} {d : D}, AVR w G H Av xv (.d a) → AVR w G H Av yv (.d b) → binD op a b = some d → ((∃ p, a = .b p) → P.underlying ty = some .bool) →
      ∃ v, (do eqGuard op ty ox oy xv yv; binOp op ty xv yv : Sem Value).run P w = .ok v w ∧ AVR w G H Av v (.d d) := by
    intro a b d hx hy hd hb
    cases hx with
    | d _ _ S _ hx _ =>
      cases hy with
      | d _ _ S' _ hy _ =>
        obtain ⟨r, h1, h2, h3⟩ := binD_ok (w := w) (x := ox) (y := oy) hx hy hd hb
        exact ⟨r, h1, .sc (scal_tr h3 h2).2.2 h3⟩
  unfold opBin at hm
  split at hm
  · split at hm
    case h_2 => cases hm
    rename_i p b hk
    simp only [Option.map_eq_some_iff, Tab.kd] at hm hk
    obtain ⟨d, hd, rfl⟩ := hm
    obtain ⟨ti, hti, hk⟩ := hk
    exact key hx hy hd fun _ => (tiok hT hti).bool hk
  · simp only [Option.map_eq_some_iff] at hm
    obtain ⟨d, hd, rfl⟩ := hm
    exact key hx hy hd fun ⟨p, hp⟩ => by cases hp
  · simp only [Option.map_eq_some_iff] at hm
    obtain ⟨d, hd, rfl⟩ := hm
    exact key hx hy hd fun ⟨p, hp⟩ => by cases hp
  · cases hm

theorem opUn_ok {H : Nat → Option Ob} {Av : Nat → Prop} {op : UnOp} {x : AV} {xv : Value} (hx : AVR w G H Av xv x) {av : AV} (hm : opUn op x = some av) : ∃ v, (Op.unary op xv).run P w = .ok v w ∧ AVR w G H Av v av := by
  unfold opUn at hm
  split at hm
  · obtain rfl := hx.inv_bool
    simp only [Option.some.injEq] at hm
    subst hm
    exact ⟨.bool !_, by simp [Op.unary], .sc rfl (.b _)⟩
  · obtain rfl := hx.inv_int
    simp only [Option.some.injEq] at hm
    subst hm
    exact ⟨.int _ _, by simp [Op.unary, Op.intArith], .int _ _⟩
  · cases hm

theorem opConv_ok (hT : T.ok P = true) {H : Nat → Option Ob} {Av : Nat → Prop} {src dst : TypeId} {x : AV} {xv : Value} (hx : AVR w G H Av xv x) {av : AV} (hm : opConv T src dst x = some av) : ∃ v, (convert src dst xv).run P w = .ok v w ∧ AVR w G H Av v av := by
  unfold opConv at hm
  split at hm
  · rename_i h1 h2
    simp only [Option.map_eq_some_iff, Tab.kd] at h1 h2
    obtain ⟨t1, e1, k1⟩ := h1
    obtain ⟨t2, e2, k2⟩ := h2
    obtain rfl := hx.inv_int
    simp only [Option.some.injEq] at hm
    subst hm
    refine ⟨_, ?_, .int _ _⟩
    simp only [convert, Sem.run_bind, run_underlying ((tiok hT e1).int k1), run_underlying ((tiok hT e2).int k2), Result.andThen_ok, Conv.intToInt]
    rfl
  · rename_i h1 h2
    simp only [Option.map_eq_some_iff, Tab.kd] at h1 h2
    obtain ⟨t1, e1, k1⟩ := h1
    obtain ⟨t2, e2, k2⟩ := h2
    obtain rfl := hx.inv_str
    simp only [Option.some.injEq] at hm
    subst hm
    refine ⟨_, ?_, .sc rfl (.s _)⟩
    simp only [convert, Sem.run_bind, run_underlying ((tiok hT e1).str k1), run_underlying ((tiok hT e2).str k2), Result.andThen_ok]
    rfl
  · cases hm

theorem opExtract_ok {H : Nat → Option Ob} {Av : Nat → Prop} {x : AV} {xv : Value} {i : Nat} (hx : AVR w G H Av xv x) {av : AV} (hm : opExtract x i = some av) : ∃ v, (Instr.extract xv i).run P w = .ok v w ∧ AVR w G H Av v av := by
  cases x with
  | t vs =>
    cases hx with
    | t us _ h =>
      have hm : vs[i]? = some av := hm
      have hi : i < vs.length := by
        rcases Nat.lt_or_ge i vs.length with h | h
        · exact h
        · rw [List.getElem?_eq_none h] at hm; cases hm
      have hl := h.length
      have hu : us.toList[i]? = some (us.toList[i]'(by omega)) := List.getElem?_eq_getElem _
      have := h.get hu hm
      refine ⟨_, ?_, this⟩
      have hus : us[i]? = some (us.toList[i]'(by omega)) := by rw [← Array.getElem?_toList]; exact hu
      simp [Instr.extract, hus]
  | _ => cases hm

theorem demAll_ok : ∀ {s : St} (h : RelG B G s a w) {vs : List Value} {as as' : List AV} {H' : Nat → Option Ob} (hv : AVRL w G s.heap (Ban B.F G s.heap) vs as) (hm : demAll s.heap as = some (as', H')),
    Eased B G s a w H' ∧ AVRL w G H' (Ban B.F G H') vs as' ∧ as'.length = as.length
  | s, h, _, _, as', H', .nil, hm => by
    simp only [demAll, Option.some.injEq, Prod.mk.injEq] at hm
    obtain ⟨rfl, rfl⟩ := hm
    exact ⟨.refl h, .nil, rfl⟩
  | s, h, _, _, as', H', .cons v av vs as hv hvs, hm => by
    simp only [demAll, Option.bind_eq_some_iff, Option.some.injEq, Prod.mk.injEq] at hm
    obtain ⟨⟨a1, H1⟩, m1, ⟨as2, H2⟩, m2, rfl, rfl⟩ := hm
    obtain ⟨e1, v1⟩ := demote_ok h hv m1
    obtain ⟨e2, v2, l2⟩ := demAll_ok e1.rel (e1.avrl hvs) m2
    exact ⟨e1.trans e2, .cons _ _ _ _ (e2.avr v1) v2, by simp [l2]⟩

theorem RelG.evs2 (h : RelG B G s a w) : ∀ (ps : List (Nat × Operand)), AVRL w G s.heap (Ban B.F G s.heap) (ps.map fun p => a.eval p.2) (ps.map fun p => s.ev p.2)
  | [] => .nil
  | p :: ps => .cons _ _ _ _ (h.ev p.2) (h.evs2 ps)

theorem RelG.evs (h : RelG B G s a w) : ∀ (xs : List Operand), AVRL w G s.heap (Ban B.F G s.heap) (xs.map a.eval) (xs.map s.ev)
  | [] => .nil
  | x :: xs => .cons _ _ _ _ (h.ev x) (h.evs xs)

/-- What a step of the mind leads to. -/
def Step1 (P : Program) (B : Ctx) (s : St) (a : Act) (w : World) (r : Result Value) (av : AV) (H' : Nat → Option Ob) : Prop :=
  ∃ v w' G', r = .ok v w' ∧ RelG B G' { s with heap := H' } a w' ∧ AVR w' G' H' (Ban B.F G' H') v av

theorem valOp_ok (hT : T.ok P = true) (h : RelG B G s a w) {o : Oper} {av : AV} {H' : Nat → Option Ob} (hm : valOp T s o = some (av, H')) :
    ∃ v w' G', (execOp a.eval o).run P w = .ok (.value v) w' ∧ RelG B G' { s with heap := H' } a w' ∧ AVR w' G' H' (Ban B.F G' H') v av := by
  have same : ∀ {c : Sem Value} {av' : AV}, execOp a.eval o = (do pure (.value (← c))) → (∃ v, c.run P w = .ok v w ∧ AVR w G s.heap (Ban B.F G s.heap) v av') → (av', s.heap) = (av, H') →
      ∃ v w' G', (execOp a.eval o).run P w = .ok (.value v) w' ∧ RelG B G' { s with heap := H' } a w' ∧ AVR w' G' H' (Ban B.F G' H') v av := by
    rintro c av' he ⟨v, hr, hv⟩ hm
    simp only [Prod.mk.injEq] at hm
    obtain ⟨rfl, rfl⟩ := hm
    exact ⟨v, w, G, by rw [he, Sem.run_bind, hr, Result.andThen_ok]; rfl, h, hv⟩
  have other : ∀ {c : Sem Value}, execOp a.eval o = (do pure (.value (← c))) → (∃ v w' G', c.run P w = .ok v w' ∧ RelG B G' { s with heap := H' } a w' ∧ AVR w' G' H' (Ban B.F G' H') v av) →
      ∃ v w' G', (execOp a.eval o).run P w = .ok (.value v) w' ∧ RelG B G' { s with heap := H' } a w' ∧ AVR w' G' H' (Ban B.F G' H') v av := by
    rintro c he ⟨v, w', G', hr, h1, h2⟩
    exact ⟨v, w', G', by rw [he, Sem.run_bind, hr, Result.andThen_ok]; rfl, h1, h2⟩
  obtain ⟨dst, op, type, pos, after, guard⟩ := o
  unfold valOp at hm
  cases op <;> simp only at hm <;> try (cases hm; done)
  case move x =>
    simp only [Option.some.injEq] at hm
    exact same (c := pure (a.eval x)) (by simp [execOp]) ⟨_, rfl, fixZ_ok type (h.ev x)⟩ hm
  case assign x =>
    simp only [Option.some.injEq] at hm
    exact same (c := pure (a.eval x)) (by simp [execOp]) ⟨_, rfl, fixZ_ok type (h.ev x)⟩ hm
  case load ty x =>
    simp only [Option.map_eq_some_iff] at hm
    obtain ⟨av', hm, he⟩ := hm
    exact same (by simp [execOp]) (opLoad_ok hT h (h.ev x) hm) he
  case fieldAddr ty x f =>
    simp only [Option.map_eq_some_iff] at hm
    obtain ⟨av', hm, he⟩ := hm
    exact same (by simp [execOp]) (opField_ok hT (h.ev x) hm) he
  case indexAddr ty x i =>
    simp only [dem1, Option.bind_eq_some_iff, Option.map_eq_some_iff] at hm
    obtain ⟨⟨x', H1⟩, m1, av', m2, he⟩ := hm
    simp only [Prod.mk.injEq] at he
    obtain ⟨rfl, rfl⟩ := he
    obtain ⟨e1, v1⟩ := demote_ok h (h.ev x) m1
    obtain ⟨v, hr, hv⟩ := opIndex_ok (s := { s with heap := H1 }) hT e1.rel v1 (e1.avr (h.ev i)) m2
    exact other (by simp [execOp]) ⟨v, w, G, hr, e1.rel, hv⟩
  case index ty x i =>
    simp only [Option.map_eq_some_iff] at hm
    obtain ⟨av', hm, he⟩ := hm
    exact same (by simp [execOp]) (opByte_ok hT (h.ev x) (h.ev i) hm) he
  case binOp op ty x y yt =>
    simp only [Option.map_eq_some_iff] at hm
    obtain ⟨av', hm, he⟩ := hm
    exact same (by simp only [execOp]) (opBin_ok hT (ox := x) (oy := y) (h.ev x) (h.ev y) hm) he
  case unOp op ty x =>
    simp only [Option.map_eq_some_iff] at hm
    obtain ⟨av', hm, he⟩ := hm
    exact same (by simp [execOp]) (opUn_ok (h.ev x) hm) he
  case convert src dst x =>
    simp only [Option.map_eq_some_iff] at hm
    obtain ⟨av', hm, he⟩ := hm
    exact same (by simp [execOp]) (opConv_ok hT (h.ev x) hm) he
  case extract x i =>
    simp only [Option.map_eq_some_iff] at hm
    obtain ⟨av', hm, he⟩ := hm
    exact same (by simp [execOp]) (opExtract_ok (h.ev x) hm) he
  case makeFunc fn first captured =>
    cases fn with
    | func f =>
      simp only at hm
      split at hm
      case isFalse => cases hm
      rename_i hf
      simp only [Option.map_eq_some_iff, Prod.mk.injEq] at hm
      obtain ⟨⟨as', H1⟩, m1, rfl, rfl⟩ := hm
      obtain ⟨e1, v1, _⟩ := demAll_ok h (h.evs captured.toList) m1
      refine other (c := Instr.makeFunc (.func f) (first.map a.eval) (captured.map a.eval)) (by simp only [execOp]) ⟨.func (.func f) #[] (captured.map a.eval), w, G, ?_, e1.rel, .f f _ _ (by simpa using v1)⟩
      have : first = #[] := by simpa using hf
      simp [Instr.makeFunc, this]
    | _ => cases hm
  case alloc ty =>
    exact other (c := Instr.alloc ty true (.tuple #[])) (by simp only [execOp]) (opAlloc_ok hT h hm)
  case box ty x =>
    simp only [dem1, Option.bind_eq_some_iff] at hm
    obtain ⟨⟨x', H1⟩, m1, hm⟩ := hm
    obtain ⟨e1, v1⟩ := demote_ok h (h.ev x) m1
    exact other (c := Instr.box ty (a.eval x)) (by simp only [execOp]) (opBox_ok (s := { s with heap := H1 }) e1.rel v1 hm)
  case build ty parts =>
    simp only [Option.bind_eq_some_iff, Option.map_eq_some_iff, Prod.mk.injEq] at hm
    obtain ⟨⟨as', H1⟩, m1, av', m2, rfl, rfl⟩ := hm
    obtain ⟨e1, v1, l1⟩ := demAll_ok h (h.evs2 parts.toList) m1
    have hl : as'.length = (parts.toList.map (·.1)).length := by rw [l1, List.length_map, List.length_map]
    obtain ⟨v, hr, hv⟩ := opBuild_ok (s := { s with heap := H1 }) (vals := parts.toList.map fun p => (p.1, a.eval p.2)) hT e1.rel (by rw [List.map_fst_zip (Nat.le_of_eq hl.symm), List.map_map]; rfl) (by rw [List.map_snd_zip (Nat.le_of_eq hl), List.map_map]; exact v1) m2
    refine other (c := Instr.build ty (parts.map fun (i, x) => (i, a.eval x))) (by simp only [execOp]) ⟨v, w, G, ?_, e1.rel, hv⟩
    rw [← hr]
    congr 2
    apply Array.ext'
    simp
  case buildSlice ty len parts =>
    simp only [Option.bind_eq_some_iff] at hm
    obtain ⟨⟨as', H1⟩, m1, hm⟩ := hm
    obtain ⟨e1, v1, l1⟩ := demAll_ok h (h.evs2 parts.toList) m1
    have hl : as'.length = (parts.toList.map (·.1)).length := by rw [l1, List.length_map, List.length_map]
    obtain ⟨v, w', G', hr, h1, h2⟩ := opBuildSlice_ok (s := { s with heap := H1 }) (vals := parts.toList.map fun p => (p.1, a.eval p.2)) hT e1.rel (by rw [List.map_fst_zip (Nat.le_of_eq hl.symm), List.map_map]; rfl) (by rw [List.map_snd_zip (Nat.le_of_eq hl), List.map_map]; exact v1) hm
    refine other (c := Instr.buildSlice ty len (parts.map fun (i, x) => (i, a.eval x))) (by simp only [execOp]) ⟨v, w', G', ?_, h1, h2⟩
    rw [← hr]
    congr 2
    apply Array.ext'
    simp
  case makeSlice ty l c =>
    exact other (c := Instr.makeSlice ty (a.eval l) (a.eval c)) (by simp only [execOp]) (opMake_ok hT h (h.ev l) (h.ev c) hm)
  case slice ty x lo hi mx =>
    cases mx with
    | some _ => cases hm
    | none =>
      simp only [dem1, Option.bind_eq_some_iff] at hm
      obtain ⟨⟨x', H1⟩, m1, hm⟩ := hm
      obtain ⟨e1, v1⟩ := demote_ok h (h.ev x) m1
      have hb : ∀ o : Option Operand, BndR w G H1 (Ban B.F G H1) (o.map a.eval) (o.map s.ev)
        | none => .none
        | some o => .some _ _ (e1.avr (h.ev o))
      obtain ⟨v, G', hr, h1, h2⟩ := opSlice_ok (s := { s with heap := H1 }) hT e1.rel v1 (hb lo) (hb hi) hm
      exact other (c := Instr.sliceAt ty (a.eval x) (lo.map a.eval) (hi.map a.eval) none) (by simp only [execOp, Option.map_none]) ⟨v, w, G', hr, h1, h2⟩
  case call c =>
    obtain ⟨callee, args, argTypes⟩ := c
    unfold callB at hm
    simp only at hm
    split at hm
    · split at hm
      case h_2 => cases hm
      rename_i x ty ha ht
      obtain rfl : args = #[x] := Array.ext' (by simpa using ha)
      obtain rfl : argTypes = #[ty] := Array.ext' (by simpa using ht)
      simp only [Option.map_eq_some_iff] at hm
      obtain ⟨av', hm, he⟩ := hm
      exact same (by simp [execOp, resolve, invoke, builtin]) (opLen_ok (ty' := type) hT h (h.ev x) hm) he
    · split at hm
      case h_2 => cases hm
      rename_i x y ty ty' ha ht
      obtain rfl : args = #[x, y] := Array.ext' (by simpa using ha)
      obtain rfl : argTypes = #[ty, ty'] := Array.ext' (by simpa using ht)
      split at hm
      case isFalse => cases hm
      rename_i e
      subst e
      simp only [dem1, Option.bind_eq_some_iff] at hm
      obtain ⟨⟨x', H1⟩, m1, ⟨y', H2⟩, m2, hm⟩ := hm
      obtain ⟨e1, v1⟩ := demote_ok h (h.ev x) m1
      obtain ⟨e2, v2⟩ := demote_ok (s := { s with heap := H1 }) e1.rel (e1.avr (h.ev y)) m2
      exact other (by simp [execOp, resolve, invoke, builtin]) (opAppend_ok (s := { s with heap := H2 }) (ty' := type) hT e2.rel (fixZ_ok ty (e2.avr v1)) (fixZ_ok ty v2) hm)
    · cases hm
end rel
end Go.Fs
