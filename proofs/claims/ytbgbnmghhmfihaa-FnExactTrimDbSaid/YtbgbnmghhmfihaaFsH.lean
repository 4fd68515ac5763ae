/- A part of the proof: an evaluator of the program's code over plain data, proved sound, or a function's walk by it. No conditions beyond those in the theorems. -/
import Derived.Test.YtbgbnmghhmfihaaFsG
set_option linter.unusedVariables false
set_option linter.constructorNameAsVariable false
namespace Go.Fs
open Go.RowKit

def opField (T : Tab) (H : Nat → Option Ob) (ty : TypeId) (p : AV) (f : Nat) : Option AV :=
  (T.ti ty).bind fun ti => match ti.kind with
  | .strct fs => (fs[f]?).bind fun x => match p with
    | .a k o => match H k with
      | some (.box _) => some (.a k (o + x.1))
      | _ => none
    | .e k i o => match H k with
      | some (.row ..) => some (.e k i (o + x.1))
      | _ => none
    | .q cs o => some (.q cs (o + x.1))
    | .d (.p cs) => some (.q cs x.1)
    | _ => none
  | _ => none

def opIndex (T : Tab) (H : Nat → Option Ob) (ty : TypeId) (x ix : AV) : Option AV :=
  (T.ti ty).bind fun ti => match ti.kind with
  | .slice e => (T.ti e).bind fun te => match ix with
    | .d (.i _ n) => match x with
      | .r k => match H k with
        | some (.row sz xs _ _ _) => if sz = te.size then if 0 ≤ n ∧ n < (xs.length : Int) then some (.e k n.toNat 0) else none else none
        | _ => none
      | .d (.l sz xs) => if sz = te.size then if 0 ≤ n ∧ n < (xs.length : Int) then some (.q (xs.getD n.toNat []) 0) else none else none
      | _ => none
    | _ => none
  | _ => none

/-- A byte of a text. -/
def byteAt (s : ByteArray) (n : Int) : Int := ((s.data.getD n.toNat 0).toNat : Int)

def opByte (T : Tab) (ty : TypeId) (x ix : AV) : Option AV :=
  (T.ti ty).bind fun ti => match ti.kind with
  | .str => match x, ix with
    | .d (.s s), .d (.i _ n) => if 0 ≤ n ∧ n < (s.size : Int) then some (.d (.i .u8 (byteAt s n))) else none
    | _, _ => none
  | _ => none

def opLen (T : Tab) (H : Nat → Option Ob) (ty : TypeId) (x : AV) : Option AV :=
  (T.ti ty).bind fun ti => match ti.kind with
  | .str => match x with
    | .d (.s s) => some (.d (.i .i64 s.size))
    | _ => none
  | .slice _ => match x with
    | .r k => match H k with
      | some (.row _ xs _ _ _) => some (.d (.i .i64 xs.length))
      | _ => none
    | .d (.l _ xs) => some (.d (.i .i64 xs.length))
    | .m k ve i o => match H k with
      | some (.row sz xs _ _ ve') => if ve = ve' ∧ i < xs.length ∧ o < sz then (match (xs.getD i []).getD o .u with | .l _ ys => some (.d (.i .i64 ys.length)) | _ => none) else none
      | _ => none
    | .z _ => some (.d (.i .i64 0))
    | _ => none
  | _ => none

/-- A bound of a slice expression. -/
def bnd (x : Option AV) (d : Nat) : Option Nat :=
  match x with
  | none => some d
  | some (.d (.i _ n)) => if 0 ≤ n then some n.toNat else none
  | _ => none

def opSlice (T : Tab) (H : Nat → Option Ob) (dst : Nat) (ty : TypeId) (x : AV) (lo hi : Option AV) : Option (AV × (Nat → Option Ob)) :=
  (T.ti ty).bind fun ti => match ti.kind with
  | .str => match x with
    | .d (.s s) => (bnd hi s.size).bind fun h => (bnd lo 0).bind fun l => if l ≤ h ∧ h ≤ s.size then some (.d (.s (s.extract l h)), H) else none
    | _ => none
  | .slice e => (T.ti e).bind fun te => match x with
    | .r k => match H k with
      | some (.row sz xs dp fz _) => (bnd hi xs.length).bind fun h => (bnd lo 0).bind fun l => if sz = te.size ∧ l ≤ h ∧ h ≤ xs.length then
          (if fz then some (.d (.l sz ((xs.drop l).take (h - l))), H) else match H dst with
            | none => some (.r dst, upd (upd H k (some .dead)) dst (some (.row sz ((xs.drop l).take (h - l)) dp false 0)))
            | _ => none) else none
      | _ => none
    | .d (.l sz xs) => (bnd hi xs.length).bind fun h => (bnd lo 0).bind fun l => if sz = te.size ∧ l ≤ h ∧ h ≤ xs.length then some (.d (.l sz ((xs.drop l).take (h - l))), H) else none
    | _ => none
  | _ => none

section rel
variable {P : Program} {T : Tab} {B : Ctx} {G : Nat → GI} {s : St} {a : Act} {w : World} {H : Nat → Option Ob} {Av : Nat → Prop}

theorem AVR.inv_int {v : Value} {k : IntKind} {n : Int} (h : AVR w G H Av v (.d (.i k n))) : v = .int k n := by
  cases h with
  | d _ _ S h1 ht hS => exact ht.inv_i.1
theorem AVR.inv_bool {v : Value} {x : Bool} (h : AVR w G H Av v (.d (.b x))) : v = .bool x := by
  cases h with
  | d _ _ S h1 ht hS => exact ht.inv_b.1
theorem AVR.inv_str {v : Value} {x : ByteArray} (h : AVR w G H Av v (.d (.s x))) : v = .string x := by
  cases h with
  | d _ _ S h1 ht hS => exact ht.inv_s.1
theorem AVR.int (k : IntKind) (n : Int) : AVR w G H Av (.int k n) (.d (.i k n)) := .sc rfl (.i k n)

theorem opField_ok (hT : T.ok P = true) {ty : TypeId} {p : AV} {f : Nat} {pv : Value} (hp : AVR w G H Av pv p) {av : AV} (hm : opField T H ty p f = some av) :
    ∃ v, (Instr.fieldAt ty pv f).run P w = .ok v w ∧ AVR w G H Av v av := by
  simp only [opField, Option.bind_eq_some_iff] at hm
  obtain ⟨ti, hti, hm⟩ := hm
  have hok := tiok hT hti
  cases hk : ti.kind with
  | strct fs =>
    rw [hk] at hm
    simp only [Option.bind_eq_some_iff] at hm
    obtain ⟨⟨fo, ft⟩, hf, hm⟩ := hm
    obtain ⟨fields, hu, hmap, hne⟩ := hok.strct hk
    obtain ⟨fd, hfd, he⟩ : ∃ fd, fields[f]? = some fd ∧ (fd.offset, fd.type) = (fo, ft) := by
      rw [← hmap] at hf
      simp only [List.getElem?_map, Option.map_eq_some_iff] at hf
      obtain ⟨fd, h1, h2⟩ := hf
      exact ⟨fd, by simpa using h1, h2⟩
    simp only [Prod.mk.injEq] at he
    have hsz : P.cellsOf fd.type ≠ 0 := hne fd (by rw [Array.mem_toList_iff]; exact Array.mem_of_getElem? hfd)
    have hsize : ∃ i, P.info? fd.type = some i ∧ i.size ≠ 0 := by
      unfold Program.cellsOf at hsz
      cases hi : P.info? fd.type with
      | none => simp [hi] at hsz
      | some i => exact ⟨i, rfl, by simpa [hi] using hsz⟩
    obtain ⟨i, hi, hi0⟩ := hsize
    have hrun : ∀ g o, (Instr.fieldAt ty (.pointer (some ⟨g, o, none⟩)) f).run P w = .ok (.pointer (some ⟨g, o + fo, none⟩)) w := by
      intro g o
      have hplace : (fieldPlace ⟨g, o, none⟩ fd).run P w = .ok ⟨g, o + fo, none⟩ w := by
        simp [fieldPlace, Go.sizeOf, typeInfo, hi, hi0, add_at, he.1]
      simp [Instr.fieldAt, run_underlying hu, hfd, Instr.sureAddr, hplace]
    cases hp with
    | a k o cs hk =>
      simp only [hk, Option.some.injEq] at hm
      subst hm
      exact ⟨_, hrun _ _, .a k _ cs hk⟩
    | e k i o sz xs dp fz ve hk hi =>
      simp only [hk, Option.some.injEq] at hm
      subst hm
      exact ⟨_, by rw [hrun, Nat.add_assoc], .e k i _ sz xs dp fz ve hk hi⟩
    | q g bs o cur el fr vs cs S hg hv h1 ht hb hS =>
      simp only [Option.some.injEq] at hm
      subst hm
      exact ⟨_, by rw [hrun, Nat.add_assoc], .q g bs _ cur el fr vs cs S hg hv h1 ht hb hS⟩
    | d v x S h1c ht hS =>
      cases ht with
      | p g o cur e fr vs ds S hg hv h1' ho hs =>
        simp only [Option.some.injEq] at hm
        subst hm
        exact ⟨_, hrun _ _, .q g o _ cur e fr vs _ S hg hv h1' hs (hS g (by simp)) fun b hb => hS b (by simp [hb])⟩
      | _ => first | (cases hm; done) | simp_all
    | _ => first | (cases hm; done) | simp_all
  | _ => rw [hk] at hm; simp at hm

theorem opIndex_ok (hT : T.ok P = true) (h : RelG B G s a w) {ty : TypeId} {x ix : AV} {xv iv : Value} (hx : AVR w G s.heap (Ban B.F G s.heap) xv x) (hi : AVR w G s.heap (Ban B.F G s.heap) iv ix) {av : AV} (hm : opIndex T s.heap ty x ix = some av) :
    ∃ v, (Instr.indexAt ty xv iv).run P w = .ok v w ∧ AVR w G s.heap (Ban B.F G s.heap) v av := by
  simp only [opIndex, Option.bind_eq_some_iff] at hm
  obtain ⟨ti, hti, hm⟩ := hm
  have hok := tiok hT hti
  cases hk : ti.kind with
  | slice e =>
    rw [hk] at hm
    simp only [Option.bind_eq_some_iff] at hm
    obtain ⟨te, hte, hm⟩ := hm
    have hoke := tiok hT hte
    have hu := hok.slice hk
    split at hm
    case h_2 => cases hm
    rename_i kk n
    obtain rfl := hi.inv_int
    have hrun : ∀ (g o len c : Nat), 0 ≤ n → n < (len : Int) → (Instr.indexAt ty (.slice (some ⟨g, o, none⟩) len c) (.int kk n)).run P w = .ok (.pointer (some ⟨g, o + n.toNat * te.size, none⟩)) w := by
      intro g o len c h0 h1
      have hz := hoke.sizeOf (w := w)
      simp [Instr.indexAt, asIntOf, run_underlying hu, h0, h1, hz, add_at]
    cases hx with
    | r k sz xs dp fz ve ad hk ha =>
      simp only [hk] at hm
      split at hm
      case isFalse => cases hm
      rename_i hsz
      split at hm
      case isFalse => cases hm
      rename_i hn
      simp only [Option.some.injEq] at hm
      subst hm
      have hcap := (h.obj k _ hk : RowR w (Ban B.F G s.heap) (G k) sz xs dp fz).cap
      have hlt : 0 < (G k).cap := by omega
      refine ⟨_, by rw [ha hlt]; exact hrun _ _ _ _ hn.1 hn.2, ?_⟩
      have := AVR.e (w := w) (G := G) (H := s.heap) (Av := Ban B.F G s.heap) k n.toNat 0 sz xs dp fz ve hk (by omega)
      rw [Nat.add_zero] at this
      rw [← hsz]
      exact this
    | d v x S h1 ht hS =>
      cases ht with
      | z ad c sz ho =>
        simp only at hm
        split at hm
        case isFalse => cases hm
        split at hm
        case isFalse => cases hm
        rename_i hn
        simp at hn
        omega
      | l g o c sz cur e' fr vs xs S hg hc hmx hl hv hone hxx ho hs =>
        simp only at hm
        split at hm
        case isFalse => cases hm
        rename_i hsz
        split at hm
        case isFalse => cases hm
        rename_i hn
        simp only [Option.some.injEq] at hm
        subst hm
        have hil : n.toNat < xs.length := by omega
        obtain ⟨y, hy⟩ : ∃ y, xs[n.toNat]? = some y := ⟨_, List.getElem?_eq_getElem hil⟩
        have hyl : y.length = sz := hxx y (List.mem_of_getElem? hy)
        have hgd : xs.getD n.toNat [] = y := by rw [List.getD_eq_getElem?_getD, hy]; rfl
        rw [hgd]
        have hmul : (n.toNat + 1) * sz ≤ xs.length * sz := Nat.mul_le_mul_right _ hil
        rw [Nat.succ_mul] at hmul
        refine ⟨_, hrun _ _ _ _ hn.1 hn.2, ?_⟩
        obtain ⟨S1, t1, t2, _⟩ := hs.drop (n.toNat * sz)
        obtain ⟨S2, t3, t4, _⟩ := t1.take sz
        have hds : (xs.flatten.drop (n.toNat * sz)).take sz = y := by
          apply List.ext_getElem?
          intro j
          rw [List.getElem?_take]
          split
          · rename_i hj
            rw [List.getElem?_drop, flat_get hxx hy (by omega)]
          · rw [List.getElem?_eq_none (by omega)]
        rw [hds] at t3
        rw [← hsz]
        exact AVR.q g (o + n.toNat * sz) 0 cur e' fr _ y S2 hg (fun j v hj => by
          rw [List.getElem?_take] at hj
          split at hj
          · rw [List.getElem?_drop] at hj
            rw [Nat.add_assoc]
            exact hv _ _ hj
          · cases hj) (fun v hv => hone v (List.mem_of_mem_drop (List.mem_of_mem_take hv))) t3 (hS g (by simp)) fun b hb => hS b (by simp [t2 b (t4 b hb)])
      | _ => first | (cases hm; done) | simp_all
    | _ => first | (cases hm; done) | simp_all
  | _ => rw [hk] at hm; simp at hm

theorem opByte_ok (hT : T.ok P = true) {ty : TypeId} {x ix : AV} {xv iv : Value} (hx : AVR w G H Av xv x) (hi : AVR w G H Av iv ix) {av : AV} (hm : opByte T ty x ix = some av) :
    ∃ v, (Instr.index ty xv iv).run P w = .ok v w ∧ AVR w G H Av v av := by
  simp only [opByte, Option.bind_eq_some_iff] at hm
  obtain ⟨ti, hti, hm⟩ := hm
  have hok := tiok hT hti
  cases hk : ti.kind with
  | str =>
    rw [hk] at hm
    simp only at hm
    split at hm
    case h_2 => cases hm
    rename_i str kk n
    obtain rfl := hi.inv_int
    obtain rfl := hx.inv_str
    split at hm
    case isFalse => cases hm
    rename_i hn
    simp only [Option.some.injEq] at hm
    subst hm
    have hlt : n.toNat < str.size := by omega
    have hb : str[n.toNat]? = some (str.data.getD n.toNat 0) := by
      have : str[n.toNat]? = str.data[n.toNat]? := rfl
      have hs : n.toNat < str.data.size := hlt
      rw [this, Array.getD_eq_getD_getElem?, Array.getElem?_eq_getElem hs]
      rfl
    refine ⟨.int .u8 (byteAt str n), ?_, .int _ _⟩
    simp [Instr.index, asIntOf, run_underlying (hok.str hk), hn.1, hb, byteAt]
  | _ => rw [hk] at hm; simp at hm

theorem opLen_ok (hT : T.ok P = true) (h : RelG B G s a w) {ty ty' : TypeId} {x : AV} {xv : Value} (hx : AVR w G s.heap (Ban B.F G s.heap) xv x) {av : AV} (hm : opLen T s.heap ty x = some av) :
    ∃ v, (Builtin.len_ #[ty] ty' #[xv]).run P w = .ok v w ∧ AVR w G s.heap (Ban B.F G s.heap) v av := by
  simp only [opLen, Option.bind_eq_some_iff] at hm
  obtain ⟨ti, hti, hm⟩ := hm
  have hok := tiok hT hti
  cases hk : ti.kind with
  | str =>
    rw [hk] at hm
    simp only at hm
    split at hm
    case h_2 => cases hm
    obtain rfl := hx.inv_str
    simp only [Option.some.injEq] at hm
    subst hm
    exact ⟨_, by simp [Builtin.len_, run_underlying (hok.str hk)]; rfl, .int _ _⟩
  | slice e =>
    rw [hk] at hm
    have hrun : ∀ (ad : Option Addr) (n c : Nat), (Builtin.len_ #[ty] ty' #[.slice ad n c]).run P w = .ok (.int .i64 n) w := by
      intro ad n c
      simp [Builtin.len_, run_underlying (hok.slice hk), goInt]
    cases hx with
    | r k sz xs dp fz ve ad hk' ha =>
      simp only [hk', Option.some.injEq] at hm
      subst hm
      exact ⟨_, hrun _ _ _, .int _ _⟩
    | z sz =>
      simp only [Option.some.injEq] at hm
      subst hm
      exact ⟨_, hrun _ _ _, .int _ _⟩
    | m k i o sz xs dp fz ve v z ys hk' hj hvj h1 =>
      simp only [hk'] at hm
      split at hm
      case isFalse => cases hm
      rename_i hc
      have hR : RowR w (Ban B.F G s.heap) (G k) sz xs dp fz := h.obj k _ hk'
      obtain ⟨x, hx⟩ : ∃ x, xs[i]? = some x := ⟨_, List.getElem?_eq_getElem hc.2.1⟩
      have hgd : xs.getD i [] = x := by rw [List.getD_eq_getElem?_getD, hx]; rfl
      have hfx := flat_get hR.uni hx hc.2.2
      rw [hfx] at hj
      have hgo : x.getD o .u = .l z ys := by rw [List.getD_eq_getElem?_getD, hj]; rfl
      rw [hgd, hgo] at hm
      simp only [Option.some.injEq] at hm
      subst hm
      obtain ⟨u, S1, hu, ht, hS, _⟩ := hR.tr.get (hfx.trans hj)
      rw [hvj] at hu
      cases hu
      cases ht with
      | z ad c sz ho => exact ⟨_, hrun _ _ _, .int _ _⟩
      | l g o c sz cur e' fr vs xs S hg hc hmx hl hv hone hxx ho hs => exact ⟨_, hrun _ _ _, .int _ _⟩
    | mo k i o sz xs dp fz ve ve' v hk' hlt =>
      simp only [hk'] at hm
      split at hm
      · rename_i hc; omega
      · cases hm
    | md k ve i o v hk' => simp [hk'] at hm
    | d v x S h1 ht hS =>
      cases ht with
      | z ad c sz ho =>
        simp only [Option.some.injEq] at hm
        subst hm
        exact ⟨_, hrun _ _ _, .int _ _⟩
      | l g o c sz cur e' fr vs xs S hg hc hmx hl hv hone hxx ho hs =>
        simp only [Option.some.injEq] at hm
        subst hm
        exact ⟨_, hrun _ _ _, .int _ _⟩
      | _ => first | (cases hm; done) | simp_all
    | _ => first | (cases hm; done) | simp_all
  | _ => rw [hk] at hm; simp at hm
end rel
end Go.Fs
