/- A part of the proof: an evaluator of the program's code over plain data, proved sound, and walks of the program's functions by it. No conditions beyond those in the theorems. -/
import Derived.Test.YtbgbnmghhmfihaaGreatLawMp1
set_option linter.unusedVariables false
set_option linter.unusedSimpArgs false
set_option linter.constructorNameAsVariable false
set_option linter.unusedSectionVars false
set_option linter.defProp false
set_option linter.unusedVariables false
set_option linter.constructorNameAsVariable false
namespace Go.Fs
open Go.RowKit

def opField (T : Tab) (H : Nat → Option Ob) (ty : TypeId) (p : AV) (f : Nat) : Option AV :=
  (T.ti ty).bind fun ti => match ti.kind with
  | .strct fs => (fs[f]?).bind fun x => match p with
    | .a k o => match H k with
      | some (.box _) => some (.a k (o + x.1))
      | _ => none
    | .e k i o => match H k with
      | some (.row ..) => some (.e k i (o + x.1))
      | _ => none
    | .q cs o => some (.q cs (o + x.1))
    | .d (.p cs) => some (.q cs x.1)
    | _ => none
  | _ => none

def opIndex (T : Tab) (H : Nat → Option Ob) (ty : TypeId) (x ix : AV) : Option AV :=
  (T.ti ty).bind fun ti => match ti.kind with
  | .slice e => (T.ti e).bind fun te => match ix with
    | .d (.i _ n) => match x with
      | .r k => match H k with
        | some (.row sz xs _ _ _) => if sz = te.size then if 0 ≤ n ∧ n < (xs.length : Int) then some (.e k n.toNat 0) else none else none
        | _ => none
      | .d (.l sz xs) => if sz = te.size then if 0 ≤ n ∧ n < (xs.length : Int) then some (.q (xs.getD n.toNat []) 0) else none else none
      | _ => none
    | _ => none
  | _ => none

/-- A byte of a text. -/
def byteAt (s : ByteArray) (n : Int) : Int := ((s.data.getD n.toNat 0).toNat : Int)

def opByte (T : Tab) (ty : TypeId) (x ix : AV) : Option AV :=
  (T.ti ty).bind fun ti => match ti.kind with
  | .str => match x, ix with
    | .d (.s s), .d (.i _ n) => if 0 ≤ n ∧ n < (s.size : Int) then some (.d (.i .u8 (byteAt s n))) else none
    | _, _ => none
  | _ => none

def opLen (T : Tab) (H : Nat → Option Ob) (ty : TypeId) (x : AV) : Option AV :=
  (T.ti ty).bind fun ti => match ti.kind with
  | .str => match x with
    | .d (.s s) => some (.d (.i .i64 s.size))
    | _ => none
  | .slice _ => match x with
    | .r k => match H k with
      | some (.row _ xs _ _ _) => some (.d (.i .i64 xs.length))
      | _ => none
    | .d (.l _ xs) => some (.d (.i .i64 xs.length))
    | .m k ve i o => match H k with
      | some (.row sz xs _ _ ve') => if ve = ve' ∧ i < xs.length ∧ o < sz then (match (xs.getD i []).getD o .u with | .l _ ys => some (.d (.i .i64 ys.length)) | _ => none) else none
      | _ => none
    | .z _ => some (.d (.i .i64 0))
    | _ => none
  | _ => none

/-- A bound of a slice expression. -/
def bnd (x : Option AV) (d : Nat) : Option Nat :=
  match x with
  | none => some d
  | some (.d (.i _ n)) => if 0 ≤ n then some n.toNat else none
  | _ => none

def opSlice (T : Tab) (H : Nat → Option Ob) (dst : Nat) (ty : TypeId) (x : AV) (lo hi : Option AV) : Option (AV × (Nat → Option Ob)) :=
  (T.ti ty).bind fun ti => match ti.kind with
  | .str => match x with
    | .d (.s s) => (bnd hi s.size).bind fun h => (bnd lo 0).bind fun l => if l ≤ h ∧ h ≤ s.size then some (.d (.s (s.extract l h)), H) else none
    | _ => none
  | .slice e => (T.ti e).bind fun te => match x with
    | .r k => match H k with
      | some (.row sz xs dp fz _) => (bnd hi xs.length).bind fun h => (bnd lo 0).bind fun l => if sz = te.size ∧ l ≤ h ∧ h ≤ xs.length then
          (if fz then some (.d (.l sz ((xs.drop l).take (h - l))), H) else match H dst with
            | none => some (.r dst, upd (upd H k (some .dead)) dst (some (.row sz ((xs.drop l).take (h - l)) dp false 0)))
            | _ => none) else none
      | _ => none
    | .d (.l sz xs) => (bnd hi xs.length).bind fun h => (bnd lo 0).bind fun l => if sz = te.size ∧ l ≤ h ∧ h ≤ xs.length then some (.d (.l sz ((xs.drop l).take (h - l))), H) else none
    | _ => none
  | _ => none

section rel
variable {P : Program} {T : Tab} {B : Ctx} {G : Nat → GI} {s : St} {a : Act} {w : World} {H : Nat → Option Ob} {Av : Nat → Prop}

theorem AVR.inv_int {v : Value} {k : IntKind} {n : Int} (h : AVR w G H Av v (.d (.i k n))) : v = .int k n := by
  cases h with
  | d _ _ S h1 ht hS => exact ht.inv_i.1
theorem AVR.inv_bool {v : Value} {x : Bool} (h : AVR w G H Av v (.d (.b x))) : v = .bool x := by
  cases h with
  | d _ _ S h1 ht hS => exact ht.inv_b.1
theorem AVR.inv_str {v : Value} {x : ByteArray} (h : AVR w G H Av v (.d (.s x))) : v = .string x := by
  cases h with
  | d _ _ S h1 ht hS => exact ht.inv_s.1
theorem AVR.int (k : IntKind) (n : Int) : AVR w G H Av (.int k n) (.d (.i k n)) := .sc rfl (.i k n)

theorem opField_ok (hT : T.ok P = true) {ty : TypeId} {p : AV} {f : Nat} {pv : Value} (hp : AVR w G H Av pv p) {av : AV} (hm : opField T H ty p f = some av) :
    ∃ v, (Instr.fieldAt ty pv f).run P w = .ok v w ∧ AVR w G H Av v av := by
  simp only [opField, Option.bind_eq_some_iff] at hm
  obtain ⟨ti, hti, hm⟩ := hm
  have hok := tiok hT hti
  cases hk : ti.kind with
  | strct fs =>
    rw [hk] at hm
    simp only [Option.bind_eq_some_iff] at hm
    obtain ⟨⟨fo, ft⟩, hf, hm⟩ := hm
    obtain ⟨fields, hu, hmap, hne⟩ := hok.strct hk
    obtain ⟨fd, hfd, he⟩ : ∃ fd, fields[f]? = some fd ∧ (fd.offset, fd.type) = (fo, ft) := by
      rw [← hmap] at hf
      simp only [List.getElem?_map, Option.map_eq_some_iff] at hf
      obtain ⟨fd, h1, h2⟩ := hf
      exact ⟨fd, by simpa using h1, h2⟩
    simp only [Prod.mk.injEq] at he
    have hsz : P.cellsOf fd.type ≠ 0 := hne fd (by rw [Array.mem_toList_iff]; exact Array.mem_of_getElem? hfd)
    have hsize : ∃ i, P.info? fd.type = some i ∧ i.size ≠ 0 := by
      unfold Program.cellsOf at hsz
      cases hi : P.info? fd.type with
      | none => simp [hi] at hsz
      | some i => exact ⟨i, rfl, by simpa [hi] using hsz⟩
    obtain ⟨i, hi, hi0⟩ := hsize
    have hrun : ∀ g o, (Instr.fieldAt ty (.pointer (some ⟨g, o, none⟩)) f).run P w = .ok (.pointer (some ⟨g, o + fo, none⟩)) w := by
      intro g o
      have hplace : (fieldPlace ⟨g, o, none⟩ fd).run P w = .ok ⟨g, o + fo, none⟩ w := by
        simp [fieldPlace, Go.sizeOf, typeInfo, hi, hi0, add_at, he.1]
      simp [Instr.fieldAt, run_underlying hu, hfd, Instr.sureAddr, hplace]
    cases hp with
    | a k o cs hk =>
      simp only [hk, Option.some.injEq] at hm
      subst hm
      exact ⟨_, hrun _ _, .a k _ cs hk⟩
    | e k i o sz xs dp fz ve hk hi =>
      simp only [hk, Option.some.injEq] at hm
      subst hm
      exact ⟨_, by rw [hrun, Nat.add_assoc], .e k i _ sz xs dp fz ve hk hi⟩
    | q g bs o cur el fr vs cs S hg hv h1 ht hb hS =>
      simp only [Option.some.injEq] at hm
      subst hm
      exact ⟨_, by rw [hrun, Nat.add_assoc], .q g bs _ cur el fr vs cs S hg hv h1 ht hb hS⟩
    | d v x S h1c ht hS =>
      cases ht with
      | p g o cur e fr vs ds S hg hv h1' ho hs =>
        simp only [Option.some.injEq] at hm
        subst hm
        exact ⟨_, hrun _ _, .q g o _ cur e fr vs _ S hg hv h1' hs (hS g (by simp)) fun b hb => hS b (by simp [hb])⟩
      | _ => first | (cases hm; done) | simp_all
    | _ => first | (cases hm; done) | simp_all
  | _ => rw [hk] at hm; simp at hm

theorem opIndex_ok (hT : T.ok P = true) (h : RelG B G s a w) {ty : TypeId} {x ix : AV} {xv iv : Value} (hx : AVR w G s.heap (Ban B.F G s.heap) xv x) (hi : AVR w G s.heap (Ban B.F G s.heap) iv ix) {av : AV} (hm : opIndex T s.heap ty x ix = some av) :
    ∃ v, (Instr.indexAt ty xv iv).run P w = .ok v w ∧ AVR w G s.heap (Ban B.F G s.heap) v av := by
  simp only [opIndex, Option.bind_eq_some_iff] at hm
  obtain ⟨ti, hti, hm⟩ := hm
  have hok := tiok hT hti
  cases hk : ti.kind with
  | slice e =>
    rw [hk] at hm
    simp only [Option.bind_eq_some_iff] at hm
    obtain ⟨te, hte, hm⟩ := hm
    have hoke := tiok hT hte
    have hu := hok.slice hk
    split at hm
    case h_2 => cases hm
    rename_i kk n
    obtain rfl := hi.inv_int
    have hrun : ∀ (g o len c : Nat), 0 ≤ n → n < (len : Int) → (Instr.indexAt ty (.slice (some ⟨g, o, none⟩) len c) (.int kk n)).run P w = .ok (.pointer (some ⟨g, o + n.toNat * te.size, none⟩)) w := by
      intro g o len c h0 h1
      have hz := hoke.sizeOf (w := w)
      simp [Instr.indexAt, asIntOf, run_underlying hu, h0, h1, hz, add_at]
    cases hx with
    | r k sz xs dp fz ve ad hk ha =>
      simp only [hk] at hm
      split at hm
      case isFalse => cases hm
      rename_i hsz
      split at hm
      case isFalse => cases hm
      rename_i hn
      simp only [Option.some.injEq] at hm
      subst hm
      have hcap := (h.obj k _ hk : RowR w (Ban B.F G s.heap) (G k) sz xs dp fz).cap
      have hlt : 0 < (G k).cap := by omega
      refine ⟨_, by rw [ha hlt]; exact hrun _ _ _ _ hn.1 hn.2, ?_⟩
      have := AVR.e (w := w) (G := G) (H := s.heap) (Av := Ban B.F G s.heap) k n.toNat 0 sz xs dp fz ve hk (by omega)
      rw [Nat.add_zero] at this
      rw [← hsz]
      exact this
    | d v x S h1 ht hS =>
      cases ht with
      | z ad c sz ho =>
        simp only at hm
        split at hm
        case isFalse => cases hm
        split at hm
        case isFalse => cases hm
        rename_i hn
        simp at hn
        omega
      | l g o c sz cur e' fr vs xs S hg hc hmx hl hv hone hxx ho hs =>
        simp only at hm
        split at hm
        case isFalse => cases hm
        rename_i hsz
        split at hm
        case isFalse => cases hm
        rename_i hn
        simp only [Option.some.injEq] at hm
        subst hm
        have hil : n.toNat < xs.length := by omega
        obtain ⟨y, hy⟩ : ∃ y, xs[n.toNat]? = some y := ⟨_, List.getElem?_eq_getElem hil⟩
        have hyl : y.length = sz := hxx y (List.mem_of_getElem? hy)
        have hgd : xs.getD n.toNat [] = y := by rw [List.getD_eq_getElem?_getD, hy]; rfl
        rw [hgd]
        have hmul : (n.toNat + 1) * sz ≤ xs.length * sz := Nat.mul_le_mul_right _ hil
        rw [Nat.succ_mul] at hmul
        refine ⟨_, hrun _ _ _ _ hn.1 hn.2, ?_⟩
        obtain ⟨S1, t1, t2, _⟩ := hs.drop (n.toNat * sz)
        obtain ⟨S2, t3, t4, _⟩ := t1.take sz
        have hds : (xs.flatten.drop (n.toNat * sz)).take sz = y := by
          apply List.ext_getElem?
          intro j
          rw [List.getElem?_take]
          split
          · rename_i hj
            rw [List.getElem?_drop, flat_get hxx hy (by omega)]
          · rw [List.getElem?_eq_none (by omega)]
        rw [hds] at t3
        rw [← hsz]
        exact AVR.q g (o + n.toNat * sz) 0 cur e' fr _ y S2 hg (fun j v hj => by
          rw [List.getElem?_take] at hj
          split at hj
          · rw [List.getElem?_drop] at hj
            rw [Nat.add_assoc]
            exact hv _ _ hj
          · cases hj) (fun v hv => hone v (List.mem_of_mem_drop (List.mem_of_mem_take hv))) t3 (hS g (by simp)) fun b hb => hS b (by simp [t2 b (t4 b hb)])
      | _ => first | (cases hm; done) | simp_all
    | _ => first | (cases hm; done) | simp_all
  | _ => rw [hk] at hm; simp at hm

theorem opByte_ok (hT : T.ok P = true) {ty : TypeId} {x ix : AV} {xv iv : Value} (hx : AVR w G H Av xv x) (hi : AVR w G H Av iv ix) {av : AV} (hm : opByte T ty x ix = some av) :
    ∃ v, (Instr.index ty xv iv).run P w = .ok v w ∧ AVR w G H Av v av := by
  simp only [opByte, Option.bind_eq_some_iff] at hm
  obtain ⟨ti, hti, hm⟩ := hm
  have hok := tiok hT hti
  cases hk : ti.kind with
  | str =>
    rw [hk] at hm
    simp only at hm
    split at hm
    case h_2 => cases hm
    rename_i str kk n
    obtain rfl := hi.inv_int
    obtain rfl := hx.inv_str
    split at hm
    case isFalse => cases hm
    rename_i hn
    simp only [Option.some.injEq] at hm
    subst hm
    have hlt : n.toNat < str.size := by omega
    have hb : str[n.toNat]? = some (str.data.getD n.toNat 0) := by
      have : str[n.toNat]? = str.data[n.toNat]? := rfl
      have hs : n.toNat < str.data.size := hlt
      rw [this, Array.getD_eq_getD_getElem?, Array.getElem?_eq_getElem hs]
      rfl
    refine ⟨.int .u8 (byteAt str n), ?_, .int _ _⟩
    simp [Instr.index, asIntOf, run_underlying (hok.str hk), hn.1, hb, byteAt]
  | _ => rw [hk] at hm; simp at hm

theorem opLen_ok (hT : T.ok P = true) (h : RelG B G s a w) {ty ty' : TypeId} {x : AV} {xv : Value} (hx : AVR w G s.heap (Ban B.F G s.heap) xv x) {av : AV} (hm : opLen T s.heap ty x = some av) :
    ∃ v, (Builtin.len_ #[ty] ty' #[xv]).run P w = .ok v w ∧ AVR w G s.heap (Ban B.F G s.heap) v av := by
  simp only [opLen, Option.bind_eq_some_iff] at hm
  obtain ⟨ti, hti, hm⟩ := hm
  have hok := tiok hT hti
  cases hk : ti.kind with
  | str =>
    rw [hk] at hm
    simp only at hm
    split at hm
    case h_2 => cases hm
    obtain rfl := hx.inv_str
    simp only [Option.some.injEq] at hm
    subst hm
    exact ⟨_, by simp [Builtin.len_, run_underlying (hok.str hk)]; rfl, .int _ _⟩
  | slice e =>
    rw [hk] at hm
    have hrun : ∀ (ad : Option Addr) (n c : Nat), (Builtin.len_ #[ty] ty' #[.slice ad n c]).run P w = .ok (.int .i64 n) w := by
      intro ad n c
      simp [Builtin.len_, run_underlying (hok.slice hk), goInt]
    cases hx with
    | r k sz xs dp fz ve ad hk' ha =>
      simp only [hk', Option.some.injEq] at hm
      subst hm
      exact ⟨_, hrun _ _ _, .int _ _⟩
    | z sz =>
      simp only [Option.some.injEq] at hm
      subst hm
      exact ⟨_, hrun _ _ _, .int _ _⟩
    | m k i o sz xs dp fz ve v z ys hk' hj hvj h1 =>
      simp only [hk'] at hm
      split at hm
      case isFalse => cases hm
      rename_i hc
      have hR : RowR w (Ban B.F G s.heap) (G k) sz xs dp fz := h.obj k _ hk'
      obtain ⟨x, hx⟩ : ∃ x, xs[i]? = some x := ⟨_, List.getElem?_eq_getElem hc.2.1⟩
      have hgd : xs.getD i [] = x := by rw [List.getD_eq_getElem?_getD, hx]; rfl
      have hfx := flat_get hR.uni hx hc.2.2
      rw [hfx] at hj
      have hgo : x.getD o .u = .l z ys := by rw [List.getD_eq_getElem?_getD, hj]; rfl
      rw [hgd, hgo] at hm
      simp only [Option.some.injEq] at hm
      subst hm
      obtain ⟨u, S1, hu, ht, hS, _⟩ := hR.tr.get (hfx.trans hj)
      rw [hvj] at hu
      cases hu
      cases ht with
      | z ad c sz ho => exact ⟨_, hrun _ _ _, .int _ _⟩
      | l g o c sz cur e' fr vs xs S hg hc hmx hl hv hone hxx ho hs => exact ⟨_, hrun _ _ _, .int _ _⟩
    | mo k i o sz xs dp fz ve ve' v hk' hlt =>
      simp only [hk'] at hm
      split at hm
      · rename_i hc; omega
      · cases hm
    | md k ve i o v hk' => simp [hk'] at hm
    | d v x S h1 ht hS =>
      cases ht with
      | z ad c sz ho =>
        simp only [Option.some.injEq] at hm
        subst hm
        exact ⟨_, hrun _ _ _, .int _ _⟩
      | l g o c sz cur e' fr vs xs S hg hc hmx hl hv hone hxx ho hs =>
        simp only [Option.some.injEq] at hm
        subst hm
        exact ⟨_, hrun _ _ _, .int _ _⟩
      | _ => first | (cases hm; done) | simp_all
    | _ => first | (cases hm; done) | simp_all
  | _ => rw [hk] at hm; simp at hm
end rel
end Go.Fs

set_option linter.unusedVariables false
set_option linter.constructorNameAsVariable false
namespace Go.Fs
open Go.RowKit

section rel
variable {P : Program} {T : Tab} {B : Ctx} {G : Nat → GI} {s : St} {a : Act} {w w' : World}

/-- A row takes the place of objects that were given up for it. -/
theorem RelG.putRow (h : RelG B G s a w) {H1 : Nat → Option Ob} (hkeys : ∀ k, H1 k = s.heap k ∨ (s.heap k ≠ none ∧ H1 k = some .dead)) {k : Nat} (hk : H1 k = none) (gi : GI) (sz : Nat) (xs : List (List D)) (dp : Bool) (ve : Nat)
    (hr : Rest w w') (hw : ∀ b, b < w.heap.size → (∀ i, H1 i ≠ s.heap i → b ∉ ownOf (G i) (s.heap i)) → w'.heap[b]? = w.heap[b]?)
    (hsub : ∀ b ∈ ownOf gi (some (.row sz xs dp false ve)), (∃ i, H1 i ≠ s.heap i ∧ b ∈ ownOf (G i) (s.heap i)) ∨ w.heap.size ≤ b)
    (hnd : (ownOf gi (some (.row sz xs dp false ve))).Nodup)
    (hobj : RowR w' (Ban B.F (upd G k gi) (upd H1 k (some (.row sz xs dp false ve)))) gi sz xs dp false) :
    RelG B (upd G k gi) { s with heap := upd H1 k (some (.row sz xs dp false ve)) } a w' := by
  have hks : s.heap k = none := by
    rcases hkeys k with e | ⟨_, e⟩
    · rw [← e]; exact hk
    · rw [hk] at e; cases e
  have hdead : ∀ i, H1 i ≠ s.heap i → H1 i = some .dead := fun i hn => (hkeys i).elim (fun e => absurd e hn) fun e => e.2
  have hne : ∀ i, H1 i ≠ s.heap i → i ≠ k := fun i hn e => by subst e; rw [hk, hks] at hn; exact hn rfl
  refine h.step (w' := w') (G' := upd G k gi) _ (fun i => i = k ∨ H1 i ≠ s.heap i) hr ?_ ?_ ?_ ?_ ?_ ?_ ?_
  · intro b hb hn
    exact hw b hb fun i hi => hn i (.inr hi)
  · intro i hi
    simp only [not_or, ne_eq, Classical.not_not] at hi
    exact ⟨(upd_ne _ _ hi.1).trans hi.2, upd_ne _ _ hi.1⟩
  · intro i o hi ho
    have hi' : i ≠ k := fun e => by subst e; rw [hks] at ho; cases ho
    have hd := hdead i (hi.resolve_left hi')
    exact ⟨.dead, by rw [upd_ne _ _ hi']; exact hd, .dead _⟩
  · intro i hi b hb
    by_cases e : i = k
    · subst e
      rw [upd_same, upd_same] at hb
      rcases hsub b hb with ⟨j, hj, hm⟩ | hge
      · exact .inl ⟨j, .inr hj, hm⟩
      · exact .inr hge
    · rw [upd_ne _ _ e, upd_ne _ _ e, hdead i (hi.resolve_left e)] at hb
      simp [ownOf] at hb
  · intro i hi
    by_cases e : i = k
    · subst e; rw [upd_same, upd_same]; exact hnd
    · rw [upd_ne _ _ e, upd_ne _ _ e, hdead i (hi.resolve_left e)]
      simp [ownOf]
  · intro i j hi hj b hb hb'
    by_cases e : i = k
    · by_cases e2 : j = k
      · rw [e, e2]
      · rw [upd_ne _ _ e2, upd_ne _ _ e2, hdead j (hj.resolve_left e2)] at hb'
        simp [ownOf] at hb'
    · rw [upd_ne _ _ e, upd_ne _ _ e, hdead i (hi.resolve_left e)] at hb
      simp [ownOf] at hb
  · intro i o hi ho
    by_cases e : i = k
    · subst e; rw [upd_same] at ho ⊢; cases ho; exact hobj
    · rw [upd_ne _ _ e, hdead i (hi.resolve_left e)] at ho
      cases ho
      trivial

theorem own_put {H1 : Nat → Option Ob} {k : Nat} {gi : GI} {o : Ob} {b : Nat} (hb : Ban B.F (upd G k gi) (upd H1 k (some o)) b) : Ban B.F G H1 b ∨ b ∈ ownOf gi (some o) := ban_new hb

theorem ban_kill {k b : Nat} (hb : Ban B.F G (upd s.heap k (some .dead)) b) : Ban B.F G s.heap b := hb.imp (fun h => (own_kill h).1) id

end rel
end Go.Fs

set_option linter.unusedVariables false
set_option linter.constructorNameAsVariable false
namespace Go.Fs
open Go.RowKit

section rel
variable {P : Program} {T : Tab} {B : Ctx} {G : Nat → GI} {s : St} {a : Act} {w : World} {H : Nat → Option Ob} {Av : Nat → Prop}

/-- A bound, as a value. -/
inductive BndR (w : World) (G : Nat → GI) (H : Nat → Option Ob) (Av : Nat → Prop) : Option Value → Option AV → Prop
  | none : BndR w G H Av none none
  | some (v : Value) (av : AV) (h : AVR w G H Av v av) : BndR w G H Av (some v) (some av)

theorem run_bounds {isSlice : Bool} {len cap d h l : Nat} {lo hi : Option Value} {lo' hi' : Option AV} (hlo : BndR w G H Av lo lo') (hhi : BndR w G H Av hi hi') (e1 : bnd hi' len = some h) (e2 : bnd lo' 0 = some l)
    (h1 : l ≤ h) (h2 : h ≤ cap) : (Instr.sliceBounds isSlice len cap lo hi none).run P w = .ok (l, h, cap) w := by
  have hb : ∀ {v : Value} {av : AV} {n : Nat} (y : Nat) (code : BoundsCode) (dd : Nat), AVR w G H Av v av → bnd (some av) dd = some n → n ≤ y → (Instr.sliceBound v y code).run P w = .ok n w := by
    intro v av n y code dd hv he hy
    unfold bnd at he
    split at he
    · rename_i hh; cases hh
    · rename_i k m hh
      simp only [Option.some.injEq] at hh
      subst hh
      obtain rfl := hv.inv_int
      split at he
      · rename_i h0
        simp only [Option.some.injEq] at he
        have : 0 ≤ m ∧ m ≤ (y : Int) := by omega
        simp [Instr.sliceBound, asIntOf, this, he]
      · cases he
    · cases he
  unfold Instr.sliceBounds
  cases hlo with
  | none =>
    simp only [bnd, Option.some.injEq] at e2
    subst e2
    cases hhi with
    | none => simp only [bnd, Option.some.injEq] at e1; subst e1; rfl
    | some v av hv =>
      have r1 := fun code => hb cap code _ hv e1 h2
      simp only [Sem.run_bind, Sem.run_pure, Result.andThen_ok, r1]
  | some u au hu =>
    have r2 := fun code => hb h code _ hu e2 h1
    cases hhi with
    | none =>
      simp only [bnd, Option.some.injEq] at e1
      subst e1
      simp only [Sem.run_bind, Sem.run_pure, Result.andThen_ok, r2]
    | some v av hv =>
      have r1 := fun code => hb cap code _ hv e1 h2
      simp only [Sem.run_bind, Sem.run_pure, Result.andThen_ok, r1, r2]

theorem opSlice_ok (hT : T.ok P = true) (h : RelG B G s a w) {ty : TypeId} {x : AV} {xv : Value} {lo hi : Option AV} {lov hiv : Option Value} (hx : AVR w G s.heap (Ban B.F G s.heap) xv x)
    (hlo : BndR w G s.heap (Ban B.F G s.heap) lov lo) (hhi : BndR w G s.heap (Ban B.F G s.heap) hiv hi) {av : AV} {H' : Nat → Option Ob} {dst : Nat} (hm : opSlice T s.heap dst ty x lo hi = some (av, H')) :
    ∃ v G', (Instr.sliceAt ty xv lov hiv none).run P w = .ok v w ∧ RelG B G' { s with heap := H' } a w ∧ AVR w G' H' (Ban B.F G' H') v av := by
  simp only [opSlice, Option.bind_eq_some_iff] at hm
  obtain ⟨ti, hti, hm⟩ := hm
  have hok := tiok hT hti
  cases hk : ti.kind with
  | str =>
    rw [hk] at hm
    simp only at hm
    split at hm
    case h_2 => cases hm
    rename_i str
    obtain rfl := hx.inv_str
    simp only [Option.bind_eq_some_iff] at hm
    obtain ⟨h', e1, l', e2, hm⟩ := hm
    split at hm
    case isFalse => cases hm
    rename_i hc
    simp only [Option.some.injEq, Prod.mk.injEq] at hm
    obtain ⟨rfl, rfl⟩ := hm
    have hb := run_bounds (P := P) (isSlice := false) (cap := str.size) (d := 0) hlo hhi e1 e2 hc.1 hc.2
    refine ⟨.string (str.extract l' h'), G, ?_, h, .sc rfl (.s _)⟩
    unfold Instr.sliceAt
    simp only [Sem.run_bind, run_underlying (hok.str hk), Result.andThen_ok]
    unfold Instr.slice
    simp only [Sem.run_bind, run_underlying (hok.str hk), Result.andThen_ok]
    simp [hb]
  | slice e =>
    rw [hk] at hm
    simp only [Option.bind_eq_some_iff] at hm
    obtain ⟨te, hte, hm⟩ := hm
    have hoke := tiok hT hte
    have hu := hok.slice hk
    have hrun : ∀ (ad : Option Addr) (n c h' l' : Nat), bnd hi n = some h' → bnd lo 0 = some l' → l' ≤ h' → h' ≤ c →
        (Instr.sliceAt ty (.slice ad n c) lov hiv none).run P w = .ok (.slice (if c = l' then ad else ad.map (·.add (l' * te.size))) (h' - l') (c - l')) w := by
      intro ad n c h' l' e1 e2 hc1 hc2
      have hb := run_bounds (P := P) (isSlice := true) (cap := c) (d := 0) hlo hhi e1 e2 hc1 hc2
      unfold Instr.sliceAt
      simp only [Sem.run_bind, run_underlying hu, Result.andThen_ok]
      unfold Instr.slice
      simp only [Sem.run_bind, run_underlying hu, Result.andThen_ok]
      simp only [hb, Result.andThen_ok, hoke.sizeOf w, Sem.run_pure]
    cases hx with
    | r k sz xs dp fz ve ad hk' ha =>
      simp only [hk', Option.bind_eq_some_iff] at hm
      obtain ⟨h', e1, l', e2, hm⟩ := hm
      split at hm
      case isFalse => cases hm
      rename_i hc
      have hR : RowR w (Ban B.F G s.heap) (G k) sz xs dp fz := h.obj k _ hk'
      have hcap := hR.cap
      have hr := hrun ad xs.length (G k).cap h' l' e1 e2 hc.2.1 (by omega)
      have hle : ((xs.drop l').take (h' - l')).length = h' - l' := by rw [List.length_take, List.length_drop]; omega
      have had : l' < (G k).cap → (if (G k).cap = l' then ad else ad.map (·.add (l' * te.size))) = some ⟨(G k).blk, (G k).off + l' * sz, none⟩ := fun hlt => by
        rw [if_neg (by omega), ha (by omega)]
        simp only [Option.map_some, add_at, hc.1]
      have hcut := hR.window (off := l') (len := h' - l') (ad := if (G k).cap = l' then ad else ad.map (·.add (l' * te.size))) (by omega) had
      cases fz with
      | true =>
        simp only [if_true, Option.some.injEq, Prod.mk.injEq] at hm
        obtain ⟨rfl, rfl⟩ := hm
        obtain ⟨S, t1, t2, t3⟩ := hcut
        refine ⟨_, G, hr, h, .d _ _ S rfl t1.shared fun b hb => ?_⟩
        obtain ⟨hc0, hb⟩ := t2 b hb
        rcases List.mem_cons.1 hb with rfl | hb
        · exact hR.frz rfl (by omega)
        · exact hR.sub (.inr rfl) b hb
      | false =>
        simp only [Bool.false_eq_true, if_false] at hm
        split at hm
        case h_2 => cases hm
        rename_i hd
        simp only [Option.some.injEq, Prod.mk.injEq] at hm
        obtain ⟨rfl, rfl⟩ := hm
        have hne : s.heap k ≠ none := by rw [hk']; simp
        have hkd : k ≠ dst := fun e => by subst e; rw [hk'] at hd; cases hd
        have hH1 : (upd s.heap k (some .dead)) dst = none := by rw [upd_ne _ _ (Ne.symm hkd)]; exact hd
        have hkeys : ∀ j, (upd s.heap k (some .dead)) j = s.heap j ∨ (s.heap j ≠ none ∧ (upd s.heap k (some .dead)) j = some .dead) := by
          intro j
          by_cases e' : j = k
          · subst e'; exact .inr ⟨hne, upd_same ..⟩
          · exact .inl (upd_ne _ _ e')
        by_cases hz0 : (G k).cap - l' = 0
        · let gi : GI := { blk := (G k).blk, off := 0, cap := 0, vs := [], sub := [] }
          have hnil : (xs.drop l').take (h' - l') = [] := List.eq_nil_of_length_eq_zero (by rw [hle]; omega)
          have hhl : h' - l' = 0 := by omega
          rw [hnil]
          refine ⟨_, upd G dst gi, hr, h.putRow (w' := w) hkeys hH1 gi sz [] dp 0 (.refl w) (fun _ _ _ => rfl) (by simp [ownOf, gi]) (by simp [ownOf, gi]) (RowR.mkVoid ..), ?_⟩
          have := AVR.r (w := w) (G := upd G dst gi) (H := upd (upd s.heap k (some .dead)) dst (some (.row sz [] dp false 0))) (Av := Ban B.F (upd G dst gi) (upd (upd s.heap k (some .dead)) dst (some (.row sz [] dp false 0)))) dst sz [] dp false 0 (if (G k).cap = l' then ad else ad.map (·.add (l' * te.size))) (upd_same ..) (fun hlt => by
            rw [upd_same] at hlt
            exact absurd hlt (Nat.lt_irrefl 0))
          rw [upd_same] at this
          rw [hhl, hz0]
          exact this
        obtain ⟨hcells, r2, r3, r4, r5, r6, r7, r8, r9, r10⟩ := hR
        have hc0 : (G k).cap ≠ 0 := by omega
        obtain ⟨cur, el, hg, hcp, hvs⟩ := hcells (by omega)
        have hm' : (l' + (h' - l')) * sz ≤ (G k).vs.length := by rw [r4]; exact Nat.mul_le_mul_right _ (by omega)
        rw [Nat.add_mul] at hm'
        obtain ⟨S1, t1, t2, t3⟩ := r7.drop (l' * sz)
        obtain ⟨S2, t4, t5, t6⟩ := t1.take ((h' - l') * sz)
        have hfl : ((xs.drop l').take (h' - l')).flatten = (xs.flatten.drop (l' * sz)).take ((h' - l') * sz) := by
          rw [flat_take (fun x hx => r6 x (List.mem_of_mem_drop hx)), flat_drop r6]
        have hcs : ((G k).cap - l') * sz + l' * sz = (G k).cap * sz := by rw [← Nat.add_mul]; congr 1; omega
        have hsubk : (G k).blk ∉ (G k).sub := by
          cases hdp : dp with
          | true =>
            have := h.nodup k
            simp only [hk', hdp, ownOf, if_true, hc0, if_false] at this
            exact (List.nodup_cons.1 this).1
          | false => exact fun hb => r9 (.inl hdp) _ hb (.inl ⟨k, by rw [hk']; simp [ownOf, hc0]⟩)
        let gi : GI := { blk := (G k).blk, off := (G k).off + l' * sz, cap := (G k).cap - l', vs := ((G k).vs.drop (l' * sz)).take ((h' - l') * sz), sub := S2 }
        have hchg : (upd s.heap k (some .dead)) k ≠ s.heap k := by rw [upd_same, hk']; simp
        have hmem : ∀ b, b = (G k).blk ∨ (dp = true ∧ b ∈ S2) → b ∈ ownOf (G k) (s.heap k) := by
          rintro b (rfl | ⟨hdp, hb⟩)
          · rw [hk']; simp [ownOf, hc0]
          · rw [hk', hdp]; simp [ownOf, hc0, t2 b (t5 b hb)]
        refine ⟨_, upd G dst gi, hr, ?_, ?_⟩
        · refine h.putRow (w' := w) hkeys hH1 gi sz ((xs.drop l').take (h' - l')) dp 0 (.refl w) (fun _ _ _ => rfl) ?_ ?_ ?_
          · intro b hb
            refine .inl ⟨k, hchg, hmem b ?_⟩
            cases dp with
            | false => simp [ownOf, gi, hz0] at hb; exact .inl hb
            | true => simp [ownOf, gi, hz0] at hb; exact hb.imp id fun h => ⟨rfl, h⟩
          · cases dp with
            | false => simp [ownOf, gi, hz0]
            | true => simp only [ownOf, if_true, gi, hz0, if_false]; exact List.nodup_cons.2 ⟨fun hb => hsubk (t2 _ (t5 _ hb)), t6 (t3 (r8 rfl))⟩
          · refine ⟨fun _ => ⟨cur, el, hg, by simp only [gi]; omega, ?_⟩, by rw [hle]; simp only [gi]; omega, by simp only [gi]; omega, ?_, fun v hv => r5 v (List.mem_of_mem_drop (List.mem_of_mem_take hv)), fun x hx => r6 x (List.mem_of_mem_drop (List.mem_of_mem_take hx)), by rw [hfl]; exact t4, fun hdp => t6 (t3 (r8 hdp)), ?_, by simp⟩
            · intro j v hj
              simp only [gi] at hj ⊢
              rw [List.getElem?_take] at hj
              split at hj
              · rw [List.getElem?_drop] at hj
                rw [Nat.add_assoc]
                exact hvs _ _ hj
              · cases hj
            · rw [hle]
              simp only [gi]
              rw [List.length_take, List.length_drop]
              omega
            · intro hdp b hb hn
              have hdp' : dp = false := by simpa using hdp
              rcases own_put hn with hn | hn
              · exact r9 (.inl hdp') b (t2 b (t5 b hb)) (ban_kill hn)
              · rw [hdp'] at hn
                simp [ownOf, gi, hz0] at hn
                subst hn
                exact hsubk (t2 _ (t5 _ hb))
        · have := AVR.r (w := w) (G := upd G dst gi) (H := upd (upd s.heap k (some .dead)) dst (some (.row sz ((xs.drop l').take (h' - l')) dp false 0))) (Av := Ban B.F (upd G dst gi) (upd (upd s.heap k (some .dead)) dst (some (.row sz ((xs.drop l').take (h' - l')) dp false 0)))) dst sz ((xs.drop l').take (h' - l')) dp false 0 (if (G k).cap = l' then ad else ad.map (·.add (l' * te.size))) (upd_same ..) (fun hlt => by
            rw [upd_same] at hlt ⊢
            simp only [gi] at hlt ⊢
            exact had (by omega))
          rw [upd_same, hle] at this
          exact this
    | d v x S h1 ht hS =>
      cases ht with
      | z ad c sz ho =>
        simp only [Option.bind_eq_some_iff] at hm
        obtain ⟨h', e1, l', e2, hm⟩ := hm
        split at hm
        case isFalse => cases hm
        rename_i hc
        simp only [Option.some.injEq, Prod.mk.injEq] at hm
        obtain ⟨rfl, rfl⟩ := hm
        simp only [List.length_nil] at hc
        obtain ⟨rfl, rfl⟩ : h' = 0 ∧ l' = 0 := by omega
        refine ⟨_, G, hrun _ _ _ _ _ e1 e2 (by omega) (by omega), h, ?_⟩
        simp only [Nat.sub_zero, List.drop_nil, List.take_nil]
        exact .d _ _ [] rfl (.z _ _ _ (by simp)) (by simp)
      | l g o c sz cur e' fr vs xs S hg hc' hmx hl hv hone hxx ho hs =>
        simp only [Option.bind_eq_some_iff] at hm
        obtain ⟨h', e1, l', e2, hm⟩ := hm
        split at hm
        case isFalse => cases hm
        rename_i hc
        simp only [Option.some.injEq, Prod.mk.injEq] at hm
        obtain ⟨rfl, rfl⟩ := hm
        refine ⟨_, G, hrun _ _ _ _ _ e1 e2 hc.2.1 (by omega), h, ?_⟩
        by_cases hcl : l' < c
        · have hle : ((xs.drop l').take (h' - l')).length = h' - l' := by rw [List.length_take, List.length_drop]; omega
          have hm' : (l' + (h' - l')) * sz ≤ vs.length := by rw [hl]; exact Nat.mul_le_mul_right _ (by omega)
          rw [Nat.add_mul] at hm'
          obtain ⟨S1, t1, t2, t3⟩ := hs.drop (l' * sz)
          obtain ⟨S2, t4, t5, t6⟩ := t1.take ((h' - l') * sz)
          have hfl : ((xs.drop l').take (h' - l')).flatten = (xs.flatten.drop (l' * sz)).take ((h' - l') * sz) := by
            rw [flat_take (fun x hx => hxx x (List.mem_of_mem_drop hx)), flat_drop hxx]
          have := Tr.l (w := w) (own := false) g (o + l' * sz) (c - l') sz cur e' fr ((vs.drop (l' * sz)).take ((h' - l') * sz)) ((xs.drop l').take (h' - l')) S2 hg (by omega) (by omega)
            (by rw [List.length_take, List.length_drop, hle]; omega) (fun j v hj => by
              rw [List.getElem?_take] at hj
              split at hj
              · rw [List.getElem?_drop] at hj
                rw [Nat.add_assoc]
                exact hv _ _ hj
              · cases hj)
            (fun v hv' => hone v (List.mem_of_mem_drop (List.mem_of_mem_take hv'))) (fun x hx => hxx x (List.mem_of_mem_drop (List.mem_of_mem_take hx)))
            (by simp) (by rw [hfl]; exact t4)
          rw [hle] at this
          rw [if_neg (by omega)]
          simp only [Option.map_some, add_at, ← hc.1]
          exact .d _ _ _ rfl this (by
            intro b hb
            rcases List.mem_cons.1 hb with rfl | hb
            · exact hS b (by simp)
            · exact hS b (by simp [t2 b (t5 b hb)]))
        · obtain ⟨e3, e4⟩ : h' - l' = 0 ∧ c - l' = 0 := by omega
          rw [e3, List.take_zero]
          exact .d _ _ [] rfl (.z _ _ _ (by simp)) (by simp)
      | _ => first | (cases hm; done) | simp_all
    | _ => first | (cases hm; done) | simp_all
  | _ => rw [hk] at hm; simp at hm
end rel
end Go.Fs

set_option linter.unusedVariables false
set_option linter.constructorNameAsVariable false
namespace Go.Fs
open Go.RowKit

/-! ### what makes memory -/
def opAlloc (T : Tab) (H : Nat → Option Ob) (dst : Nat) (ty : TypeId) : Option (AV × (Nat → Option Ob)) :=
  (T.ti ty).bind fun ti => match H dst with
  | none => some (.a dst 0, upd H dst (some (.box ti.zero)))
  | _ => none

def opBox (H : Nat → Option Ob) (dst : Nat) (x : AV) : Option (AV × (Nat → Option Ob)) :=
  if (cellsA x).all (oneA H) = true then match H dst with
  | none => some (.a dst 0, upd H dst (some (.box (cellsA x))))
  | _ => none else none

def fillA (pl : Nat → Option (Nat × Nat)) (cells : List AV) : List (Nat × AV) → Option (List AV)
  | [] => some cells
  | (i, av) :: rest => match pl i with
    | some (off, size) => if (cellsA av).length = size ∧ off + size ≤ cells.length then fillA pl (cells.take off ++ cellsA av ++ cells.drop (off + size)) rest else none
    | none => none

def placeT (T : Tab) (fs : List (Nat × TypeId)) (i : Nat) : Option (Nat × Nat) := (fs[i]?).bind fun x => (T.ti x.2).map fun ti => (x.1, ti.size)

/-- All fields of a struct have sizes that are known. -/
def sizesT (T : Tab) (fs : List (Nat × TypeId)) : Bool := fs.all fun x => (T.ti x.2).isSome

def opBuild (T : Tab) (H : Nat → Option Ob) (ty : TypeId) (parts : List (Nat × AV)) : Option AV :=
  (T.ti ty).bind fun ti => match ti.kind with
  | .strct fs => if (parts.all fun x => (cellsA x.2).all (oneA H)) = true ∧ sizesT T fs = true then (fillA (placeT T fs) ti.zero parts).map .g else none
  | _ => none

section rel
variable {P : Program} {T : Tab} {B : Ctx} {G : Nat → GI} {s : St} {a : Act} {w : World} {H : Nat → Option Ob} {Av : Nat → Prop}

theorem rest_alloc (w : World) (o : Obj) : Rest w (w.alloc o) := ⟨rfl, rfl, rfl, by simp⟩

theorem run_newRow (e : TypeId) (cs : Array Value) : (newRow e cs).run P w = .ok ⟨w.heap.size, 0, none⟩ (w.alloc (.cells cs e)) := by
  simp only [newRow, newObj, bind, Sem.bind, Sem.run, pure]
  rfl
theorem run_newVar (e : TypeId) (v : Value) : (newVar e v).run P w = .ok ⟨w.heap.size, 0, none⟩ (w.alloc (.cells v.cells e)) := run_newRow e v.cells

/-- A new variable. -/
theorem RelG.box (h : RelG B G s a w) {k : Nat} (hk : s.heap k = none) {vs : Array Value} {cs : List AV} (ty : TypeId) (hv : AVRL w G s.heap (Ban B.F G s.heap) vs.toList cs) (h1 : ∀ v ∈ vs.toList, v.oneCell' = true) :
    ∃ G', RelG B G' { s with heap := upd s.heap k (some (.box cs)) } a (w.alloc (.cells vs ty)) ∧ AVR (w.alloc (.cells vs ty)) G' (upd s.heap k (some (.box cs))) (Ban B.F G' (upd s.heap k (some (.box cs)))) (.pointer (some ⟨w.heap.size, 0, none⟩)) (.a k 0) := by
  let gi : GI := { blk := w.heap.size, off := 0, cap := 0, vs := [], sub := [] }
  have hold : ∀ b, b < w.heap.size → (w.alloc (.cells vs ty)).heap[b]? = w.heap[b]? := fun b hb => heap_alloc_old w _ b hb
  have hM := AVR.mono_both (w := w) (w' := w.alloc (.cells vs ty)) (G := G) (G' := upd G k gi) (H := s.heap) (H' := upd s.heap k (some (.box cs))) (Av := Ban B.F G s.heap) (Av' := Ban B.F (upd G k gi) (upd s.heap k (some (.box cs))))
    (fun b hb _ => hold b hb)
    (fun b hb ho => by
      rcases ban_new ho with ho | ho
      · exact ho
      · simp [ownOf, gi] at ho; omega)
    (fun i o ho => by
      have e : i ≠ k := fun e => by subst e; rw [hk] at ho; cases ho
      exact ⟨o, by rw [upd_ne _ _ e]; exact ho, by rw [upd_ne _ _ e]; exact Ob.to.refl _ _⟩)
  refine ⟨upd G k gi, h.new k gi (.box cs) hk (rest_alloc ..) hold (by simp [ownOf, gi]) (by simp [ownOf]) ⟨vs, ty, heap_alloc_new w _, hM.2 hv, h1⟩, ?_⟩
  have := AVR.a (w := w.alloc (.cells vs ty)) (G := upd G k gi) (H := upd s.heap k (some (.box cs))) (Av := Ban B.F (upd G k gi) (upd s.heap k (some (.box cs)))) k 0 cs (upd_same ..)
  rw [upd_same] at this
  exact this

theorem opAlloc_ok (hT : T.ok P = true) (h : RelG B G s a w) {dst : Nat} {ty : TypeId} {av : AV} {H' : Nat → Option Ob} (hm : opAlloc T s.heap dst ty = some (av, H')) :
    ∃ v w' G', (Instr.alloc ty true (.tuple #[])).run P w = .ok v w' ∧ RelG B G' { s with heap := H' } a w' ∧ AVR w' G' H' (Ban B.F G' H') v av := by
  simp only [opAlloc, Option.bind_eq_some_iff] at hm
  obtain ⟨ti, hti, hm⟩ := hm
  have hok := tiok hT hti
  split at hm
  case h_2 => cases hm
  rename_i hk
  simp only [Option.some.injEq, Prod.mk.injEq] at hm
  obtain ⟨rfl, rfl⟩ := hm
  obtain ⟨z, hz, hzz⟩ := hok.zeroValue w
  obtain ⟨hv, h1⟩ := zeroOK_ok (w := w) (G := G) (H := s.heap) (Av := Ban B.F G s.heap) hzz
  obtain ⟨G', hr, ha⟩ := h.box hk ty hv h1
  refine ⟨_, _, G', ?_, hr, ha⟩
  simp [Instr.alloc, hz, run_newVar]

theorem opBox_ok (h : RelG B G s a w) {dst : Nat} {ty : TypeId} {x : AV} {xv : Value} (hx : AVR w G s.heap (Ban B.F G s.heap) xv x) {av : AV} {H' : Nat → Option Ob} (hm : opBox s.heap dst x = some (av, H')) :
    ∃ v w' G', (Instr.box ty xv).run P w = .ok v w' ∧ RelG B G' { s with heap := H' } a w' ∧ AVR w' G' H' (Ban B.F G' H') v av := by
  simp only [opBox] at hm
  split at hm
  case isFalse => cases hm
  rename_i hall
  split at hm
  case h_2 => cases hm
  rename_i hk
  simp only [Option.some.injEq, Prod.mk.injEq] at hm
  obtain ⟨rfl, rfl⟩ := hm
  obtain ⟨hv, h1⟩ := cellsA_ok hx hall
  obtain ⟨G', hr, ha⟩ := h.box hk ty hv h1
  refine ⟨_, _, G', ?_, hr, ha⟩
  simp [Instr.box, run_newVar]

theorem fold_splice (off : Nat) : ∀ (l : List Value) (n : Nat) (cs : Array Value), off + n + l.length ≤ cs.size →
    ((l.zipIdx n).foldl (fun cs (x : Value × Nat) => cs.setIfInBounds (off + x.2) x.1) cs).toList = cs.toList.take (off + n) ++ l ++ cs.toList.drop (off + n + l.length)
  | [], n, cs, h => by simp
  | v :: l, n, cs, h => by
    simp only [List.length_cons] at h
    rw [List.zipIdx_cons, List.foldl_cons, fold_splice off l (n + 1) _ (by simp; omega)]
    simp only [Array.toList_setIfInBounds]
    have hlt : off + n < cs.toList.length := by rw [Array.length_toList]; omega
    rw [List.drop_set, if_pos (by omega)]
    have : (cs.toList.set (off + n) v).take (off + (n + 1)) = cs.toList.take (off + n) ++ [v] := by
      rw [show off + (n + 1) = off + n + 1 by omega, List.take_add_one, List.getElem?_set_self hlt, List.take_set_of_le (by omega)]
      rfl
    rw [this]
    simp only [List.append_assoc, List.singleton_append, List.length_cons]
    rw [show off + (n + 1) + l.length = off + n + (l.length + 1) by omega]

theorem fillA_ok {pl : Nat → Option (Nat × Nat)} : ∀ {parts : List (Nat × AV)} {vals : List (Nat × Value)} {cells : List AV} {cv : Array Value} {out : List AV},
    (parts.all fun x => (cellsA x.2).all (oneA H)) = true → vals.map (·.1) = parts.map (·.1) → AVRL w G H Av (vals.map (·.2)) (parts.map (·.2)) → AVRL w G H Av cv.toList cells → fillA pl cells parts = some out →
    ∃ ov, Instr.fill pl cv vals = some ov ∧ AVRL w G H Av ov.toList out
  | [], vals, cells, cv, out, _, hi, _, hc, hf => by
    simp only [fillA, Option.some.injEq] at hf
    subst hf
    have : vals = [] := by cases vals with | nil => rfl | cons x l => simp at hi
    subst this
    exact ⟨cv, rfl, hc⟩
  | (i, av) :: parts, [], cells, cv, out, _, hi, _, hc, hf => by simp at hi
  | (i, av) :: parts, (i', v) :: vals, cells, cv, out, hall, hi, hv, hc, hf => by
    simp only [List.map_cons, List.cons.injEq] at hi
    obtain ⟨rfl, hi⟩ := hi
    simp only [List.all_cons, Bool.and_eq_true] at hall
    simp only [List.map_cons] at hv
    cases hv with
    | cons _ _ _ _ hv hvs =>
      simp only [fillA] at hf
      split at hf
      case h_2 => cases hf
      rename_i off size hpl
      split at hf
      case isFalse => cases hf
      rename_i hsz
      obtain ⟨hcs, _⟩ := cellsA_ok hv hall.1
      have hl : v.cells.toList.length = size := by rw [hcs.length, hsz.1]
      have hl' : v.cells.size = size := by simpa using hl
      have hcl := hc.length
      rw [Array.length_toList] at hcl
      have hsp := fold_splice off v.cells.toList 0 cv (by rw [hl]; omega)
      rw [Nat.add_zero, hl] at hsp
      have hfold : v.cells.zipIdx.foldl (fun cs (x : Value × Nat) => cs.setIfInBounds (off + x.2) x.1) cv = (v.cells.toList.zipIdx 0).foldl (fun cs (x : Value × Nat) => cs.setIfInBounds (off + x.2) x.1) cv := by
        rw [← Array.foldl_toList, Array.toList_zipIdx]
      have hnew : AVRL w G H Av (v.cells.zipIdx.foldl (fun cs (x : Value × Nat) => cs.setIfInBounds (off + x.2) x.1) cv).toList (cells.take off ++ cellsA av ++ cells.drop (off + size)) := by
        rw [hfold, hsp]
        exact ((hc.take off).append hcs).append (hc.drop (off + size))
      obtain ⟨ov, ho, hov⟩ := fillA_ok hall.2 hi hvs hnew hf
      refine ⟨ov, ?_, hov⟩
      simp only [Instr.fill, hpl]
      have h2 := hsz.2
      rw [if_neg (by simp only [hl', Bool.or_eq_true, decide_eq_true_eq]; omega)]
      exact ho
end rel
end Go.Fs
namespace Go.Fs
open Go.RowKit
section rel
variable {P : Program} {T : Tab} {B : Ctx} {G : Nat → GI} {s : St} {a : Act} {w : World} {H : Nat → Option Ob} {Av : Nat → Prop}

theorem placeT_ok (hT : T.ok P = true) {fs : List (Nat × TypeId)} {fields : Array Field} (hmap : fields.toList.map (fun f => (f.offset, f.type)) = fs) (i : Nat) {p : Nat × Nat} (hp : placeT T fs i = some p) :
    ∃ f, fields[i]? = some f ∧ p = (f.offset, P.cellsOf f.type) ∧ ∀ w, (sizeOf f.type).run P w = .ok (P.cellsOf f.type) w := by
  simp only [placeT, Option.bind_eq_some_iff, Option.map_eq_some_iff] at hp
  obtain ⟨⟨fo, ft⟩, hf, ti, hti, rfl⟩ := hp
  rw [← hmap] at hf
  simp only [List.getElem?_map, Option.map_eq_some_iff, Prod.mk.injEq] at hf
  obtain ⟨f, h1, rfl, rfl⟩ := hf
  have hok := tiok hT hti
  refine ⟨f, by simpa using h1, by rw [hok.cells], fun w => by rw [hok.cells]; exact hok.sizeOf w⟩

theorem fillA_congr {pl pl' : Nat → Option (Nat × Nat)} : ∀ {parts : List (Nat × AV)} {cells out : List AV}, fillA pl cells parts = some out → (∀ x ∈ parts, ∀ p, pl x.1 = some p → pl' x.1 = some p) → fillA pl' cells parts = some out
  | [], cells, out, h, _ => h
  | (i, av) :: parts, cells, out, h, hp => by
    simp only [fillA] at h ⊢
    split at h
    case h_2 => cases h
    rename_i off size hpl
    rw [hp (i, av) (by simp) _ hpl]
    simp only
    split at h
    case isFalse => cases h
    rename_i hc
    rw [if_pos hc]
    exact fillA_congr h fun x hx => hp x (by simp [hx])

/-- 'mapM' of what answers by itself. -/
theorem run_mapM_pure {α β : Type} (f : α → Sem β) (g : α → β) (w : World) : ∀ (l : List α), (∀ x ∈ l, (f x).run P w = .ok (g x) w) → (l.mapM f).run P w = .ok (l.map g) w
  | [], _ => rfl
  | x :: l, h => by
    rw [List.mapM_cons, Sem.run_bind, h x (by simp), Result.andThen_ok, Sem.run_bind, run_mapM_pure f g w l fun y hy => h y (by simp [hy]), Result.andThen_ok]
    rfl

theorem run_places (hT : T.ok P = true) {fs : List (Nat × TypeId)} {fields : Array Field} (hmap : fields.toList.map (fun f => (f.offset, f.type)) = fs) (hs : sizesT T fs = true) (w : World) :
    (fields.mapM fun (f : Field) => (do pure (f.offset, ← sizeOf f.type) : Sem (Nat × Nat))).run P w = .ok (fields.map fun (f : Field) => (f.offset, P.cellsOf f.type)) w := by
  have hl := run_mapM_pure (P := P) (fun f : Field => (do pure (f.offset, ← sizeOf f.type) : Sem (Nat × Nat))) (fun f => (f.offset, P.cellsOf f.type)) w fields.toList (fun f hf => by
    have hm : (f.offset, f.type) ∈ fs := by rw [← hmap]; exact List.mem_map.2 ⟨f, hf, rfl⟩
    have := List.all_eq_true.1 hs _ hm
    obtain ⟨ti, hti⟩ := Option.isSome_iff_exists.1 this
    have hok := tiok hT hti
    rw [Sem.run_bind, hok.sizeOf w, Result.andThen_ok, hok.cells]
    rfl)
  rw [Array.mapM_eq_mapM_toList, Sem.run_map, hl]
  simp
  apply Array.ext'
  simp


theorem opBuild_ok (hT : T.ok P = true) (h : RelG B G s a w) {ty : TypeId} {parts : List (Nat × AV)} {vals : List (Nat × Value)} (hi : vals.map (·.1) = parts.map (·.1))
    (hv : AVRL w G s.heap (Ban B.F G s.heap) (vals.map (·.2)) (parts.map (·.2))) {av : AV} (hm : opBuild T s.heap ty parts = some av) :
    ∃ v, (Instr.build ty vals.toArray).run P w = .ok v w ∧ AVR w G s.heap (Ban B.F G s.heap) v av := by
  simp only [opBuild, Option.bind_eq_some_iff] at hm
  obtain ⟨ti, hti, hm⟩ := hm
  have hok := tiok hT hti
  cases hk : ti.kind with
  | strct fs =>
    rw [hk] at hm
    simp only at hm
    split at hm
    case isFalse => cases hm
    rename_i hall
    simp only [Option.map_eq_some_iff] at hm
    obtain ⟨out, hf, rfl⟩ := hm
    obtain ⟨fields, hu, hmap, hne⟩ := hok.strct hk
    obtain ⟨z, hz, hzz⟩ := hok.zeroValue w
    obtain ⟨hzv, _⟩ := zeroOK_ok (w := w) (G := G) (H := s.heap) (Av := Ban B.F G s.heap) hzz
    have hf' := fillA_congr (pl' := fun i => (fields.map fun (f : Field) => (f.offset, P.cellsOf f.type))[i]?) hf fun x _ p hp => by
      obtain ⟨f, h1, h2, _⟩ := placeT_ok hT hmap x.1 hp
      simp [h1, h2]
    obtain ⟨ov, ho, hov⟩ := fillA_ok hall.1 hi hv hzv hf'
    refine ⟨.agg ov, ?_, .g _ _ hov⟩
    have hpl := run_places (P := P) hT hmap hall.2 w
    simp only [Instr.build, Sem.run_bind, hz, run_underlying hu, Result.andThen_ok]
    rw [hpl]
    simp only [Result.andThen_ok]
    rw [ho]
    rfl
  | _ => rw [hk] at hm; simp at hm
end rel
end Go.Fs

set_option linter.unusedVariables false
set_option linter.constructorNameAsVariable false
namespace Go.Fs
open Go.RowKit

section rel
variable {P : Program} {T : Tab} {B : Ctx} {G : Nat → GI} {s : St} {a : Act} {w w' : World}

/-! ### literals -/
def chunk (sz : Nat) : Nat → List D → List (List D)
  | 0, _ => []
  | n + 1, ds => ds.take sz :: chunk sz n (ds.drop sz)

theorem chunk_flat (sz : Nat) : ∀ (n : Nat) (ds : List D), ds.length = n * sz → (chunk sz n ds).flatten = ds ∧ (chunk sz n ds).length = n ∧ ∀ x ∈ chunk sz n ds, x.length = sz
  | 0, ds, h => by
    have : ds = [] := List.eq_nil_of_length_eq_zero (by simpa using h)
    subst this
    simp [chunk]
  | n + 1, ds, h => by
    rw [Nat.succ_mul] at h
    obtain ⟨h1, h2, h3⟩ := chunk_flat sz n (ds.drop sz) (by rw [List.length_drop]; omega)
    refine ⟨by simp [chunk, h1], by simp [chunk, h2], ?_⟩
    intro x hx
    simp only [chunk, List.mem_cons] at hx
    rcases hx with rfl | hx
    · rw [List.length_take]; omega
    · exact h3 x hx

def opBuildSlice (T : Tab) (H : Nat → Option Ob) (dst : Nat) (ty : TypeId) (len : Nat) (parts : List (Nat × AV)) : Option (AV × (Nat → Option Ob)) :=
  (T.ti ty).bind fun ti => match ti.kind with
  | .slice e => (T.ti e).bind fun te =>
    if parts.map (·.1) = List.range len ∧ (len * te.size ≤ 16777216 ∧ 0 < te.size) ∧ (parts.all fun x => (cellsA x.2).all (oneA H) && ((cellsA x.2).length == te.size)) = true then
      (moveCs H (parts.flatMap fun x => cellsA x.2)).bind fun m => match m.2.2 dst with
        | none => some (.r dst, upd m.2.2 dst (some (.row te.size (chunk te.size len m.1) m.2.1 false 0)))
        | _ => none
    else none
  | _ => none

theorem fill_seq (size : Nat) : ∀ (vals : List (Nat × Value)) (k : Nat) (cv : Array Value), vals.map (·.1) = List.range' k vals.length → (∀ x ∈ vals, x.2.cells.size = size) → (k + vals.length) * size ≤ cv.size →
    ∃ ov, Instr.fill (fun i => some (i * size, size)) cv vals = some ov ∧ ov.toList = cv.toList.take (k * size) ++ (vals.flatMap fun x => x.2.cells.toList) ++ cv.toList.drop ((k + vals.length) * size)
  | [], k, cv, _, _, _ => ⟨cv, rfl, by simp⟩
  | (i, v) :: vals, k, cv, hi, hs, hc => by
    simp only [List.map_cons, List.length_cons, List.range'_succ, List.cons.injEq] at hi
    obtain ⟨rfl, hi⟩ := hi
    simp only [List.length_cons] at hc
    have hv : v.cells.size = size := hs (i, v) (by simp)
    have hvl : v.cells.toList.length = size := by simpa using hv
    have h1 : (i + 1) * size ≤ (i + (vals.length + 1)) * size := Nat.mul_le_mul_right _ (by omega)
    have h2 : (i + 1) * size = i * size + size := Nat.succ_mul ..
    have hsp := fold_splice (i * size) v.cells.toList 0 cv (by rw [hvl]; omega)
    rw [Nat.add_zero, hvl] at hsp
    have hfold : v.cells.zipIdx.foldl (fun cs (x : Value × Nat) => cs.setIfInBounds (i * size + x.2) x.1) cv = (v.cells.toList.zipIdx 0).foldl (fun cs (x : Value × Nat) => cs.setIfInBounds (i * size + x.2) x.1) cv := by
      rw [← Array.foldl_toList, Array.toList_zipIdx]
    have hnl : (v.cells.zipIdx.foldl (fun cs (x : Value × Nat) => cs.setIfInBounds (i * size + x.2) x.1) cv).toList = cv.toList.take (i * size) ++ v.cells.toList ++ cv.toList.drop (i * size + size) := by rw [hfold, hsp]
    have hns : (v.cells.zipIdx.foldl (fun cs (x : Value × Nat) => cs.setIfInBounds (i * size + x.2) x.1) cv).size = cv.size := by
      rw [← Array.length_toList, hnl]
      simp only [List.length_append, List.length_take, List.length_drop, Array.length_toList, hv]
      omega
    obtain ⟨ov, ho, hol⟩ := fill_seq size vals (i + 1) _ hi (fun x hx => hs x (by simp [hx])) (by rw [hns]; rw [show i + 1 + vals.length = i + (vals.length + 1) by omega]; exact hc)
    refine ⟨ov, ?_, ?_⟩
    · simp only [Instr.fill]
      rw [if_neg (by simp only [hv, Bool.or_eq_true, decide_eq_true_eq]; omega)]
      exact ho
    · rw [hol, hnl, h2]
      rw [List.take_append_of_le_length (by simp only [List.length_append, List.length_take, Array.length_toList, hvl]; omega)]
      rw [List.take_of_length_le (by simp only [List.length_append, List.length_take, Array.length_toList, hvl]; omega)]
      have h3 : (i + 1 + vals.length) * size = (i * size + size) + vals.length * size := by rw [Nat.add_mul, h2]
      have h4 : (i + (vals.length + 1)) * size = (i * size + size) + vals.length * size := by rw [Nat.add_mul, Nat.succ_mul]; omega
      have hpl : (cv.toList.take (i * size) ++ v.cells.toList).length = i * size + size := by simp only [List.length_append, List.length_take, Array.length_toList, hvl]; omega
      rw [h3, List.length_cons, h4, List.drop_append, List.drop_of_length_le (by rw [hpl]; omega), hpl, List.nil_append, List.drop_drop]
      rw [show i * size + size + (i * size + size + vals.length * size - (i * size + size)) = i * size + size + vals.length * size by omega]
      simp

theorem AVRL.flatMap {H : Nat → Option Ob} {Av : Nat → Prop} : ∀ {vals : List (Nat × Value)} {parts : List (Nat × AV)}, AVRL w G H Av (vals.map (·.2)) (parts.map (·.2)) → (parts.all fun x => (cellsA x.2).all (oneA H)) = true →
    AVRL w G H Av (vals.flatMap fun x => x.2.cells.toList) (parts.flatMap fun x => cellsA x.2)
  | [], [], _, _ => .nil
  | (i, v) :: vals, (j, av) :: parts, h, hall => by
    simp only [List.map_cons] at h
    simp only [List.all_cons, Bool.and_eq_true] at hall
    cases h with
    | cons _ _ _ _ h hs =>
      simp only [List.flatMap_cons]
      exact (cellsA_ok h hall.1).1.append (AVRL.flatMap hs hall.2)
  | [], _ :: _, h, _ => by cases h
  | _ :: _, [], h, _ => by cases h

theorem opBuildSlice_ok (hT : T.ok P = true) (h : RelG B G s a w) {dst : Nat} {ty : TypeId} {len : Nat} {parts : List (Nat × AV)} {vals : List (Nat × Value)} (hi : vals.map (·.1) = parts.map (·.1))
    (hv : AVRL w G s.heap (Ban B.F G s.heap) (vals.map (·.2)) (parts.map (·.2))) {av : AV} {H' : Nat → Option Ob} (hm : opBuildSlice T s.heap dst ty len parts = some (av, H')) :
    ∃ v w' G', (Instr.buildSlice ty len vals.toArray).run P w = .ok v w' ∧ RelG B G' { s with heap := H' } a w' ∧ AVR w' G' H' (Ban B.F G' H') v av := by
  simp only [opBuildSlice, Option.bind_eq_some_iff] at hm
  obtain ⟨ti, hti, hm⟩ := hm
  have hok := tiok hT hti
  cases hk : ti.kind with
  | slice e =>
    rw [hk] at hm
    simp only [Option.bind_eq_some_iff] at hm
    obtain ⟨te, hte, hm⟩ := hm
    have hoke := tiok hT hte
    split at hm
    case isFalse => cases hm
    rename_i hcond
    obtain ⟨hidx, ⟨hsmall, hpos⟩, hall⟩ := hcond
    simp only [Option.bind_eq_some_iff] at hm
    obtain ⟨⟨ds, f, H1⟩, hmv, hm⟩ := hm
    simp only at hm
    split at hm
    case h_2 => cases hm
    rename_i hd
    simp only [Option.some.injEq, Prod.mk.injEq] at hm
    obtain ⟨rfl, rfl⟩ := hm
    have hall1 : (parts.all fun x => (cellsA x.2).all (oneA s.heap)) = true := by
      rw [List.all_eq_true] at hall ⊢
      intro x hx
      have := hall x hx
      simp only [Bool.and_eq_true] at this
      exact this.1
    have hcells := hv.flatMap hall1
    obtain ⟨M, S', t', hone, n', o'⟩ := moveCs_ok h hcells hmv
    have hplen : parts.length = len := by have := congrArg List.length hidx; simpa using this
    have hvlen : vals.length = len := by have := congrArg List.length hi; simp at this; omega
    -- each part has its size
    have hsize : ∀ x ∈ vals, x.2.cells.size = te.size := by
      have key : ∀ {vals : List (Nat × Value)} {parts : List (Nat × AV)}, AVRL w G s.heap (Ban B.F G s.heap) (vals.map (·.2)) (parts.map (·.2)) →
          (parts.all fun x => (cellsA x.2).all (oneA s.heap) && ((cellsA x.2).length == te.size)) = true → ∀ x ∈ vals, x.2.cells.size = te.size := by
        intro vals
        induction vals with
        | nil => intro parts _ _ x hx; simp at hx
        | cons y vals ih =>
          intro parts hr hp x hx
          cases parts with
          | nil => cases hr
          | cons p parts =>
            simp only [List.map_cons] at hr
            simp only [List.all_cons, Bool.and_eq_true, beq_iff_eq] at hp
            cases hr with
            | cons _ _ _ _ hr hrs =>
              rcases List.mem_cons.1 hx with rfl | hx
              · have := (cellsA_ok hr hp.1.1).1.length
                rw [← Array.length_toList, this, hp.1.2]
              · exact ih hrs (by simpa [List.all_eq_true] using hp.2) x hx
      exact key hv hall
    obtain ⟨z, hz, hzz⟩ := hoke.zeroValue w
    let bcells : Array Value := (Array.range (len * te.size)).map ((if len * te.size = 0 then #[] else z.cells)[· % (if len * te.size = 0 then #[] else z.cells).size]!)
    have hbs : bcells.size = len * te.size := by simp [bcells]
    obtain ⟨ov, ho, hol⟩ := fill_seq te.size vals 0 bcells (by rw [hi, hidx, hvlen]; exact List.range_eq_range') hsize (by rw [hvlen, hbs, Nat.zero_add]; exact Nat.le_refl _)
    have hovl : ov.toList = vals.flatMap fun x => x.2.cells.toList := by
      rw [hol, Nat.zero_mul, List.take_zero, List.nil_append, hvlen, Nat.zero_add, ← hbs, ← Array.length_toList, List.drop_length, List.append_nil]
    have hdl : ds.length = len * te.size := by
      rw [← t'.length, ← hovl, hol]
      simp only [Nat.zero_mul, List.take_zero, List.nil_append, List.length_append, List.length_drop, Array.length_toList, hbs, hvlen, Nat.zero_add, Nat.sub_self, Nat.add_zero]
      rw [List.length_flatMap]
      simp only [Array.length_toList]
      have : ∀ (l : List (Nat × Value)), (∀ x ∈ l, x.2.cells.size = te.size) → (l.map fun x => x.2.cells.size).sum = l.length * te.size := by
        intro l
        induction l with
        | nil => simp
        | cons y l ih =>
          intro hl
          simp only [List.map_cons, List.sum_cons, List.length_cons]
          rw [ih fun x hx => hl x (by simp [hx]), hl y (by simp), Nat.succ_mul]
          omega
      rw [this vals hsize, hvlen]
    obtain ⟨hcf, hcl, hcu⟩ := chunk_flat te.size len ds hdl
    let gi : GI := { blk := w.heap.size, off := 0, cap := len, vs := vals.flatMap fun x => x.2.cells.toList, sub := S' }
    have hnS : w.heap.size ∉ S' := fun hb => by have := t'.lt _ hb; omega
    have hrun : (Instr.buildSlice ty len vals.toArray).run P w = .ok (.slice (some ⟨w.heap.size, 0, none⟩) len len) (w.alloc (.cells ov e)) := by
      unfold Instr.buildSlice
      simp only [Sem.run_bind, run_underlying (hok.slice hk), Result.andThen_ok, hoke.sizeOf w]
      rw [if_neg (by omega)]
      by_cases h0 : len * te.size = 0
      · simp only [h0, if_true, Sem.run_bind, Sem.run_pure, Result.andThen_ok]
        have : bcells = (Array.range 0).map ((#[] : Array Value)[· % (#[] : Array Value).size]!) := by simp [bcells, h0]
        rw [this] at ho
        simp only [ho, Sem.run_bind, run_newRow, Result.andThen_ok, Sem.run_pure]
      · simp only [h0, if_false, Sem.run_bind, hz, Sem.run_pure, Result.andThen_ok]
        have : bcells = (Array.range (len * te.size)).map (z.cells[· % z.cells.size]!) := by simp [bcells, h0]
        rw [this] at ho
        simp only [ho, Sem.run_bind, run_newRow, Result.andThen_ok, Sem.run_pure]
    refine ⟨_, _, upd G dst gi, hrun, ?_, ?_⟩
    · refine h.putRow M.keys hd gi te.size (chunk te.size len ds) f 0 (rest_alloc ..) (fun b hb _ => heap_alloc_old w _ b hb) ?_ ?_ ?_
      · intro b hb
        rcases (mem_ownRow hb).2 with rfl | ⟨rfl, hb2⟩
        · exact .inr (Nat.le_refl _)
        · obtain ⟨i, hi'⟩ := (o' rfl).2 b hb2
          exact .inl ⟨i, fun e => n' b hb2 (.inl ⟨i, by rw [e]; exact hi'⟩), hi'⟩
      · exact nodup_ownRow fun hf => ⟨hnS, (o' hf).1⟩
      · refine ⟨fun _ => ⟨ov, e, heap_alloc_new w _, ?_, ?_⟩, by rw [hcl]; exact Nat.le_refl _, ?_, ?_, hone, hcu, ?_, fun hf => (o' hf).1, ?_, by simp⟩
        · have : ov.size = len * te.size := by rw [← Array.length_toList, hovl, t'.length, hdl]
          simp only [gi]
          omega
        · intro j v hj
          have : ov.toList[j]? = some v := by rw [hovl]; exact hj
          simpa [gi] using this
        · simp only [gi, maxLen]
          have : len ≤ len * te.size := Nat.le_mul_of_pos_right _ hpos
          omega
        · rw [hcl]; show List.length _ = _; rw [t'.length, hdl]
        · show TrL _ f (vals.flatMap fun x => x.2.cells.toList) _ S'
          rw [hcf]
          exact t'.keep fun b hb => heap_alloc_old w _ b (t'.lt b hb)
        · intro hf b hb hn
          rcases own_put hn with hn | hn
          · exact n' b hb hn
          · have hf' : f = false := by simpa using hf
            have hlt := t'.lt b hb
            rcases (mem_ownRow hn).2 with rfl | ⟨e, _⟩
            · exact absurd hlt (Nat.lt_irrefl _)
            · rw [hf'] at e; cases e
    · have := AVR.r (w := w.alloc (.cells ov e)) (G := upd G dst gi) (H := upd H1 dst (some (.row te.size (chunk te.size len ds) f false 0))) (Av := Ban B.F (upd G dst gi) (upd H1 dst (some (.row te.size (chunk te.size len ds) f false 0)))) dst te.size _ f false 0 (some ⟨w.heap.size, 0, none⟩) (upd_same ..) (fun _ => by simp [upd_same, gi])
      rw [hcl] at this
      simpa [upd_same, gi] using this
  | _ => rw [hk] at hm; simp at hm
end rel
end Go.Fs
