/- A part of the proof: an evaluator of the program's code over plain data, proved sound, and walks of the program's functions by it. No conditions beyond those in the theorems. -/
import Derived.Test.YtbgbnmghhmfihaaGreatLawMp10
set_option linter.unusedVariables false
set_option linter.unusedSimpArgs false
set_option linter.constructorNameAsVariable false
set_option linter.unusedSectionVars false
set_option linter.defProp false
set_option linter.unusedVariables false
namespace Go.Fs
/-! ### a nil list in a variable may be known as an empty row of one's own -/
theorem RelG.nil {B : Ctx} {G : Nat → GI} {s : St} {a : Act} {w : World} (h : RelG B G s a w) {j c k' sz : Nat} {cs : List AV} (hj : s.heap j = some (.box cs)) (hc : cs[c]? = some (.z sz)) (hn : s.heap k' = none) :
    ∃ G', RelG B G' { s with heap := upd (upd s.heap k' (some (.row sz [] true false 0))) j (some (.box (cs.set c (.r k')))) } a w := by
  have hjk : j ≠ k' := fun e => by rw [e, hn] at hj; cases hj
  let gi : GI := { blk := 0, off := 0, cap := 0, vs := [], sub := [] }
  have h1 := h.new (w' := w) k' gi (.row sz [] true false 0) hn (Rest.refl w) (fun _ _ => rfl) (by simp [ownOf, gi]) (by simp [ownOf, gi]) (RowR.mkVoid w _ 0 0 sz true false)
  have hj1 : (upd s.heap k' (some (.row sz [] true false 0))) j = some (.box cs) := by rw [upd_ne _ _ hjk]; exact hj
  refine ⟨upd G k' gi, ?_⟩
  refine h1.step (w' := w) (G' := upd G k' gi) (upd (upd s.heap k' (some (.row sz [] true false 0))) j (some (.box (cs.set c (.r k'))))) (fun i => i = j) (.refl w) (fun _ _ _ => rfl) (fun i hi => ⟨upd_ne _ _ hi, rfl⟩) ?_ ?_ ?_ ?_ ?_
  · rintro i o rfl ho
    have ho : upd s.heap k' (some (.row sz [] true false 0)) i = some o := ho
    rw [hj1] at ho
    cases ho
    exact ⟨_, upd_same .., .box _ _ rfl⟩
  · rintro i rfl b hb
    rw [upd_same] at hb
    refine .inl ⟨i, rfl, ?_⟩
    show b ∈ ownOf (upd G k' gi i) (upd s.heap k' (some (.row sz [] true false 0)) i)
    rw [hj1]
    exact hb
  · rintro i rfl
    rw [upd_same]
    simp [ownOf]
  · rintro i i' rfl rfl _ _ _; rfl
  · rintro i o rfl ho
    rw [upd_same] at ho
    cases ho
    obtain ⟨cur, e, q1, q2, q3⟩ := h1.obj i _ hj1
    refine ⟨cur, e, q1, ?_, q3⟩
    have hA : ∀ b, Ban B.F (upd G k' gi) (upd (upd s.heap k' (some (.row sz [] true false 0))) i (some (.box (cs.set c (.r k'))))) b → Ban B.F (upd G k' gi) (upd s.heap k' (some (.row sz [] true false 0))) b := by
      rintro b (⟨m, hm⟩ | hf)
      · left
        by_cases hmi : m = i
        · subst hmi
          rw [upd_same] at hm
          exact ⟨m, by rw [hj1]; exact hm⟩
        · rw [upd_ne _ _ hmi] at hm
          exact ⟨m, hm⟩
      · exact .inr hf
    have q4 := (AVR.mono_both (w := w) (w' := w) (G := upd G k' gi) (G' := upd G k' gi) (H := upd s.heap k' (some (.row sz [] true false 0))) (H' := upd (upd s.heap k' (some (.row sz [] true false 0))) i (some (.box (cs.set c (.r k')))))
      (Av := Ban B.F (upd G k' gi) (upd s.heap k' (some (.row sz [] true false 0)))) (Av' := Ban B.F (upd G k' gi) (upd (upd s.heap k' (some (.row sz [] true false 0))) i (some (.box (cs.set c (.r k')))))) (fun _ _ _ => rfl) (fun b _ hb => hA b hb) (fun m o hm => by
        by_cases hmi : m = i
        · subst hmi
          rw [hj1] at hm
          cases hm
          exact ⟨_, upd_same .., .box _ _ rfl⟩
        · exact ⟨o, by rw [upd_ne _ _ hmi]; exact hm, Ob.to.refl _ _⟩)).2 q2
    refine AVRL.of (by rw [List.length_set]; exact q4.length) fun m v av hv hav => ?_
    by_cases hmc : m = c
    · subst hmc
      have hlen := (List.getElem?_eq_some_iff.1 hc).1
      rw [List.getElem?_set_self hlen] at hav
      cases hav
      have hz := q4.get hv hc
      generalize hzz : AV.z sz = zz at hz
      cases hz <;> try (cases hzz; done)
      have := AVR.r (w := w) (G := upd G k' gi) (H := upd (upd s.heap k' (some (.row sz [] true false 0))) i (some (.box (cs.set m (.r k'))))) (Av := Ban B.F (upd G k' gi) (upd (upd s.heap k' (some (.row sz [] true false 0))) i (some (.box (cs.set m (.r k')))))) k' sz [] true false 0 none (by rw [upd_ne _ _ hjk.symm, upd_same]) (by rw [upd_same]; exact fun h => absurd h (Nat.lt_irrefl 0))
      rw [upd_same] at this
      exact this
    · rw [List.getElem?_set_ne (fun e => hmc e.symm)] at hav
      exact q4.get hv hav
theorem sem_nil {aa : AV} {s : St} (j c k' sz : Nat) {cs : List AV} (hj : s.heap j = some (.box cs)) (hc : cs[c]? = some (.z sz)) (hn : s.heap k' = none) : Sem aa s { s with heap := upd (upd s.heap k' (some (.row sz [] true false 0))) j (some (.box (cs.set c (.r k')))) } := fun B G a w hB hr => hr.nil hj hc hn
end Go.Fs

set_option linter.unusedVariables false
namespace Go.Fs
open Go.RowKit

/-! ### what rounds without end come to -/
open Classical in
noncomputable def lim {α : Type} (g : Nat → Option α) : Option α := if h : ∃ n r, g n = some r then some (Classical.choose (Classical.choose_spec h)) else none
theorem lim_inv {α : Type} {g : Nat → Option α} {r : α} (h : lim g = some r) : ∃ n, g n = some r := by
  unfold lim at h
  split at h
  · rename_i hx
    exact ⟨_, (Classical.choose_spec (Classical.choose_spec hx)).trans h⟩
  · cases h
theorem mono_le {α : Type} {g : Nat → Option α} (hm : ∀ n r, g n = some r → g (n + 1) = some r) {r : α} : ∀ {m n : Nat}, n ≤ m → g n = some r → g m = some r
  | 0, n, h, e => by obtain rfl : n = 0 := by omega
                     exact e
  | m + 1, n, h, e => by
    by_cases hn : n = m + 1
    · subst hn; exact e
    · exact hm _ _ (mono_le hm (by omega) e)
theorem lim_some {α : Type} {g : Nat → Option α} (hm : ∀ n r, g n = some r → g (n + 1) = some r) {n : Nat} {r : α} (h : g n = some r) : lim g = some r := by
  cases e : lim g with
  | none =>
    unfold lim at e
    split at e
    · cases e
    · rename_i hx; exact absurd ⟨n, r, h⟩ hx
  | some r' =>
    obtain ⟨m, hm'⟩ := lim_inv e
    have h1 := mono_le hm (Nat.le_max_left n m) h
    have h2 := mono_le hm (Nat.le_max_right n m) hm'
    rw [h1] at h2
    exact h2.symm

/-! ### a run of the mind -/
def oPut (s : St) (dst : Option Nat) (av : AV) (H : Nat → Option Ob) : Option St := match dst with
  | some d => if d < s.n then some { n := s.n, env := upd s.env d av, heap := H } else none
  | none => some { n := s.n, env := s.env, heap := H }
/-- What is lent: a list inside a row's element that is there. -/
def mAt (H : Nat → Option Ob) (k ve i o : Nat) : Option D := match H k with
  | some (.row sz xs _ _ ve') => if ve = ve' ∧ o < sz then (xs[i]?).bind fun cs => cs[o]? else none
  | _ => none
def borCE (H : Nat → Option Ob) : AV → Option D
  | .m k ve i o => mAt H k ve i o
  | av => borC H av
def borCsE (H : Nat → Option Ob) : List AV → Option (List D)
  | [] => some []
  | av :: avs => (borCE H av).bind fun x => (borCsE H avs).map (x :: ·)
def borE (H : Nat → Option Ob) : AV → Option D
  | .g cs => (borCsE H cs).map .g
  | .f fn caps => bor H (.f fn caps)
  | .a k o => bor H (.a k o)
  | av => borCE H av
def borLE (H : Nat → Option Ob) : List AV → Option (List D)
  | [] => some []
  | av :: avs => (borE H av).bind fun x => (borLE H avs).map (x :: ·)
theorem mAt_ok {H : Nat → Option Ob} {k ve i o : Nat} {x : D} (h : mAt H k ve i o = some x) : borC H (.m k ve i o) = some x := by
  unfold mAt at h
  unfold borC
  split at h
  · rename_i sz xs dp fz ve' hk
    simp only [hk]
    split at h
    · rename_i hc
      obtain ⟨cs, h1, h2⟩ := Option.bind_eq_some_iff.1 h
      have hi : i < xs.length := (List.getElem?_eq_some_iff.1 h1).1
      rw [if_pos ⟨hc.1, hi, hc.2⟩]
      have e1 : xs.getD i [] = cs := by rw [List.getD_eq_getElem?_getD, h1]; rfl
      rw [e1, List.getD_eq_getElem?_getD, h2]
      rfl
    · cases h
  · cases h
theorem borCE_ok {H : Nat → Option Ob} {av : AV} {x : D} (h : borCE H av = some x) : borC H av = some x := by
  unfold borCE at h
  split at h
  · exact mAt_ok h
  · exact h
theorem borCsE_ok {H : Nat → Option Ob} : ∀ {avs : List AV} {ds : List D}, borCsE H avs = some ds → borCs H avs = some ds
  | [], ds, h => h
  | av :: avs, ds, h => by
    obtain ⟨x, h1, h⟩ := Option.bind_eq_some_iff.1 h
    obtain ⟨xs, h2, rfl⟩ := Option.map_eq_some_iff.1 h
    simp only [borCs, borCE_ok h1, Option.bind_some, borCsE_ok h2, Option.map_some]
theorem borE_ok {H : Nat → Option Ob} {av : AV} {x : D} (h : borE H av = some x) : bor H av = some x := by
  unfold borE at h
  split at h
  · obtain ⟨xs, h2, rfl⟩ := Option.map_eq_some_iff.1 h
    simp only [bor, borCsE_ok h2, Option.map_some]
  · exact h
  · exact h
  · rename_i h1 h2 h3
    have := borCE_ok h
    cases av <;> first | exact this | exact absurd rfl (h1 _) | exact absurd rfl (h2 _ _) | exact absurd rfl (h3 _ _)
theorem borLE_ok {H : Nat → Option Ob} : ∀ {avs : List AV} {ds : List D}, borLE H avs = some ds → borL H avs = some ds
  | [], ds, h => h
  | av :: avs, ds, h => by
    obtain ⟨x, h1, h⟩ := Option.bind_eq_some_iff.1 h
    obtain ⟨xs, h2, rfl⟩ := Option.map_eq_some_iff.1 h
    simp only [borL, borE_ok h1, Option.bind_some, borLE_ok h2, Option.map_some]
def ownE (s : St) (dst : Option Nat) (r : D) : Option St :=
  if freeAll s.heap (adObs (keyOf dst) (partsD r)) = true then oPut s dst (retAV r (adCells (keyOf dst) (partsD r))) (updL (adObs (keyOf dst) (partsD r)) s.heap) else none
def sharedE (s : St) (dst : Option Nat) (F : List D → Option D) (args : List AV) (H1 : Nat → Option Ob) : Option St :=
  if args.flatMap (keyA H1) = args.flatMap (keyA s.heap) then (borL H1 args).bind fun ds => (F ds).bind fun r => oPut s dst (retAV r ((partsD r).map .d)) H1 else none
def nestE (s : St) (dst : Option Nat) (k i o sz ve : Nat) (xs : List (List D)) (cs : List D) (rest : List AV) (r : D × D) : Option St :=
  if apart [k] (rest.flatMap (keyA s.heap)) = true then if freeAll s.heap (adObs (keyOf dst) (partsD r.1)) = true then
    oPut s dst (retAV r.1 (adCells (keyOf dst) (partsD r.1))) (updL ((k, .row sz (xs.set i (cs.set o r.2)) true false (ve + 1)) :: adObs (keyOf dst) (partsD r.1)) s.heap) else none else none
def nestC (F : D → List D → Option (D × D)) (s : St) (dst : Option Nat) (k i o sz ve : Nat) (xs : List (List D)) (rest : List AV) (cs : List D) : Option St :=
  (cs[o]?).bind fun x => (borL s.heap rest).bind fun ds => (F x ds).bind (nestE s dst k i o sz ve xs cs rest)
def ioE3 (s : St) (dst : Option Nat) (r : D × D) (os : List (Nat × Ob)) : Option St := if freeAll s.heap (adObs (keyOf dst) (partsD r.1)) = true then
  oPut s dst (retAV r.1 (adCells (keyOf dst) (partsD r.1))) (updL (os ++ adObs (keyOf dst) (partsD r.1)) s.heap) else none
def ioE2 (s : St) (dst : Option Nat) (io : AV) (ks : List Nat) (rest : List AV) (r : D × D) : Option St :=
  if nodupB ks = true then if apart ks (rest.flatMap (keyA s.heap)) = true then (ioObs s.heap (cellsA io) (cellsD r.2)).bind (ioE3 s dst r) else none else none
def eatE (s : St) (dst : Option Nat) (y : AV × List (Nat × Ob)) : Option St := oPut s dst y.1 (updL y.2 s.heap)
def callE (A : Env) (s : St) (dst : Option Nat) (f : FuncId) (args : List AV) : Option St := match A.S f with
  | none => none
  | some (.own F) => (borLE s.heap args).bind fun ds => (F ds).bind (ownE s dst)
  | some (.shared F) => (frzL s.heap (args.flatMap (keyA s.heap))).bind (sharedE s dst F args)
  | some (.io F) => match args with
    | [] => none
    | .m k ve i o :: rest => match s.heap k with
      | some (.row sz xs true false ve') => if ve' = ve ∧ o < sz then (xs[i]?).bind (nestC F s dst k i o sz ve' xs rest) else none
      | _ => none
    | io :: rest => (ioCs s.heap (cellsA io)).bind fun x => (borL s.heap rest).bind fun ds => (F (ioD io x.1) ds).bind (ioE2 s dst io x.2 rest)
  | some (.eat F) => (eatC s.heap dst F args).bind (eatE s dst)
/-- A store into a row's element that is there. -/
def stE (T : Tab) (H : Nat → Option Ob) (ty : TypeId) (p x : AV) : Option (Nat → Option Ob) := match p with
  | .e k i o => (T.ti ty).bind fun ti =>
    if (cellsA x).length = ti.size ∧ (cellsA x).all (oneA H) = true then (moveCs H (cellsA x)).bind fun m => match m.2.2 k with
      | some (.row sz xs dp false ve) => if o + ti.size ≤ sz then
          (xs[i]?).bind fun cs => some (upd m.2.2 k (some (.row sz (xs.set i (cs.take o ++ m.1 ++ cs.drop (o + ti.size))) (dp && m.2.1) false (ve + 1)))) else none
      | _ => none else none
  | p => opStore T H ty p x
theorem stE_ok {T : Tab} {H H' : Nat → Option Ob} {ty : TypeId} {p x : AV} (h : stE T H ty p x = some H') : opStore T H ty p x = some H' := by
  unfold stE at h
  split at h
  · rename_i k i o
    unfold opStore
    obtain ⟨ti, h1, h⟩ := Option.bind_eq_some_iff.1 h
    rw [h1, Option.bind_some]
    split at h
    · rename_i hc
      rw [if_pos hc]
      obtain ⟨m, h2, h⟩ := Option.bind_eq_some_iff.1 h
      simp only [h2, Option.bind_some]
      split at h
      · rename_i sz xs dp ve hk
        simp only [hk]
        split at h
        · rename_i hs
          rw [if_pos hs]
          obtain ⟨cs, h3, h⟩ := Option.bind_eq_some_iff.1 h
          have : xs.getD i [] = cs := by rw [List.getD_eq_getElem?_getD, h3]; rfl
          rw [this]
          exact h
        · cases h
      · cases h
    · cases h
  · exact h
def storeE (T : Tab) (s : St) (ty : TypeId) (ad v : Operand) : Option St := match s.ev ad with
  | .a _ _ => (opStore T s.heap ty (s.ev ad) (s.ev v)).bind fun H => some { n := s.n, env := s.env, heap := H }
  | _ => (demote s.heap (s.ev v)).bind fun m => (stE T m.2 ty (s.ev ad) m.1).bind fun H => some { n := s.n, env := s.env, heap := H }
/-- A place of a list. -/
def getI {α : Type} (xs : List α) (n : Int) : Option α := if 0 ≤ n then xs[n.toNat]? else none
theorem getI_inv {α : Type} {xs : List α} {n : Int} {x : α} (h : getI xs n = some x) : (0 ≤ n ∧ n < (xs.length : Int)) ∧ ∀ d, xs.getD n.toNat d = x := by
  unfold getI at h
  split at h
  · rename_i h0
    have hl := (List.getElem?_eq_some_iff.1 h).1
    exact ⟨⟨h0, by omega⟩, fun d => by rw [List.getD_eq_getElem?_getD, h]; rfl⟩
  · cases h
/-- The address of an element that is there. -/
def ixE (T : Tab) (H : Nat → Option Ob) (ty : TypeId) (x ix : AV) : Option AV :=
  (T.ti ty).bind fun ti => match ti.kind with
  | .slice e => (T.ti e).bind fun te => match ix with
    | .d (.i _ n) => match x with
      | .r k => match H k with
        | some (.row sz xs _ _ _) => if sz = te.size then (getI xs n).bind fun _ => some (.e k n.toNat 0) else none
        | _ => none
      | .d (.l sz xs) => if sz = te.size then (getI xs n).bind fun cs => some (.q cs 0) else none
      | _ => none
    | _ => none
  | _ => none
theorem ixE_ok {T : Tab} {H : Nat → Option Ob} {ty : TypeId} {x ix av : AV} (h : ixE T H ty x ix = some av) : opIndex T H ty x ix = some av := by
  unfold ixE at h
  unfold opIndex
  obtain ⟨ti, h1, h⟩ := Option.bind_eq_some_iff.1 h
  rw [h1, Option.bind_some]
  split at h
  case h_2 => cases h
  rename_i e hk
  simp only [hk]
  obtain ⟨te, h2, h⟩ := Option.bind_eq_some_iff.1 h
  simp only [h2, Option.bind_some]
  split at h
  case h_2 => cases h
  split at h
  · split at h
    · rename_i hr
      simp only [hr]
      split at h
      · rename_i hs
        obtain ⟨cs, h3, h⟩ := Option.bind_eq_some_iff.1 h
        rw [if_pos hs, if_pos (getI_inv h3).1]
        exact h
      · cases h
    · cases h
  · split at h
    · rename_i hs
      obtain ⟨cs, h3, h⟩ := Option.bind_eq_some_iff.1 h
      simp only [hs, if_true]
      rw [if_pos (getI_inv h3).1, (getI_inv h3).2]
      exact h
    · cases h
  · cases h
/-- A read of a row's element that is there. -/
def loadC (ti : TI) (ag : Bool) (sz : Nat) (own : Bool) (k ve i o : Nat) (cs : List D) : Option AV :=
  if o + ti.size ≤ sz then (if own = true then (mCells k ve i o ((cs.drop o).take ti.size)).map (pack ag) else some (pack ag (((cs.drop o).take ti.size).map .d))) else none
def loadE (T : Tab) (H : Nat → Option Ob) (ty : TypeId) (k i o : Nat) : Option AV :=
  (T.ti ty).bind fun ti => ti.kind.agg.bind fun ag => if ag = true ∨ ti.size = 1 then match H k with
    | some (.row sz xs dp fz ve) => (xs[i]?).bind (loadC ti ag sz (dp && !fz) k ve i o)
    | _ => none else none
def ldE (T : Tab) (H : Nat → Option Ob) (ty : TypeId) : AV → Option AV
  | .e k i o => loadE T H ty k i o
  | p => opLoad T H ty p
theorem ldE_ok {T : Tab} {H : Nat → Option Ob} {ty : TypeId} {p av : AV} (h : ldE T H ty p = some av) : opLoad T H ty p = some av := by
  unfold ldE at h
  split at h
  · rename_i k i o
    unfold loadE at h
    unfold opLoad
    obtain ⟨ti, h1, h⟩ := Option.bind_eq_some_iff.1 h
    obtain ⟨ag, h2, h⟩ := Option.bind_eq_some_iff.1 h
    rw [h1, Option.bind_some, h2, Option.bind_some]
    split at h
    · rename_i hc
      rw [if_pos hc]
      split at h
      · rename_i sz xs dp fz ve hk
        obtain ⟨cs, h3, h⟩ := Option.bind_eq_some_iff.1 h
        simp only [hk]
        have : xs.getD i [] = cs := by rw [List.getD_eq_getElem?_getD, h3]; rfl
        rw [this]
        exact h
      · cases h
    · cases h
  · exact h
def valE (A : Env) (o : Oper) (s : St) : Option St := (valOp A.T s o).bind fun y => oPut s o.dst y.1 y.2
def opE (A : Env) (o : Oper) (s : St) : Option St := match o.op with
  | .pick c x y => match s.ev c with
    | .d (.b v) => if v = true then oPut (litS s c true) o.dst (fixZ A.T o.type ((litS s c true).ev x)) s.heap else oPut (litS s c false) o.dst (fixZ A.T o.type ((litS s c false).ev y)) s.heap
    | _ => none
  | .store ty ad v => match o.dst with
    | none => storeE A.T s ty ad v
    | some _ => none
  | .call c => match c.callee with
    | .value f => match s.ev f with
      | .f fn caps => callE A s o.dst fn (zargs A.T s c.args.toList c.argTypes.toList ++ caps)
      | .d (.f fn caps) => if capsOK caps = true then callE A s o.dst fn (zargs A.T s c.args.toList c.argTypes.toList ++ caps.map .d) else none
      | _ => none
    | _ => valE A o s
  | .convert src dst x => match A.T.kd src with
    | some (.slice _) => (opB2S A.T s.heap src dst (s.ev x)).bind fun av => oPut s o.dst av s.heap
    | _ => valE A o s
  | .binOp op ty x y _ => match nilCmp A.T op ty y with
    | some neg => (borC s.heap (s.ev x)).bind fun d => match d with
      | .l _ (_ :: _) => oPut s o.dst (.d (.b neg)) s.heap
      | _ => none
    | none => valE A o s
  | .makeMap ty none => (opMkMap A.T s.heap (o.dst.getD 0) ty).bind fun y => oPut s o.dst y.1 y.2
  | .lookup ty m k ok => (opMapGet A.T s.heap ty (s.ev m) (s.ev k) ok).bind fun av => oPut s o.dst av s.heap
  | .mapUpdate ty m k x => match o.dst with
    | none => (opMapSet A.T s.heap ty (s.ev m) (s.ev k) (s.ev x)).bind fun H => some { n := s.n, env := s.env, heap := H }
    | some _ => none
  | .load ty x => (ldE A.T s.heap ty (s.ev x)).bind fun av => oPut s o.dst av s.heap
  | .indexAddr ty x i => (demote s.heap (s.ev x)).bind fun y => (ixE A.T y.2 ty y.1 (s.ev i)).bind fun av => oPut s o.dst av y.2
  | _ => valE A o s
def opG (A : Env) (ops : List Oper) (o : Oper) (s : St) : Option St := match o.guard with
  | none => opE A o s
  | some (j, want) => match dstAt ops j with
    | none => oPut s o.dst (.t []) s.heap
    | some t => match s.env t with
      | .d (.b v) => if v = true then (match want with | true => opE A o (litS s (.tmp t) true) | false => oPut (litS s (.tmp t) true) o.dst (.t []) s.heap)
          else (match want with | true => oPut (litS s (.tmp t) false) o.dst (.t []) s.heap | false => opE A o (litS s (.tmp t) false))
      | .t [] => oPut s o.dst (.t []) s.heap
      | _ => none
def opsE (A : Env) (ops : List Oper) : List Oper → St → Option St
  | [], s => some s
  | o :: os, s => (opG A ops o s).bind (opsE A ops os)

/-! #### regions of open order in which nothing is written -/
def scalO (r : D) : Option AV := if scal r = true then some (.d r) else none
def sameO (y : Option AV) : Option AV := y
/-- A value operation that leaves all objects as they are. -/
def rdE (T : Tab) (s : St) (o : Oper) : Option AV := match o.op with
  | .move x => some (fixZ T o.type (s.ev x))
  | .assign x => some (fixZ T o.type (s.ev x))
  | .load ty x => ldE T s.heap ty (s.ev x)
  | .fieldAddr ty x f => opField T s.heap ty (s.ev x) f
  | .indexAddr ty x i => match s.ev x with
    | .d d => ixE T s.heap ty (.d d) (s.ev i)
    | .r k => ixE T s.heap ty (.r k) (s.ev i)
    | _ => none
  | .index ty x i => opByte T ty (s.ev x) (s.ev i)
  | .binOp op ty x y _ => opBin T op ty (s.ev x) (s.ev y)
  | .unOp op _ x => opUn op (s.ev x)
  | .convert src dst x => opConv T src dst (s.ev x)
  | .extract x i => opExtract (s.ev x) i
  | .slice ty x lo hi none => match s.ev x with
    | .d d => (opSlice T s.heap (o.dst.getD 0) ty (.d d) (lo.map s.ev) (hi.map s.ev)).map (·.1)
    | _ => none
  | .call c => match c.callee with
    | .builtin .len => match c.args.toList, c.argTypes.toList with
      | [x], [ty] => opLen T s.heap ty (s.ev x)
      | _, _ => none
    | .builtin .max => match c.args.toList with
      | [x, y] => opMax (s.ev x) (s.ev y)
      | _ => none
    | .builtin .min => match c.args.toList with
      | [x, y] => opMin (s.ev x) (s.ev y)
      | _ => none
    | _ => none
  | _ => none
theorem opSlice_d {T : Tab} {H : Nat → Option Ob} {dst : Nat} {ty : TypeId} {d : D} {lo hi : Option AV} {y : AV × (Nat → Option Ob)} (h : opSlice T H dst ty (.d d) lo hi = some y) : y.2 = H := by
  unfold opSlice at h
  simp only [Option.bind_eq_some_iff] at h
  obtain ⟨ti, _, h⟩ := h
  split at h
  · split at h
    · simp only [Option.bind_eq_some_iff] at h
      obtain ⟨_, _, _, _, h⟩ := h
      split at h
      · cases h; rfl
      · cases h
    · cases h
  · simp only [Option.bind_eq_some_iff] at h
    obtain ⟨te, _, h⟩ := h
    split at h
    · rename_i e; cases e
    · simp only [Option.bind_eq_some_iff] at h
      obtain ⟨_, _, _, _, h⟩ := h
      split at h
      · cases h; rfl
      · cases h
    · cases h
  · cases h
theorem rdE_ok {T : Tab} {s : St} {o : Oper} {av : AV} (h : rdE T s o = some av) : valOp T s o = some (av, s.heap) := by
  unfold rdE at h
  unfold valOp
  split at h
  · rename_i hop; cases h; simp only [hop]
  · rename_i hop; cases h; simp only [hop]
  · rename_i hop; simp only [hop, ldE_ok h, Option.map_some]
  · rename_i hop; simp only [hop, h, Option.map_some]
  · rename_i ty x i hop
    split at h
    · rename_i d e; simp only [hop, e, dem1, demote, demote1, Option.bind_some, ixE_ok h, Option.map_some]
    · rename_i k e; simp only [hop, e, dem1, demote, demote1, Option.bind_some, ixE_ok h, Option.map_some]
    · cases h
  · rename_i hop; simp only [hop, h, Option.map_some]
  · rename_i hop; simp only [hop, h, Option.map_some]
  · rename_i hop; simp only [hop, h, Option.map_some]
  · rename_i hop; simp only [hop, h, Option.map_some]
  · rename_i hop; simp only [hop, h, Option.map_some]
  · rename_i ty x lo hi hop
    split at h
    · rename_i d e
      simp only [Option.map_eq_some_iff] at h
      obtain ⟨y, h1, rfl⟩ := h
      simp only [hop, e, dem1, demote, demote1, Option.bind_some, h1]
      rw [← opSlice_d h1]
    · cases h
  · rename_i c hop
    simp only [hop]
    unfold callB
    split at h
    · rename_i e
      split at h
      · rename_i x ty e1 e2
        simp only [e, e1, e2, h, Option.map_some]
      · cases h
    · rename_i e
      split at h
      · rename_i x y e1
        simp only [e, e1, h, Option.map_some]
      · cases h
    · rename_i e
      split at h
      · rename_i x y e1
        simp only [e, e1, h, Option.map_some]
      · cases h
    · cases h
  · cases h
def shaO (r : D) : Option AV := some (retAV r ((partsD r).map .d))
def qE (A : Env) (o : Oper) (s : St) : Option AV := match o.op with
  | .pick c x y => match s.ev c with
    | .d (.b v) => if v = true then some (fixZ A.T o.type ((litS s c true).ev x)) else some (fixZ A.T o.type ((litS s c false).ev y))
    | _ => none
  | .store _ _ _ => none
  | .makeMap _ none => none
  | .mapUpdate _ _ _ _ => none
  | .call c => match c.callee with
    | .value f => match s.ev f with
      | .f fn caps => match A.S fn with
        | some (.own F) => (borLE s.heap (zargs A.T s c.args.toList c.argTypes.toList ++ caps)).bind fun ds => (F ds).bind scalO
        | some (.shared F) => if ((zargs A.T s c.args.toList c.argTypes.toList ++ caps).flatMap (keyA s.heap)).isEmpty = true then (borLE s.heap (zargs A.T s c.args.toList c.argTypes.toList ++ caps)).bind fun ds => (F ds).bind shaO else none
        | _ => none
      | _ => none
    | _ => rdE A.T s o
  | .convert src dst x => match A.T.kd src with
    | some (.slice _) => opB2S A.T s.heap src dst (s.ev x)
    | _ => rdE A.T s o
  | .binOp op ty x y _ => match nilCmp A.T op ty y with
    | some _ => none
    | none => rdE A.T s o
  | .lookup ty m k ok => opMapGet A.T s.heap ty (s.ev m) (s.ev k) ok
  | _ => rdE A.T s o
def qGE (A : Env) (ops : List Oper) (o : Oper) (s : St) : Option AV := match o.guard with
  | none => qE A o s
  | some (j, want) => match dstAt ops j with
    | none => some (.t [])
    | some t => match s.env t with
      | .d (.b v) => if v = true then (match want with | true => qE A o (litS s (.tmp t) true) | false => some (.t []))
          else (match want with | true => some (.t []) | false => qE A o (litS s (.tmp t) false))
      | .t [] => some (.t [])
      | _ => none
def qsE (A : Env) (ops : List Oper) : List Oper → St → Option St
  | [], s => some s
  | o :: os, s => match o.dst with
    | some d => if d < s.n then (qGE A ops o s).bind fun av => qsE A ops os { n := s.n, env := upd s.env d av, heap := s.heap } else none
    | none => none
end Go.Fs

set_option linter.unusedVariables false
namespace Go.Fs
open Go.RowKit

/-! #### what is asked of one run is asked of all -/
theorem bind_inv {α β : Type} {o : Option α} {f : α → Option β} {b : β} (h : o.bind f = some b) : ∃ a, o = some a ∧ f a = some b := Option.bind_eq_some_iff.1 h
theorem oPut_ok {s : St} {dst : Option Nat} {av : AV} {H : Nat → Option Ob} {s' : St} {K : St → Prop} (h : oPut s dst av H = some s') (hk : K s') : putK s dst av H K := by
  unfold oPut at h
  unfold putK
  split at h
  · split at h
    · cases h; exact ⟨by assumption, hk⟩
    · cases h
  · cases h; exact hk
theorem ite_inv {α : Type} {c : Prop} [Decidable c] {x : Option α} {a : α} (h : (if c then x else none) = some a) : c ∧ x = some a := by
  split at h
  · exact ⟨by assumption, h⟩
  · cases h
theorem callE_ok {A : Env} {s : St} {dst : Option Nat} {f : FuncId} {args : List AV} {s' : St} {K : St → Prop} (h : callE A s dst f args = some s') (hk : K s') : callW A s dst f args K := by
  unfold callE at h
  unfold callW
  split at h
  · cases h
  · rename_i F e
    obtain ⟨ds, h1, h⟩ := bind_inv h
    have h1 := borLE_ok h1
    obtain ⟨r, h2, h⟩ := bind_inv h
    obtain ⟨h3, h⟩ := ite_inv h
    simp only [e, h1, OkO, thenF, h2]
    exact ⟨h3, oPut_ok h hk⟩
  · rename_i F e
    obtain ⟨H1, h1, h⟩ := bind_inv h
    obtain ⟨h2, h⟩ := ite_inv h
    obtain ⟨ds, h3, h⟩ := bind_inv h
    obtain ⟨r, h4, h⟩ := bind_inv h
    simp only [e, h1, OkO]
    exact ⟨h2, by simp only [h3, OkO, thenF, h4]; exact oPut_ok h hk⟩
  · rename_i F e
    simp only [e]
    split at h
    · cases h
    · rename_i k ve i o rest
      split at h
      case h_2 => cases h
      rename_i sz xs ve' e2
      obtain ⟨h1, h⟩ := ite_inv h
      obtain ⟨cs, h8, h⟩ := bind_inv h
      obtain ⟨x, h9, h⟩ := bind_inv h
      obtain ⟨ds, h2, h⟩ := bind_inv h
      obtain ⟨r, h3, h⟩ := bind_inv h
      obtain ⟨h4, h⟩ := ite_inv h
      obtain ⟨h5, h⟩ := ite_inv h
      have e5 : xs.getD i [] = cs := by rw [List.getD_eq_getElem?_getD, h8]; rfl
      have e6 : cs.getD o .u = x := by rw [List.getD_eq_getElem?_getD, h9]; rfl
      have hi : i < xs.length := (List.getElem?_eq_some_iff.1 h8).1
      simp only [e2]
      rw [e5, e6]
      refine ⟨⟨h1.1, hi, h1.2⟩, by simp only [h2, OkO, thenF, h3]; exact ⟨h4, h5, oPut_ok (by unfold setCell; rw [e5]; exact h) hk⟩⟩
    · rename_i io rest hne
      obtain ⟨x, h1, h⟩ := bind_inv h
      obtain ⟨ds, h2, h⟩ := bind_inv h
      obtain ⟨r, h3, h⟩ := bind_inv h
      obtain ⟨h4, h⟩ := ite_inv h
      obtain ⟨h5, h⟩ := ite_inv h
      obtain ⟨os, h6, h⟩ := bind_inv h
      obtain ⟨h7, h⟩ := ite_inv h
      have : OkO (ioCs s.heap (cellsA io)) (ioK s dst F io rest K) := by
        simp only [h1, OkO, ioK, h2, thenF, h3]
        exact ⟨h4, h5, by simp only [h6, OkO]; exact ⟨h7, oPut_ok h hk⟩⟩
      split
      · cases ‹_ :: _ = []›
      · rename_i e3
        cases e3
        exact (hne _ _ _ _ rfl).elim
      · rename_i e3
        cases e3
        exact this
  · rename_i F e
    obtain ⟨y, h1, h⟩ := bind_inv h
    simp only [e, h1, OkO]
    exact oPut_ok h hk
theorem valE_ok {A : Env} {o : Oper} {s s' : St} {K : St → Prop} (h : valE A o s = some s') (hk : K s') : valW A o s K := by
  obtain ⟨y, h1, h⟩ := bind_inv h
  simp only [valW, h1, OkO, valK]
  exact oPut_ok h hk
theorem opE_ok {A : Env} {o : Oper} {s s' : St} {K : St → Prop} (h : opE A o s = some s') (hk : K s') : awpOp A o s K := by
  unfold opE at h
  unfold awpOp
  split at h
  · rename_i hop
    simp only [hop]
    split at h
    · rename_i e
      simp only [e]
      split at h
      · rename_i e2; subst e2; exact oPut_ok h hk
      · rename_i e2; simp only [Bool.not_eq_true] at e2; subst e2; exact oPut_ok h hk
    · cases h
  · rename_i hop
    simp only [hop]
    split at h
    · rename_i e
      simp only [e]
      unfold storeE at h
      unfold storeW
      split at h
      · rename_i e2
        obtain ⟨H, h1, h⟩ := bind_inv h
        cases h
        simp only [e2] at h1 ⊢
        simp only [h1, OkO, heapK]
        exact hk
      · rename_i hne
        obtain ⟨m, h1, h⟩ := bind_inv h
        obtain ⟨H, h2, h⟩ := bind_inv h
        cases h
        split
        · rename_i e2; exact absurd e2 (hne _ _)
        · simp only [h1, OkO, storeK, stE_ok h2, heapK]; exact hk
    · cases h
  · rename_i hop
    simp only [hop]
    split at h
    · rename_i f e
      simp only [e]
      split at h
      · rename_i e2; simp only [e2]; exact callE_ok h hk
      · rename_i e2; simp only [e2]; obtain ⟨h1, h⟩ := ite_inv h; exact ⟨h1, callE_ok h hk⟩
      · cases h
    · rename_i hne
      split
      · rename_i e; exact absurd e (hne _)
      · exact valE_ok h hk
  · rename_i hop
    simp only [hop]
    split at h
    · rename_i e
      obtain ⟨av, h1, h⟩ := bind_inv h
      simp only [e, h1, OkO, putH]
      exact oPut_ok h hk
    · rename_i hne
      split
      · rename_i e; exact absurd e (hne _)
      · exact valE_ok h hk
  · rename_i hop
    simp only [hop]
    split at h
    · rename_i e
      obtain ⟨d, h1, h⟩ := bind_inv h
      split at h
      · simp only [e, h1, OkO, nilK]
        intro b hb
        cases b with
        | true => cases hb rfl
        | false =>
          refine oPut_ok (s' := s') ?_ hk
          rw [← h]
          cases ‹Bool› <;> rfl
      · cases h
    · rename_i e
      simp only [e]
      exact valE_ok h hk
  · rename_i hop
    simp only [hop]
    obtain ⟨y, h1, h⟩ := bind_inv h
    simp only [h1, OkO, valK]
    exact oPut_ok h hk
  · rename_i hop
    simp only [hop]
    obtain ⟨av, h1, h⟩ := bind_inv h
    simp only [h1, OkO, putH]
    exact oPut_ok h hk
  · rename_i hop
    simp only [hop]
    split at h
    · rename_i e
      obtain ⟨H, h1, h⟩ := bind_inv h
      cases h
      simp only [e, h1, OkO, heapK]
      exact hk
    · cases h
  · rename_i hop
    simp only [hop]
    obtain ⟨av, h1, h⟩ := bind_inv h
    simp only [valW, valOp, hop, ldE_ok h1, Option.map_some, OkO, valK]
    exact oPut_ok h hk
  · rename_i hop
    simp only [hop]
    obtain ⟨y, h0, h⟩ := bind_inv h
    obtain ⟨av, h1, h⟩ := bind_inv h
    simp only [valW, valOp, hop, dem1, h0, Option.bind_some, ixE_ok h1, Option.map_some, OkO, valK]
    exact oPut_ok h hk
  · split
    all_goals first
      | exact valE_ok h hk
      | (exfalso; simp_all; done)
      | (exfalso; simp_all; grind)
theorem opG_ok {A : Env} {ops : List Oper} {o : Oper} {s s' : St} {K : St → Prop} (h : opG A ops o s = some s') (hk : K s') : awpG A ops o s K := by
  unfold opG at h
  unfold awpG
  split at h
  · rename_i e; simp only [e]; exact opE_ok h hk
  · rename_i j want e
    simp only [e]
    split at h
    · rename_i e2; simp only [e2]; exact oPut_ok h hk
    · rename_i t e2
      simp only [e2]
      split at h
      · rename_i v e3
        simp only [e3]
        split at h
        · rename_i e4
          subst e4
          cases want with
          | true => exact opE_ok h hk
          | false => exact oPut_ok h hk
        · rename_i e4
          simp only [Bool.not_eq_true] at e4
          subst e4
          cases want with
          | true => exact oPut_ok h hk
          | false => exact opE_ok h hk
      · rename_i e3; simp only [e3]; exact oPut_ok h hk
      · cases h
theorem opsE_ok {A : Env} {ops : List Oper} {K : St → Prop} : ∀ {os : List Oper} {s s' : St}, opsE A ops os s = some s' → K s' → awpOps A ops K os s
  | [], s, s', h, hk => by cases h; exact hk
  | o :: os, s, s', h, hk => by
    obtain ⟨s1, h1, h⟩ := bind_inv h
    exact opG_ok h1 (opsE_ok h hk)
theorem scalO_inv {r : D} {av : AV} (h : scalO r = some av) : scal r = true ∧ av = .d r := by
  unfold scalO at h
  obtain ⟨h1, h⟩ := ite_inv h
  cases h
  exact ⟨h1, rfl⟩
theorem qE_ok {A : Env} {o : Oper} {s : St} {av : AV} {K : AV → Prop} (h : qE A o s = some av) (hk : K av) : qOp A o s K := by
  have val : rdE A.T s o = some av → OkO (valOp A.T s o) (qK s.heap K) := fun h => by
    rw [rdE_ok h]
    exact ⟨rfl, hk⟩
  unfold qE at h
  unfold qOp
  split at h
  · rename_i hop
    simp only [hop]
    split at h
    · rename_i e
      simp only [e]
      split at h
      · rename_i e2; subst e2; cases h; exact hk
      · rename_i e2; simp only [Bool.not_eq_true] at e2; subst e2; cases h; exact hk
    · cases h
  · cases h
  · cases h
  · cases h
  · rename_i hop
    simp only [hop]
    split at h
    · rename_i f e
      simp only [e]
      split at h
      · rename_i e2
        split at h
        · rename_i e3
          obtain ⟨ds, h1, h⟩ := bind_inv h
          have h1 := borLE_ok h1
          obtain ⟨r, h2, h⟩ := bind_inv h
          obtain ⟨h3, rfl⟩ := scalO_inv h
          simp only [e2, e3, h1, OkO, thenF, h2, qD]
          exact ⟨h3, hk⟩
        · rename_i e3
          obtain ⟨h0, h⟩ := ite_inv h
          rw [List.isEmpty_iff] at h0
          obtain ⟨ds, h1, h⟩ := bind_inv h
          have h1 := borLE_ok h1
          obtain ⟨r, h2, h⟩ := bind_inv h
          cases h
          simp only [e2, e3, h0, h1, OkO, thenF, h2, qS]
          exact ⟨trivial, hk⟩
        · cases h
      · cases h
    · rename_i hne
      split
      · rename_i e; exact absurd e (hne _)
      · exact val h
  · rename_i hop
    simp only [hop]
    split at h
    · rename_i e
      simp only [e, h, OkO]
      exact hk
    · rename_i hne
      split
      · rename_i e; exact absurd e (hne _)
      · exact val h
  · rename_i hop
    simp only [hop]
    split at h
    · cases h
    · rename_i e
      simp only [e]
      exact val h
  · rename_i hop
    simp only [hop, h, OkO]
    exact hk
  · split
    all_goals first
      | exact val h
      | (exfalso; simp_all; done)
      | (exfalso; simp_all; grind)
theorem qGE_ok {A : Env} {ops : List Oper} {o : Oper} {s : St} {av : AV} {K : AV → Prop} (h : qGE A ops o s = some av) (hk : K av) : qG A ops o s K := by
  unfold qGE at h
  unfold qG
  split at h
  · rename_i e; simp only [e]; exact qE_ok h hk
  · rename_i j want e
    simp only [e]
    split at h
    · rename_i e2; simp only [e2]; cases h; exact hk
    · rename_i t e2
      simp only [e2]
      split at h
      · rename_i v e3
        simp only [e3]
        split at h
        · rename_i e4
          subst e4
          cases want with
          | true => exact qE_ok h hk
          | false => cases h; exact hk
        · rename_i e4
          simp only [Bool.not_eq_true] at e4
          subst e4
          cases want with
          | true => cases h; exact hk
          | false => exact qE_ok h hk
      · rename_i e3; simp only [e3]; cases h; exact hk
      · cases h
theorem qsE_ok {A : Env} {ops : List Oper} {K : St → Prop} : ∀ {os : List Oper} {s s' : St}, qsE A ops os s = some s' → K s' → awpQs A ops K os s
  | [], s, s', h, hk => by cases h; exact hk
  | o :: os, s, s', h, hk => by
    unfold qsE at h
    unfold awpQs
    split at h
    · rename_i d e
      obtain ⟨h1, h⟩ := ite_inv h
      obtain ⟨av, h2, h⟩ := bind_inv h
      simp only [e]
      exact ⟨h1, qGE_ok h2 (qsE_ok h hk)⟩
    · cases h
theorem qsE_ops {A : Env} {ops : List Oper} {K : St → Prop} : ∀ {os : List Oper} {s s' : St}, qsE A ops os s = some s' → K s' → awpOps A ops K os s
  | [], s, s', h, hk => by cases h; exact hk
  | o :: os, s, s', h, hk => by
    unfold qsE at h
    split at h
    · rename_i d e
      obtain ⟨h1, h⟩ := ite_inv h
      obtain ⟨av, h2, h⟩ := bind_inv h
      exact qG_awp e h1 (qGE_ok h2 (qsE_ops h hk))
    · cases h
/-- Where such a region writes. -/
def dstsOf (os : List Oper) : List Nat := os.filterMap (·.dst)
theorem qsE_frame {A : Env} {ops : List Oper} : ∀ {os : List Oper} {s s' : St}, qsE A ops os s = some s' → s'.n = s.n ∧ s'.heap = s.heap ∧ ∀ t, t ∉ dstsOf os → s'.env t = s.env t
  | [], s, s', h => by cases h; exact ⟨rfl, rfl, fun _ _ => rfl⟩
  | o :: os, s, s', h => by
    unfold qsE at h
    split at h
    · rename_i d e
      obtain ⟨h1, h⟩ := ite_inv h
      obtain ⟨av, h2, h⟩ := bind_inv h
      obtain ⟨e1, e2, e3⟩ := qsE_frame h
      refine ⟨e1, e2, fun t ht => ?_⟩
      simp only [dstsOf, List.filterMap_cons, e, List.mem_cons, not_or] at ht
      rw [e3 t ht.2]
      exact if_neg ht.1
    · cases h
end Go.Fs

set_option linter.unusedVariables false
namespace Go.Fs
open Go.RowKit

/-! ### what a round begins with: a state known by what lives, objects named in the order in which they are met -/
def zc1 (s : St) (x : Nat × Nat × Nat) : St := match s.heap x.1 with
  | some (.box cs) => match cs[x.2.1]? with
    | some (.z sz) => match s.heap x.2.2 with
      | none => { s with heap := upd (upd s.heap x.2.2 (some (.row sz [] true false 0))) x.1 (some (.box (cs.set x.2.1 (.r x.2.2)))) }
      | some _ => s
    | _ => s
  | _ => s
theorem sem_zc1 {aa : AV} (s : St) (x : Nat × Nat × Nat) : Sem aa s (zc1 s x) := by
  obtain ⟨j, c, k⟩ := x
  unfold zc1
  split
  · rename_i cs e1
    split
    · rename_i sz e2
      split
      · rename_i e3; exact sem_nil j c k sz e1 e2 e3
      · exact Sem.refl _ _
    · exact Sem.refl _ _
  · exact Sem.refl _ _
def zcL (s : St) (L : List (Nat × Nat × Nat)) : St := L.foldl zc1 s
theorem sem_zcL {aa : AV} : ∀ (L : List (Nat × Nat × Nat)) (s : St), Sem aa s (zcL s L)
  | [], s => Sem.refl _ _
  | x :: L, s => (sem_zc1 s x).trans (sem_zcL L _)
/-- A slot that holds a list of nothing holds a row of nothing. -/
def zs1 (s : St) (t : Nat) : St := match s.env t with
  | .z sz => match s.heap (600000 + t) with
    | none => { s with env := upd s.env t (.r (600000 + t)), heap := upd s.heap (600000 + t) (some (.row sz [] true false 0)) }
    | some _ => s
  | _ => s
theorem RelG.newRow {B : Ctx} {G : Nat → GI} {s : St} {a : Act} {w : World} (h : RelG B G s a w) {k sz : Nat} (hn : s.heap k = none) :
    RelG B (upd G k ⟨0, 0, 0, [], []⟩) { s with heap := upd s.heap k (some (.row sz [] true false 0)) } a w ∧
    ∀ {v : Value} {av : AV}, AVR w G s.heap (Ban B.F G s.heap) v av → AVR w (upd G k ⟨0, 0, 0, [], []⟩) (upd s.heap k (some (.row sz [] true false 0))) (Ban B.F (upd G k ⟨0, 0, 0, [], []⟩) (upd s.heap k (some (.row sz [] true false 0)))) v av := by
  have ho : ∀ i b, b ∈ ownOf (upd G k ⟨0, 0, 0, [], []⟩ i) (upd s.heap k (some (.row sz [] true false 0)) i) → b ∈ ownOf (G i) (s.heap i) := by
    intro i b hb
    by_cases e : i = k
    · subst e
      simp [upd, ownOf] at hb
    · simpa [upd, e] using hb
  have hA : ∀ b, Ban B.F (upd G k ⟨0, 0, 0, [], []⟩) (upd s.heap k (some (.row sz [] true false 0))) b → Ban B.F G s.heap b := by
    rintro b (⟨i, hb⟩ | hb)
    · exact .inl ⟨i, ho i b hb⟩
    · exact .inr hb
  have hH : ∀ i o, s.heap i = some o → ∃ o', upd s.heap k (some (.row sz [] true false 0)) i = some o' ∧ Ob.to (G i) (upd G k ⟨0, 0, 0, [], []⟩ i) o o' := by
    intro i o hi
    have e : i ≠ k := fun e => by rw [e, hn] at hi; cases hi
    exact ⟨o, by simp [upd, e, hi], by simp [upd, e]; exact Ob.to.refl _ _⟩
  have mono : ∀ {v : Value} {av : AV}, AVR w G s.heap (Ban B.F G s.heap) v av → AVR w (upd G k ⟨0, 0, 0, [], []⟩) (upd s.heap k (some (.row sz [] true false 0))) (Ban B.F (upd G k ⟨0, 0, 0, [], []⟩) (upd s.heap k (some (.row sz [] true false 0)))) v av :=
    (AVR.mono_both (fun b _ _ => rfl) (fun b _ hb => hA b hb) hH).1
  refine ⟨⟨?_, fun t => mono (h.env t), h.size, h.defers, ?_, ?_, ?_, h.rest, h.below, h.ban, h.base, mono h.anc⟩, mono⟩
  · intro i o hi
    by_cases e : i = k
    · subst e
      simp only [upd, if_true] at hi
      cases hi
      simp only [upd, if_true]
      exact RowR.mkVoid w _ 0 0 sz true false
    · simp only [upd, e, if_false] at hi
      simp only [upd, e, if_false]
      exact (h.obj i o hi).mono (fun b _ _ => rfl) (fun b _ hb => hA b hb) hH fun b hb => rfl
  · intro i
    by_cases e : i = k
    · subst e; simp [upd, ownOf]
    · simpa [upd, e] using h.nodup i
  · intro i j b hi hj
    exact h.disj i j b (ho i b hi) (ho j b hj)
  · intro i b hb
    exact h.ge i b (ho i b hb)
theorem sem_zs1 {aa : AV} (s : St) (t : Nat) : Sem aa s (zs1 s t) := by
  unfold zs1
  split
  · rename_i sz e
    split
    · rename_i e2
      intro B G a w hB h
      obtain ⟨h1, hm⟩ := h.newRow (sz := sz) e2
      refine ⟨upd G (600000 + t) ⟨0, 0, 0, [], []⟩, ⟨h1.obj, fun i => ?_, h1.size, h1.defers, h1.nodup, h1.disj, h1.ge, h1.rest, h1.below, h1.ban, h1.base, h1.anc⟩⟩
      by_cases ei : i = t
      · subst ei
        simp only [upd, if_true]
        have hv := h.env i
        rw [e] at hv
        generalize a.tmps.getD i undef = v at hv
        cases hv
        have h2 := AVR.r (w := w) (G := upd G (600000 + i) ⟨0, 0, 0, [], []⟩) (H := upd s.heap (600000 + i) (some (.row sz [] true false 0))) (Av := Ban B.F (upd G (600000 + i) ⟨0, 0, 0, [], []⟩) (upd s.heap (600000 + i) (some (.row sz [] true false 0))))
          (600000 + i) sz [] true false 0 none (by simp [upd]) (by simp [upd])
        simpa [upd] using h2
      · simp only [upd, ei, if_false]
        exact hm (h.env i)
    · exact Sem.refl _ _
  · exact Sem.refl _ _
def zsL (s : St) (L : List Nat) : St := L.foldl zs1 s
theorem sem_zsL {aa : AV} : ∀ (L : List Nat) (s : St), Sem aa s (zsL s L)
  | [], s => Sem.refl _ _
  | x :: L, s => (sem_zs1 s x).trans (sem_zsL L _)

/-! #### numbers of versions that nobody remembers -/
def noMc : AV → Bool
  | .d _ | .z _ | .r _ | .a _ _ | .e _ _ _ | .q _ _ | .mp _ | .x => true
  | _ => false
def noM : AV → Bool
  | .g cs => cs.all noMc
  | av => noMc av
def ve0 (H : Nat → Option Ob) : Nat → Option Ob := fun k => match H k with
  | some (.row sz xs dp fz _) => some (.row sz xs dp fz 0)
  | o => o
def ve0S (s : St) : St := { n := s.n, env := s.env, heap := ve0 s.heap }
theorem ve0_row {H : Nat → Option Ob} {k sz : Nat} {xs : List (List D)} {dp fz : Bool} {ve : Nat} (h : H k = some (.row sz xs dp fz ve)) : ve0 H k = some (.row sz xs dp fz 0) := by simp [ve0, h]
theorem ve0_own (H : Nat → Option Ob) (g : GI) (k : Nat) : ownOf g (ve0 H k) = ownOf g (H k) := by
  unfold ve0
  split
  · rename_i sz xs dp fz ve e
    rw [e]
    cases fz <;> rfl
  · rfl
theorem ve0_ban {F : Nat → Prop} {G : Nat → GI} {H : Nat → Option Ob} : Ban F G (ve0 H) = Ban F G H := by
  funext b
  simp only [Ban, Own, ve0_own]
theorem avr_ve0c {w : World} {G : Nat → GI} {H : Nat → Option Ob} {Av : Nat → Prop} {v : Value} {av : AV} (h : AVR w G H Av v av) (hm : noMc av = true) : AVR w G (ve0 H) Av v av := by
  cases h with
  | d v x S h1 h hS => exact .d v x S h1 h hS
  | z sz => exact .z sz
  | r k sz xs dp fz ve a hk ha => exact .r k sz xs dp fz 0 a (ve0_row hk) ha
  | rd k v hk => exact .rd k v (by simp [ve0, hk])
  | a k o cs hk => exact .a k o cs (by simp [ve0, hk])
  | ad k o v hk => exact .ad k o v (by simp [ve0, hk])
  | e k i o sz xs dp fz ve hk hi => exact .e k i o sz xs dp fz 0 (ve0_row hk) hi
  | ed k i o v hk => exact .ed k i o v (by simp [ve0, hk])
  | q g base o cur el fr vs cs S hg hv h1 h hb hS => exact .q g base o cur el fr vs cs S hg hv h1 h hb hS
  | mp k kv hk => exact .mp k kv (by simp [ve0, hk])
  | mpd k v hk => exact .mpd k v (by simp [ve0, hk])
  | x v => exact .x v
  | _ => cases hm
theorem avrl_ve0 {w : World} {G : Nat → GI} {H : Nat → Option Ob} {Av : Nat → Prop} : ∀ {vs : List Value} {as : List AV}, AVRL w G H Av vs as → as.all noMc = true → AVRL w G (ve0 H) Av vs as
  | _, _, .nil, _ => .nil
  | _, _, .cons v av vs as h hs, hm => by
    simp only [List.all_cons, Bool.and_eq_true] at hm
    exact .cons v av vs as (avr_ve0c h hm.1) (avrl_ve0 hs hm.2)
theorem avr_ve0 {w : World} {G : Nat → GI} {H : Nat → Option Ob} {Av : Nat → Prop} {v : Value} {av : AV} (h : AVR w G H Av v av) (hm : noM av = true) : AVR w G (ve0 H) Av v av := by
  cases av with
  | g as =>
    cases h with
    | g cs _ h => exact .g cs as (avrl_ve0 h hm)
  | _ => exact avr_ve0c h hm
def noMo : Option Ob → Bool
  | some (.box cs) => cs.all noMc
  | _ => true
theorem sem_ve0 {aa : AV} {s : St} (h1 : ∀ t, noM (s.env t) = true) (h2 : ∀ k, noMo (s.heap k) = true) (h3 : noM aa = true) : Sem aa s (ve0S s) := by
  intro B G a w hB h
  refine ⟨G, ⟨?_, ?_, h.size, h.defers, ?_, ?_, ?_, h.rest, h.below, h.ban, h.base, ?_⟩⟩
  · intro k o hk
    show ObR w G (ve0 s.heap) (Ban B.F G (ve0 s.heap)) (G k) o
    rw [ve0_ban]
    have hk : ve0 s.heap k = some o := hk
    unfold ve0 at hk
    cases e : s.heap k with
    | none => rw [e] at hk; cases hk
    | some o' =>
      have hb := h2 k
      rw [e] at hb
      have ho := h.obj k o' e
      cases o' with
      | row sz xs dp fz ve => rw [e] at hk; cases hk; exact ho
      | box cs =>
        rw [e] at hk; cases hk
        obtain ⟨cur, el, hg, hr, ho1⟩ := ho
        exact ⟨⟨cur, el, hg, avrl_ve0 hr hb, ho1⟩⟩
      | map kv => rw [e] at hk; cases hk; exact ho
      | dead => rw [e] at hk; cases hk; exact ho
  · intro t
    show AVR w G (ve0 s.heap) (Ban B.F G (ve0 s.heap)) _ _
    rw [ve0_ban]
    exact avr_ve0 (h.env t) (h1 t)
  · intro k; show (ownOf (G k) (ve0 s.heap k)).Nodup; rw [ve0_own]; exact h.nodup k
  · intro k k' b hk hk'
    have hk : b ∈ ownOf (G k) (ve0 s.heap k) := hk
    have hk' : b ∈ ownOf (G k') (ve0 s.heap k') := hk'
    rw [ve0_own] at hk hk'
    exact h.disj k k' b hk hk'
  · intro k b hk
    have hk : b ∈ ownOf (G k) (ve0 s.heap k) := hk
    rw [ve0_own] at hk
    exact h.ge k b hk
  · show AVR w G (ve0 s.heap) (Ban B.F G (ve0 s.heap)) _ _
    rw [ve0_ban]
    exact avr_ve0 h.anc (by rw [hB]; exact h3)

/-! #### all of it -/
def zcells (j base : Nat) : Nat → List AV → List (Nat × Nat × Nat)
  | _, [] => []
  | c, .z _ :: cs => (j, c, base + c) :: zcells j base (c + 1) cs
  | c, _ :: cs => zcells j base (c + 1) cs
def zboxes (H : Nat → Option Ob) : Nat → List Nat → List (Nat × Nat × Nat)
  | _, [] => []
  | i, k :: ks => (match H k with | some (.box cs) => zcells k (610000 + 100 * i) 0 cs | _ => []) ++ zboxes H (i + 1) ks
def rnd2 (aa : AV) (live : List Nat) (s : St) : Option St :=
  if renOK (canon aa live s) = true ∧ fixAA (canon aa live s) aa = true then
    if noM aa = true ∧ (live.all fun t => noM (mapA (canon aa live s) (s.env t))) = true ∧ ((canon aa live s).all fun x => noMo (obM (canon aa live s) (s.heap x.1))) = true then some (ve0S (wkS live (canon aa live s) s))
    else some (wkS live (canon aa live s) s) else none
def rnd1 (aa : AV) (live : List Nat) (s : St) : St := zcL s (zboxes s.heap 0 ((canon aa live s).map (·.1)))
def rnd (aa : AV) (live : List Nat) (s : St) : Option St := rnd2 aa live (rnd1 aa live (zsL s live))
theorem noM_x : noM .x = true := rfl
theorem sem_rnd2 {aa : AV} {live : List Nat} {s s' : St} (h : rnd2 aa live s = some s') : Sem aa s s' := by
  unfold rnd2 at h
  obtain ⟨⟨h1, h2⟩, h⟩ := ite_inv h
  split at h
  · rename_i hm
    obtain ⟨m1, m2, m3⟩ := hm
    cases h
    refine (sem_wk live h1 h2).trans (sem_ve0 (fun t => ?_) (fun k => ?_) m1)
    · rw [wkS_eq]
      show noM (if live.contains t then mapA (canon aa live s) (s.env t) else .x) = true
      split
      · rename_i ht
        exact List.all_eq_true.1 m2 t (by simpa using ht)
      · rfl
    · rw [wkS_eq]
      show noMo (wkH (canon aa live s) s.heap k) = true
      unfold wkH
      split
      · rename_i k0 e
        have hmem : (k0, k) ∈ canon aa live s := by
          have := lookup_mem e
          simp at this
          obtain ⟨a, b, h, rfl, rfl⟩ := this
          exact h
        have := List.all_eq_true.1 m3 _ hmem
        cases e2 : s.heap k0 with
        | none => rfl
        | some o => rw [e2] at this; exact this
      · rfl
  · cases h
    exact sem_wk live h1 h2
theorem sem_rnd {aa : AV} {live : List Nat} {s s' : St} (h : rnd aa live s = some s') : Sem aa s s' :=
  ((sem_zsL live s).trans (sem_zcL _ _)).trans (sem_rnd2 h)
end Go.Fs
