/- A part of the proof: an evaluator of the program's code over plain data, proved sound; the equations of its functions; what they compute. No conditions beyond those in the theorems. -/
import Derived.Laws.Slices
import Derived.Test.YtkgkoolfobmfnaaGreatDoorP0
set_option linter.unusedVariables false
set_option linter.unusedSimpArgs false
set_option linter.constructorNameAsVariable false
set_option linter.unusedSectionVars false
set_option linter.defProp false
namespace Go.Fs
open Go.RowKit

def pack (ag : Bool) (cs : List AV) : AV := if ag then .g cs else cs.headD .x

/-- Cells of a row that a call has made itself: a list in one is known by its place. -/
def mCell (k ve i o : Nat) : D → Option AV
  | .l _ _ => some (.m k ve i o)
  | c => if scal c then some (.d c) else none
def mCells (k ve i : Nat) : Nat → List D → Option (List AV)
  | _, [] => some []
  | o, c :: cs => (mCell k ve i o c).bind fun a => (mCells k ve i (o + 1) cs).map (a :: ·)

/-- A read of a variable, of a field, of an element. -/
def opLoad (T : Tab) (H : Nat → Option Ob) (ty : TypeId) (p : AV) : Option AV :=
  (T.ti ty).bind fun ti => ti.kind.agg.bind fun ag => if ag = true ∨ ti.size = 1 then match p with
  | .a k o => match H k with
    | some (.box cs) => if o + ti.size ≤ cs.length then some (pack ag ((cs.drop o).take ti.size)) else none
    | _ => none
  | .q cs o => if o + ti.size ≤ cs.length then some (pack ag (((cs.drop o).take ti.size).map .d)) else none
  | .d (.p cs) => if ti.size ≤ cs.length then some (pack ag ((cs.take ti.size).map .d)) else none
  | .e k i o => match H k with
    | some (.row sz xs dp fz ve) => if o + ti.size ≤ sz then
        (if (dp && !fz) = true then (mCells k ve i o (((xs.getD i []).drop o).take ti.size)).map (pack ag) else some (pack ag ((((xs.getD i []).drop o).take ti.size).map .d)))
      else none
    | _ => none
  | _ => none else none

/-- A list that is known by its place, as a value: its row is not written any more. -/
def demote1 (H : Nat → Option Ob) : AV → Option (AV × (Nat → Option Ob))
  | .m k ve i o => match H k with
    | some (.row sz xs dp fz ve') => if ve = ve' ∧ i < xs.length ∧ o < sz then some (.d ((xs.getD i []).getD o .u), if (dp && !fz) = true then upd H k (some (.row sz xs dp true ve')) else H) else none
    | _ => none
  | av => some (av, H)
def demoteL (H : Nat → Option Ob) : List AV → Option (List AV × (Nat → Option Ob))
  | [] => some ([], H)
  | av :: avs => (demote1 H av).bind fun x => (demoteL x.2 avs).bind fun y => some (x.1 :: y.1, y.2)
def demote (H : Nat → Option Ob) : AV → Option (AV × (Nat → Option Ob))
  | .g cs => (demoteL H cs).map fun x => (.g x.1, x.2)
  | av => demote1 H av

section
variable {P : Program} {w : World}
theorem run_loadVar_at {t : TypeId} {ti : TI} (h : TIOK P t ti) {ag : Bool} (hk : ti.kind.agg = some ag) {g o : Nat} {cur : Array Value} {e : TypeId} {fr : Nat × Nat} (hg : w.heap[g]? = some (.cells cur e fr))
    {vs : List Value} (hl : vs.length = ti.size) (hv : ∀ j v, vs[j]? = some v → cur[o + j]? = some v) (h1 : ag = true ∨ ti.size = 1) :
    ∃ v, (loadVar t ⟨g, o, none⟩).run P w = .ok v w ∧ (ag = true → v = .agg vs.toArray) ∧ (ag = false → vs = [v]) := by
  cases ag with
  | true =>
    refine ⟨.agg vs.toArray, ?_, fun _ => rfl, by simp⟩
    have := run_loadCells_list (P := P) w ⟨g, o, none⟩ vs (fun j v hj => by rw [add_at, cell_at hg]; exact hv j v hj)
    rw [hl] at this
    simp [loadVar, h.isAgg w hk, h.sizeOf w, this]
  | false =>
    have hs : ti.size = 1 := by simpa using h1
    rw [hs] at hl
    obtain ⟨v, rfl⟩ := List.length_eq_one_iff.1 hl
    refine ⟨v, ?_, by simp, fun _ => rfl⟩
    have hc : cur[o]? = some v := by simpa using hv 0 v rfl
    simp [loadVar, h.isAgg w hk, cell_at hg, hc]
end

section rel
variable {P : Program} {T : Tab} {B : Ctx} {G : Nat → GI} {s : St} {a : Act} {w : World}

theorem pack_ok {H : Nat → Option Ob} {Av : Nat → Prop} {vs : List Value} {cs : List AV} {ag : Bool} {v : Value} (h : AVRL w G H Av vs cs) (h1 : ag = true → v = .agg vs.toArray) (h2 : ag = false → vs = [v]) : AVR w G H Av v (pack ag cs) := by
  cases ag with
  | true => rw [h1 rfl]; exact .g _ _ (by simpa using h)
  | false =>
    have := h2 rfl
    subst this
    cases h with
    | cons _ av _ _ h hs => cases hs; exact h

theorem TrL.avrl {H : Nat → Option Ob} {Av : Nat → Prop} {own : Bool} : ∀ {vs : List Value} {ds : List D} {S : List Nat}, TrL w own vs ds S → (∀ v ∈ vs, v.oneCell' = true) → (∀ b ∈ S, ¬ Av b) → AVRL w G H Av vs (ds.map .d)
  | _, _, _, .nil, _, _ => .nil
  | _, _, _, .cons v d S vs ds Ss h hs, h1, hS => .cons _ _ _ _ (.d v d S (h1 v (by simp)) h.shared fun b hb => hS b (by simp [hb])) (hs.avrl (fun v hv => h1 v (by simp [hv])) fun b hb => hS b (by simp [hb]))

/-- A row that is not written any more. -/
theorem RelG.freeze (h : RelG B G s a w) {k sz : Nat} {xs : List (List D)} {dp : Bool} {ve : Nat} (hk : s.heap k = some (.row sz xs dp false ve)) :
    RelG B G { s with heap := upd s.heap k (some (.row sz xs dp true ve)) } a w ∧ (∀ b, Ban B.F G (upd s.heap k (some (.row sz xs dp true ve))) b → Ban B.F G s.heap b ∧ ((G k).cap ≠ 0 → b ≠ (G k).blk) ∧ b ∉ (G k).sub) ∧
      ∀ {v : Value} {av : AV}, AVR w G s.heap (Ban B.F G s.heap) v av → AVR w G (upd s.heap k (some (.row sz xs dp true ve))) (Ban B.F G (upd s.heap k (some (.row sz xs dp true ve)))) v av := by
  have hR : RowR w (Ban B.F G s.heap) (G k) sz xs dp false := h.obj k _ hk
  have hown : ∀ b, Ban B.F G (upd s.heap k (some (.row sz xs dp true ve))) b → Ban B.F G s.heap b ∧ ((G k).cap ≠ 0 → b ≠ (G k).blk) ∧ b ∉ (G k).sub := by
    rintro b (⟨i, hi⟩ | hf)
    case inr =>
      have key : b ∈ ownOf (G k) (s.heap k) → False := fun hm => h.noF hm hf
      rw [hk] at key
      refine ⟨.inr hf, fun hc hb => key (by simp [ownOf, hb, hc]), fun hb => ?_⟩
      have hc : (G k).cap ≠ 0 := fun hc => by rw [(hR.void hc).2.2] at hb; simp at hb
      cases dp with
      | true => exact key (by simp [ownOf, hb, hc])
      | false => exact hR.sub (.inl rfl) b hb (.inr hf)
    by_cases e : i = k
    · subst e; rw [upd_same] at hi; simp [ownOf] at hi
    · rw [upd_ne _ _ e] at hi
      have key : b ∈ ownOf (G k) (s.heap k) → False := fun hm => e (h.disj i k b hi hm)
      rw [hk] at key
      refine ⟨.inl ⟨i, hi⟩, fun hc hb => key (by simp [ownOf, hb, hc]), fun hb => ?_⟩
      have hc : (G k).cap ≠ 0 := fun hc => by rw [(hR.void hc).2.2] at hb; simp at hb
      cases dp with
      | true => exact key (by simp [ownOf, hb, hc])
      | false => exact hR.sub (.inl rfl) b hb (.inl ⟨i, hi⟩)
  have hto : ∀ i o, s.heap i = some o → ∃ o', upd s.heap k (some (.row sz xs dp true ve)) i = some o' ∧ Ob.to (G i) (G i) o o' := by
    intro i o ho
    by_cases e : i = k
    · subst e
      rw [hk] at ho
      cases ho
      exact ⟨_, upd_same .., .row _ _ _ _ _ _ _ _ _ rfl rfl rfl rfl (.inr ⟨rfl, rfl, rfl⟩)⟩
    · exact ⟨o, by rw [upd_ne _ _ e]; exact ho, .refl _ _⟩
  refine ⟨?_, hown, fun hv => (AVR.mono_both (fun _ _ _ => rfl) (fun b _ hb => (hown b hb).1) hto).1 hv⟩
  refine h.step (w' := w) (G' := G) _ (fun i => i = k) (.refl w) (fun _ _ _ => rfl) (fun i hi => ⟨upd_ne _ _ hi, rfl⟩) ?_ ?_ ?_ ?_ ?_
  · rintro i o' rfl ho
    rw [hk] at ho
    cases ho
    exact ⟨_, upd_same .., .row _ _ _ _ _ _ _ _ _ rfl rfl rfl rfl (.inr ⟨rfl, rfl, rfl⟩)⟩
  · rintro i rfl b hb; rw [upd_same] at hb; simp [ownOf] at hb
  · rintro i rfl; rw [upd_same]; simp [ownOf]
  · rintro i j rfl rfl _ _ _; rfl
  · rintro i o' rfl ho
    rw [upd_same] at ho
    cases ho
    exact ⟨hR.cells, hR.cap, hR.max, hR.len, hR.one, hR.uni, hR.tr, hR.nodup, fun _ b hb hn => (hown b hn).2.2 hb, fun _ hp hn => (hown _ hn).2.1 (by omega) rfl⟩


theorem mCells_ok {k i sz : Nat} {xs : List (List D)} {dp fz : Bool} {ve : Nat} {H : Nat → Option Ob} {Av : Nat → Prop} (hk : H k = some (.row sz xs dp fz ve)) {own : Bool} :
    ∀ {vs : List Value} {ds : List D} {S : List Nat} (h : TrL w own vs ds S) (o : Nat) {l : List AV}, mCells k ve i o ds = some l → (∀ v ∈ vs, v.oneCell' = true) →
    (∀ j d, ds[j]? = some d → xs.flatten[i * sz + (o + j)]? = some d) → (∀ j v, vs[j]? = some v → (G k).vs[i * sz + (o + j)]? = some v) → AVRL w G H Av vs l
  | _, _, _, .nil, o, l, hm, _, _, _ => by
    simp only [mCells, Option.some.injEq] at hm
    subst hm
    exact .nil
  | _, _, _, .cons v d S vs ds Ss h hs, o, l, hm, h1, hd, hv => by
    simp only [mCells, Option.bind_eq_some_iff, Option.map_eq_some_iff] at hm
    obtain ⟨a, ha, l', hl', rfl⟩ := hm
    refine .cons _ _ _ _ ?_ (mCells_ok hk hs (o + 1) hl' (fun v hv => h1 v (by simp [hv])) (fun j d' hj => ?_) (fun j v' hj => ?_))
    · unfold mCell at ha
      split at ha
      · simp only [Option.some.injEq] at ha
        subst ha
        have e1 := hd 0 _ rfl
        have e2 := hv 0 _ rfl
        exact .m k i o sz xs dp fz ve v _ _ hk (by simpa using e1) (by simpa using e2) (h1 v (by simp))
      · split at ha
        · rename_i hsc
          simp only [Option.some.injEq] at ha
          subst ha
          obtain ⟨_, hany, ho⟩ := scal_tr h hsc
          exact .sc ho (hany w false)
        · cases ha
    · have := hd (j + 1) d' (by simpa using hj)
      rw [← this]; congr 2; omega
    · have := hv (j + 1) v' (by simpa using hj)
      rw [← this]; congr 2; omega

theorem opLoad_ok (hT : T.ok P = true) (h : RelG B G s a w) {ty : TypeId} {p : AV} {pv : Value} (hp : AVR w G s.heap (Ban B.F G s.heap) pv p) {av : AV} (hm : opLoad T s.heap ty p = some av) :
    ∃ v, (Instr.loadAt ty pv).run P w = .ok v w ∧ AVR w G s.heap (Ban B.F G s.heap) v av := by
  simp only [opLoad, Option.bind_eq_some_iff] at hm
  obtain ⟨ti, hti, ag, hag, hm⟩ := hm
  have hok := tiok hT hti
  split at hm
  case isFalse => cases hm
  rename_i h1
  cases hp with
  | a k o cs hk =>
    simp only [hk] at hm
    split at hm
    case isFalse => cases hm
    rename_i hle
    simp only [Option.some.injEq] at hm
    subst hm
    obtain ⟨cur, e, hg, hr, _⟩ := (h.obj k _ hk : BoxR w G s.heap _ (G k) cs).cells
    have hl := hr.length
    obtain ⟨v, hv, ha, hb⟩ := run_loadVar_at hok hag (o := o) hg (vs := (cur.toList.drop o).take ti.size) (by rw [List.length_take, List.length_drop]; omega) (fun j v hj => by
      rw [List.getElem?_take] at hj
      split at hj
      · rw [List.getElem?_drop] at hj; simpa using hj
      · cases hj) h1
    exact ⟨v, by simpa [Instr.loadAt, Instr.sureAddr] using hv, pack_ok ((hr.drop o).take ti.size) ha hb⟩
  | q g bs o cur el fr vs cs S hg hv h1' ht hbn hS =>
    simp only at hm
    split at hm
    case isFalse => cases hm
    rename_i hle
    simp only [Option.some.injEq] at hm
    subst hm
    have hl := ht.length
    obtain ⟨S1, t1, t2, _⟩ := ht.drop o
    obtain ⟨S2, t3, t4, _⟩ := t1.take ti.size
    obtain ⟨v, hv', ha, hb⟩ := run_loadVar_at hok hag (o := bs + o) hg (vs := (vs.drop o).take ti.size) (by rw [List.length_take, List.length_drop]; omega) (fun j v hj => by
      rw [List.getElem?_take] at hj
      split at hj
      · rw [List.getElem?_drop] at hj; rw [Nat.add_assoc]; exact hv _ _ hj
      · cases hj) h1
    exact ⟨v, by simpa [Instr.loadAt, Instr.sureAddr] using hv', pack_ok (t3.avrl (fun v hv => h1' v (List.mem_of_mem_drop (List.mem_of_mem_take hv))) fun b hb => hS b (t2 b (t4 b hb))) ha hb⟩
  | d v x S h1c ht hS =>
    cases ht with
    | p g o cur e fr vs ds S hg hv h1' ho hs =>
      simp only at hm
      split at hm
      case isFalse => cases hm
      rename_i hle
      simp only [Option.some.injEq] at hm
      subst hm
      have hl := hs.length
      obtain ⟨S2, t3, t4, _⟩ := hs.take ti.size
      obtain ⟨v, hv', ha, hb⟩ := run_loadVar_at hok hag (o := o) hg (vs := vs.take ti.size) (by rw [List.length_take]; omega) (fun j v hj => by
        rw [List.getElem?_take] at hj
        split at hj
        · exact hv _ _ hj
        · cases hj) h1
      exact ⟨v, by simpa [Instr.loadAt, Instr.sureAddr] using hv', pack_ok (t3.avrl (fun v hv => h1' v (List.mem_of_mem_take hv)) fun b hb => hS b (by simp [t4 b hb])) ha hb⟩
    | _ => simp_all
  | e k i o sz xs dp fz ve hk hi =>
    simp only [hk] at hm
    split at hm
    case isFalse => cases hm
    rename_i hle
    have hR : RowR w (Ban B.F G s.heap) (G k) sz xs dp fz := h.obj k _ hk
    obtain ⟨hcells, r2, r3, r4, r5, r6, r7, r8, r9, r10⟩ := hR
    obtain ⟨cur, e, hg, hcap, hvs⟩ := hcells (by omega)
    obtain ⟨x, hx⟩ : ∃ x, xs[i]? = some x := ⟨_, List.getElem?_eq_getElem hi⟩
    have hxl : x.length = sz := r6 x (List.mem_of_getElem? hx)
    have hgd : xs.getD i [] = x := by rw [List.getD_eq_getElem?_getD, hx]; rfl
    rw [hgd] at hm
    have hmul : (i + 1) * sz ≤ xs.length * sz := Nat.mul_le_mul_right _ hi
    rw [Nat.succ_mul] at hmul
    obtain ⟨S1, t1, t2, t2n⟩ := r7.drop (i * sz + o)
    obtain ⟨S2, t3, t4, t4n⟩ := t1.take ti.size
    have hds : (xs.flatten.drop (i * sz + o)).take ti.size = (x.drop o).take ti.size := by
      apply List.ext_getElem?
      intro j
      rw [List.getElem?_take, List.getElem?_take]
      split
      · rename_i hj
        rw [List.getElem?_drop, List.getElem?_drop, Nat.add_assoc, flat_get r6 hx (by omega)]
      · rfl
    obtain ⟨v, hv', ha, hb⟩ := run_loadVar_at hok hag (o := (G k).off + i * sz + o) hg (vs := ((G k).vs.drop (i * sz + o)).take ti.size) (by rw [List.length_take, List.length_drop, r4]; omega) (fun j v hj => by
      rw [List.getElem?_take] at hj
      split at hj
      · rw [List.getElem?_drop] at hj
        have := hvs _ _ hj
        rw [← this]; congr 1; omega
      · cases hj) h1
    have hone : ∀ v ∈ ((G k).vs.drop (i * sz + o)).take ti.size, v.oneCell' = true := fun v hv => r5 v (List.mem_of_mem_drop (List.mem_of_mem_take hv))
    have hSs : ∀ b ∈ S2, b ∈ (G k).sub := fun b hb => t2 b (t4 b hb)
    refine ⟨v, by simpa [Instr.loadAt, Instr.sureAddr] using hv', ?_⟩
    rw [hds] at t3
    split at hm
    · simp only [Option.map_eq_some_iff] at hm
      obtain ⟨l, hl, rfl⟩ := hm
      refine pack_ok (mCells_ok hk t3 o hl hone (fun j d hj => ?_) (fun j v' hj => ?_)) ha hb
      · rw [← hds, List.getElem?_take] at hj
        split at hj
        · rw [List.getElem?_drop] at hj; rw [← hj]; congr 1; omega
        · cases hj
      · rw [List.getElem?_take] at hj
        split at hj
        · rw [List.getElem?_drop] at hj; rw [← hj]; congr 1; omega
        · cases hj
    · rename_i hfr
      simp only [Option.some.injEq] at hm
      subst hm
      refine pack_ok (t3.avrl hone fun b hb hn => ?_) ha hb
      have : dp = false ∨ fz = true := by
        cases dp <;> cases fz <;> simp_all
      exact r9 this b (hSs b hb) hn
  | _ => simp_all

/-- The state goes on in its own mind alone. -/
structure Eased (B : Ctx) (G : Nat → GI) (s : St) (a : Act) (w : World) (H' : Nat → Option Ob) : Prop where
  rel : RelG B G { s with heap := H' } a w
  avr : ∀ {v : Value} {av : AV}, AVR w G s.heap (Ban B.F G s.heap) v av → AVR w G H' (Ban B.F G H') v av

theorem Eased.refl (h : RelG B G s a w) : Eased B G s a w s.heap := ⟨h, fun h => h⟩
theorem Eased.trans {H1 H2 : Nat → Option Ob} (h1 : Eased B G s a w H1) (h2 : Eased B G { s with heap := H1 } a w H2) : Eased B G s a w H2 := ⟨h2.rel, fun h => h2.avr (h1.avr h)⟩
theorem Eased.avrl {H' : Nat → Option Ob} (h : Eased B G s a w H') {vs : List Value} {as : List AV} (hv : AVRL w G s.heap (Ban B.F G s.heap) vs as) : AVRL w G H' (Ban B.F G H') vs as := by
  have := h.avr (.t vs.toArray as (by simpa using hv))
  cases this with
  | t _ _ h => simpa using h

theorem demote1_ok (h : RelG B G s a w) {v : Value} {av av' : AV} {H' : Nat → Option Ob} (hv : AVR w G s.heap (Ban B.F G s.heap) v av) (hm : demote1 s.heap av = some (av', H')) :
    Eased B G s a w H' ∧ AVR w G H' (Ban B.F G H') v av' := by
  have easy : some (av, s.heap) = some (av', H') → Eased B G s a w H' ∧ AVR w G H' (Ban B.F G H') v av' := by
    intro hm
    simp only [Option.some.injEq, Prod.mk.injEq] at hm
    obtain ⟨rfl, rfl⟩ := hm
    exact ⟨.refl h, hv⟩
  cases hav : av with
  | m k ve i o =>
    subst hav
    simp only [demote1] at hm
    split at hm
    case h_2 => cases hm
    rename_i sz xs dp fz ve' hk
    split at hm
    case isFalse => cases hm
    rename_i hc
    obtain ⟨rfl, hi, ho⟩ := hc
    simp only [Option.some.injEq, Prod.mk.injEq] at hm
    obtain ⟨rfl, rfl⟩ := hm
    have hR : RowR w (Ban B.F G s.heap) (G k) sz xs dp fz := h.obj k _ hk
    cases hv with
    | m _ _ _ sz0 xs0 dp0 fz0 _ _ z ys hk0 hj hvj h1 =>
      rw [hk] at hk0
      cases hk0
      obtain ⟨x, hx⟩ : ∃ x, xs[i]? = some x := ⟨_, List.getElem?_eq_getElem hi⟩
      have hxl : x.length = sz := hR.uni x (List.mem_of_getElem? hx)
      have hgd : xs.getD i [] = x := by rw [List.getD_eq_getElem?_getD, hx]; rfl
      have hfx := flat_get hR.uni hx ho
      rw [hfx] at hj
      have hgo : x.getD o .u = .l z ys := by rw [List.getD_eq_getElem?_getD, hj]; rfl
      rw [hgd, hgo]
      obtain ⟨u, S1, hu, ht, hS, _⟩ := hR.tr.get (hfx.trans hj)
      rw [hvj] at hu
      cases hu
      split
      · rename_i hdf
        simp only [Bool.and_eq_true, Bool.not_eq_true'] at hdf
        obtain ⟨rfl, rfl⟩ := hdf
        obtain ⟨f1, f2, f3⟩ := h.freeze hk
        exact ⟨⟨f1, f3⟩, .d _ _ S1 h1 ht.shared fun b hb hn => (f2 b hn).2.2 (hS b hb)⟩
      · rename_i hdf
        refine ⟨.refl h, .d _ _ S1 h1 ht.shared fun b hb hn => hR.sub ?_ b (hS b hb) hn⟩
        cases dp <;> cases fz <;> simp_all
    | mo _ _ _ sz0 xs0 dp0 fz0 _ ve1 _ hk0 hlt => rw [hk] at hk0; cases hk0; omega
    | md _ _ _ _ _ hk0 => rw [hk] at hk0; cases hk0
  | _ => subst hav; exact easy hm

theorem demoteL_ok : ∀ {s : St} (h : RelG B G s a w) {vs : List Value} {as as' : List AV} {H' : Nat → Option Ob} (hv : AVRL w G s.heap (Ban B.F G s.heap) vs as) (hm : demoteL s.heap as = some (as', H')),
    Eased B G s a w H' ∧ AVRL w G H' (Ban B.F G H') vs as'
  | s, h, _, _, as', H', .nil, hm => by
    simp only [demoteL, Option.some.injEq, Prod.mk.injEq] at hm
    obtain ⟨rfl, rfl⟩ := hm
    exact ⟨.refl h, .nil⟩
  | s, h, _, _, as', H', .cons v av vs as hv hvs, hm => by
    simp only [demoteL, Option.bind_eq_some_iff, Option.some.injEq, Prod.mk.injEq] at hm
    obtain ⟨⟨a1, H1⟩, m1, ⟨as2, H2⟩, m2, rfl, rfl⟩ := hm
    obtain ⟨e1, v1⟩ := demote1_ok h hv m1
    obtain ⟨e2, v2⟩ := demoteL_ok e1.rel (e1.avrl hvs) m2
    exact ⟨e1.trans e2, .cons _ _ _ _ (e2.avr v1) v2⟩

theorem demote_ok (h : RelG B G s a w) {v : Value} {av av' : AV} {H' : Nat → Option Ob} (hv : AVR w G s.heap (Ban B.F G s.heap) v av) (hm : demote s.heap av = some (av', H')) :
    Eased B G s a w H' ∧ AVR w G H' (Ban B.F G H') v av' := by
  cases hav : av with
  | g cs =>
    subst hav
    simp only [demote, Option.map_eq_some_iff, Prod.mk.injEq] at hm
    obtain ⟨⟨cs', H1⟩, m1, rfl, rfl⟩ := hm
    cases hv with
    | g vs _ hvs =>
      obtain ⟨e1, v1⟩ := demoteL_ok h hvs m1
      exact ⟨e1, .g _ _ v1⟩
  | _ => subst hav; exact demote1_ok h hv hm
end rel
end Go.Fs
namespace Go.Fs
open Go.RowKit

/-- The cells of a value. -/
def cellsA : AV → List AV
  | .g cs => cs
  | av => [av]

/-- A value of one cell, of which something is known. -/
def oneA (H : Nat → Option Ob) : AV → Bool
  | .d _ | .z _ | .q _ _ | .f _ _ => true
  | .r k => match H k with | some (.row ..) => true | _ => false
  | .a k _ => match H k with | some (.box _) => true | _ => false
  | .e k _ _ => match H k with | some (.row ..) => true | _ => false
  | .m k ve _ _ => match H k with | some (.row _ _ _ _ ve') => ve' == ve | _ => false
  | _ => false

def opStore (T : Tab) (H : Nat → Option Ob) (ty : TypeId) (p x : AV) : Option (Nat → Option Ob) :=
  (T.ti ty).bind fun ti =>
  if (cellsA x).length = ti.size ∧ (cellsA x).all (oneA H) = true then match p with
  | .a k o => match H k with
    | some (.box cs) => if o + ti.size ≤ cs.length then some (upd H k (some (.box (cs.take o ++ cellsA x ++ cs.drop (o + ti.size))))) else none
    | _ => none
  | .e k i o => (moveCs H (cellsA x)).bind fun m => match m.2.2 k with
    | some (.row sz xs dp false ve) => if o + ti.size ≤ sz then
        some (upd m.2.2 k (some (.row sz (xs.set i ((xs.getD i []).take o ++ m.1 ++ (xs.getD i []).drop (o + ti.size))) (dp && m.2.1) false (ve + 1)))) else none
    | _ => none
  | _ => none else none

section rel
variable {P : Program} {T : Tab} {B : Ctx} {G : Nat → GI} {s : St} {a : Act} {w : World}

theorem oneA_ok {H : Nat → Option Ob} {Av : Nat → Prop} {v : Value} {av : AV} (h : AVR w G H Av v av) (h1 : oneA H av = true) : v.oneCell' = true := by
  cases h <;> simp_all [oneA] <;> rfl

theorem cellsA_ok {H : Nat → Option Ob} {Av : Nat → Prop} {v : Value} {av : AV} (h : AVR w G H Av v av) (h1 : (cellsA av).all (oneA H) = true) : AVRL w G H Av v.cells.toList (cellsA av) ∧ ∀ u ∈ v.cells.toList, u.oneCell' = true := by
  have all_one : ∀ {vs : List Value} {as : List AV}, AVRL w G H Av vs as → as.all (oneA H) = true → ∀ u ∈ vs, u.oneCell' = true := by
    intro vs as hl
    induction hl using AVRL.rec (motive_1 := fun _ _ _ => True) with
    | nil => simp
    | cons v av vs as hv hs _ ih =>
      intro hall u hu
      simp only [List.all_cons, Bool.and_eq_true] at hall
      rcases List.mem_cons.1 hu with rfl | hu
      · exact oneA_ok hv hall.1
      · exact ih hall.2 u hu
    | _ => trivial
  cases hav : av with
  | g cs =>
    subst hav
    cases h with
    | g vs _ h => exact ⟨h, all_one h h1⟩
  | _ =>
    subst hav
    have e := oneA_ok h (by simpa [cellsA] using h1)
    have hc : v.cells = #[v] := by cases v <;> simp_all [Value.cells, Value.oneCell']
    rw [hc]
    exact ⟨.cons _ _ _ _ h .nil, by simpa using e⟩

theorem run_storeVar_at {t : TypeId} {ti : TI} (h : TIOK P t ti) {g o : Nat} {cur : Array Value} {e : TypeId} (hg : w.heap[g]? = some (.cells cur e (0, 0))) {v : Value} (hl : v.cells.toList.length = ti.size)
    (ho : o + ti.size ≤ cur.size) (h1 : ∀ u ∈ v.cells.toList, u.oneCell' = true) :
    (storeVar t ⟨g, o, none⟩ v).run P w = .ok () (w.setRow g (List.take o cur.toList ++ v.cells.toList ++ List.drop (o + ti.size) cur.toList).toArray) := by
  have := run_storeCells_at P g o e v.cells.toList 0 cur w hg (by omega) h1
  rw [Nat.add_zero, hl] at this
  have hs : v.cells.size = ti.size := by simpa using hl
  simp [storeVar, h.sizeOf w, hs, this]

theorem rest_setRow (w : World) (g : Nat) (cs : Array Value) : Rest w (w.setRow g cs) := ⟨rfl, rfl, rfl, by simp [World.setRow]⟩

theorem opStore_ok (hT : T.ok P = true) (h : RelG B G s a w) {ty : TypeId} {p x : AV} {pv xv : Value} (hp : AVR w G s.heap (Ban B.F G s.heap) pv p) (hx : AVR w G s.heap (Ban B.F G s.heap) xv x) {H' : Nat → Option Ob} (hm : opStore T s.heap ty p x = some H') :
    ∃ w' G', (Instr.storeAt ty pv xv).run P w = .ok () w' ∧ RelG B G' { s with heap := H' } a w' := by
  simp only [opStore, Option.bind_eq_some_iff] at hm
  obtain ⟨ti, hti, hm⟩ := hm
  have hok := tiok hT hti
  split at hm
  case isFalse => cases hm
  rename_i hcond
  obtain ⟨hlen, hall⟩ := hcond
  obtain ⟨hcs, hone⟩ := cellsA_ok hx hall
  have hxl : xv.cells.toList.length = ti.size := by rw [hcs.length, hlen]
  cases hp with
  | a k o cs hk =>
    simp only [hk] at hm
    split at hm
    case isFalse => cases hm
    rename_i hle
    simp only [Option.some.injEq] at hm
    obtain ⟨cur, e, hg, hr, h1⟩ := (h.obj k _ hk : BoxR w G s.heap _ (G k) cs).cells
    have hl := hr.length
    rw [Array.length_toList] at hl
    have hrun := run_storeVar_at (P := P) hok (o := o) hg hxl (by omega) hone
    refine ⟨_, G, by simp only [Instr.storeAt, Instr.sureAddr, pure_bind]; exact hrun, ?_⟩
    rw [← hm]
    have hlt : (G k).blk < w.heap.size := (Array.getElem?_eq_some_iff.1 hg).1
    refine h.step (G' := G) _ (fun i => i = k) (rest_setRow ..) ?_ (fun i hi => ⟨upd_ne _ _ hi, rfl⟩) ?_ ?_ ?_ ?_ ?_
    · intro b hb hn
      have hbk : b ≠ (G k).blk := by
        intro e'
        apply hn k rfl
        rw [hk]
        simp [ownOf, e']
      exact setRow_other w _ _ _ hbk
    · rintro i o' rfl ho
      rw [hk] at ho
      cases ho
      exact ⟨_, upd_same .., .box _ _ rfl⟩
    · rintro i rfl b hb
      rw [upd_same] at hb
      exact .inl ⟨i, rfl, by rw [hk]; simpa [ownOf] using hb⟩
    · rintro i rfl; rw [upd_same]; simp [ownOf]
    · rintro i j rfl rfl _ _ _; rfl
    · rintro i o' rfl ho
      rw [upd_same] at ho
      cases ho
      have hM := AVR.mono_both (w := w) (w' := w.setRow (G i).blk (List.take o cur.toList ++ xv.cells.toList ++ List.drop (o + ti.size) cur.toList).toArray) (G := G) (G' := G) (H := s.heap)
        (H' := upd s.heap i (some (.box (cs.take o ++ cellsA x ++ cs.drop (o + ti.size))))) (Av := Ban B.F G s.heap) (Av' := Ban B.F G (upd s.heap i (some (.box (cs.take o ++ cellsA x ++ cs.drop (o + ti.size))))))
        (fun b hb hn => setRow_other w _ _ _ fun e' => hn (.inl ⟨i, by rw [hk]; simp [ownOf, e']⟩))
        (by
          rintro b _ (⟨j, hj⟩ | hf)
          case inr => exact .inr hf
          left
          by_cases e' : j = i
          · subst e'; rw [upd_same] at hj; exact ⟨j, by rw [hk]; simpa [ownOf] using hj⟩
          · rw [upd_ne _ _ e'] at hj; exact ⟨j, hj⟩)
        (by
          intro j o' ho
          by_cases e' : j = i
          · subst e'; rw [hk] at ho; cases ho; exact ⟨_, upd_same .., .box _ _ rfl⟩
          · exact ⟨o', by rw [upd_ne _ _ e']; exact ho, Ob.to.refl _ _⟩)
      refine ⟨_, e, setRow_heap w _ _ _ _ _ hg, ?_, ?_⟩
      · apply hM.2
        exact ((hr.take o).append hcs).append (hr.drop (o + ti.size))
      · intro u hu
        rw [List.toList_toArray] at hu
        simp only [List.mem_append] at hu
        rcases hu with (hu | hu) | hu
        · exact h1 u (List.mem_of_mem_take hu)
        · exact hone u hu
        · exact h1 u (List.mem_of_mem_drop hu)
  | e k i_ o sz0 xs0 dp0 fz0 ve0 hk0 hi0 =>
    simp only [Option.bind_eq_some_iff] at hm
    obtain ⟨⟨ds, f, H1⟩, hmv, hm⟩ := hm
    obtain ⟨M, S', t', _, n', o'⟩ := moveCs_ok h hcs hmv
    simp only at hm
    split at hm
    case h_2 => cases hm
    rename_i sz xs dp ve hk1
    split at hm
    case isFalse => cases hm
    rename_i hle
    simp only [Option.some.injEq] at hm
    have hk : s.heap k = some (.row sz xs dp false ve) := by
      rcases M.keys k with e | ⟨_, e⟩
      · rw [← e]; exact hk1
      · rw [e] at hk1; cases hk1
    have hsame : sz0 = sz ∧ xs0 = xs := by rw [hk] at hk0; cases hk0; exact ⟨rfl, rfl⟩
    obtain ⟨rfl, rfl⟩ := hsame
    have h1 : RelG B G { s with heap := H1 } a w := M.rel
    have hR : RowR w (Ban B.F G H1) (G k) sz0 xs0 dp false := h1.obj k _ hk1
    obtain ⟨hcells, r2, r3, r4, r5, r6, r7, r8, r9, r10⟩ := hR
    have hi : i_ < xs0.length := hi0
    have hc : (G k).cap ≠ 0 := by omega
    obtain ⟨cur, e, hg, hcap, hvs⟩ := hcells (by omega)
    obtain ⟨y, hy⟩ : ∃ y, xs0[i_]? = some y := ⟨_, List.getElem?_eq_getElem hi⟩
    have hyl : y.length = sz0 := r6 y (List.mem_of_getElem? hy)
    have hgd : xs0.getD i_ [] = y := by rw [List.getD_eq_getElem?_getD, hy]; rfl
    rw [hgd] at hm
    have hdl : ds.length = ti.size := by rw [← t'.length, hxl]
    have hmul : (i_ + 1) * sz0 ≤ xs0.length * sz0 := Nat.mul_le_mul_right _ hi
    have hmul2 : xs0.length * sz0 ≤ (G k).cap * sz0 := Nat.mul_le_mul_right _ r2
    rw [Nat.succ_mul] at hmul
    have hrun := run_storeVar_at (P := P) (w := w) hok (o := (G k).off + i_ * sz0 + o) hg hxl (by omega) hone
    have hnk : ∀ b ∈ S', b ∉ ownOf (G k) (H1 k) := fun b hb hm => n' b hb (.inl ⟨k, hm⟩)
    -- the new list of cells
    obtain ⟨S'', t'', s'', d''⟩ : ∃ S'', TrL w (dp && f) ((G k).vs.take (i_ * sz0 + o) ++ xv.cells.toList ++ (G k).vs.drop (i_ * sz0 + o + ti.size)) (xs0.set i_ (y.take o ++ ds ++ y.drop (o + ti.size))).flatten S'' ∧ (∀ b ∈ S'', b ∈ (G k).sub ∨ b ∈ S') ∧ ((dp && f) = true → S''.Nodup) := by
      have hfl := flat_splice r6 hy (o := o) (es := ds) (by omega)
      rw [hdl] at hfl
      rw [hfl]
      by_cases hd : (dp && f) = true
      · rw [hd]
        simp at hd
        obtain ⟨e1, e2⟩ := hd
        rw [e1] at r7
        rw [e2] at t'
        obtain ⟨S'', u1, u2, u3⟩ := r7.splice t' (i_ * sz0 + o)
        rw [hxl, hdl] at u1
        refine ⟨S'', u1, u2, fun _ => u3 (r8 e1) (o' e2).1 fun b hb hn => ?_⟩
        apply hnk b hn
        rw [hk1, e1]
        simp [ownOf, hc, hb]
      · rw [Bool.not_eq_true] at hd
        rw [hd]
        obtain ⟨S'', u1, u2, u3⟩ := r7.shared.splice t'.shared (i_ * sz0 + o)
        rw [hxl, hdl] at u1
        exact ⟨S'', u1, u2, by simp⟩
    let gi' : GI := { (G k) with vs := (G k).vs.take (i_ * sz0 + o) ++ xv.cells.toList ++ (G k).vs.drop (i_ * sz0 + o + ti.size), sub := S'' }
    have hvl : (G k).vs.length = xs0.length * sz0 := r4
    have hSlt : ∀ b ∈ S', b < w.heap.size := t'.lt
    have hHk : H1 k ≠ none := by rw [hk1]; simp
    refine ⟨_, upd G k gi', by simp only [Instr.storeAt, Instr.sureAddr, pure_bind]; exact hrun, ?_⟩
    rw [← hm]
    -- what is handed over: its blocks belong to nobody now
    have hblkS : (G k).blk ∉ S' := fun hb => hnk _ hb (by rw [hk1]; simp [ownOf, hc])
    have hown' : ∀ b, b ∈ ownOf gi' (some (.row sz0 (xs0.set i_ (y.take o ++ ds ++ y.drop (o + ti.size))) (dp && f) false (ve + 1))) → b ∈ ownOf (G k) (H1 k) ∨ (b ∈ S' ∧ f = true) := by
      intro b hb
      rw [hk1]
      by_cases hd : (dp && f) = true
      · rw [hd] at hb
        simp at hd
        simp only [ownOf, if_true, gi', hc, if_false, List.mem_cons] at hb
        rcases hb with rfl | hb
        · exact .inl (by simp [ownOf, hc])
        · rcases s'' b hb with hb | hb
          · exact .inl (by simp [ownOf, hc, hd.1, hb])
          · exact .inr ⟨hb, hd.2⟩
      · rw [Bool.not_eq_true] at hd
        rw [hd] at hb
        simp only [ownOf, gi', hc, Bool.false_eq_true, if_false, List.mem_cons, List.not_mem_nil, or_false] at hb
        subst hb
        exact .inl (by simp [ownOf, hc])
    have hsubk : (G k).blk ∉ (G k).sub := by
      cases hdp : dp with
      | true =>
        have := h1.nodup k
        simp only [hk1, hdp, ownOf, if_true, hc, if_false] at this
        exact (List.nodup_cons.1 this).1
      | false => exact fun hb => r9 (.inl hdp) _ hb (.inl ⟨k, by rw [hk1]; simp [ownOf, hc]⟩)
    have hS''k : (G k).blk ∉ S'' := fun hb => (s'' _ hb).elim hsubk hblkS
    have hdead : ∀ i, i ≠ k → H1 i ≠ s.heap i → H1 i = some .dead := fun i _ hn => (M.keys i).elim (fun e => absurd e hn) fun e => e.2
    refine h.step (G' := upd G k gi') _ (fun i => i = k ∨ H1 i ≠ s.heap i) (rest_setRow ..) ?_ ?_ ?_ ?_ ?_ ?_ ?_
    · intro b hb hn
      refine setRow_other w _ _ _ fun e' => hn k (.inl rfl) ?_
      rw [hk]
      simp [ownOf, hc, e']
    · intro i hi
      simp only [not_or, ne_eq, Classical.not_not] at hi
      exact ⟨(upd_ne _ _ hi.1).trans hi.2, upd_ne _ _ hi.1⟩
    · intro i o' hi ho
      by_cases e' : i = k
      · subst e'
        rw [hk] at ho
        cases ho
        refine ⟨_, upd_same .., ?_⟩
        rw [upd_same]
        exact .row _ _ _ _ _ _ _ _ _ (by rw [List.length_set]) rfl rfl rfl (.inl (Nat.lt_succ_self _))
      · exact ⟨.dead, (upd_ne _ _ e').trans (hdead i e' (hi.resolve_left e')), .dead _⟩
    · intro i hi b hb
      by_cases e' : i = k
      · subst e'
        rw [upd_same, upd_same] at hb
        rcases hown' b hb with hb | ⟨hb, hf⟩
        · rw [hk1] at hb
          exact .inl ⟨i, .inl rfl, by rw [hk]; exact hb⟩
        · obtain ⟨j, hj⟩ := (o' hf).2 b hb
          refine .inl ⟨j, .inr fun e => n' b hb (.inl ⟨j, ?_⟩), hj⟩
          rw [e]; exact hj
      · rw [upd_ne _ _ e', upd_ne _ _ e', hdead i e' (hi.resolve_left e')] at hb
        simp [ownOf] at hb
    · intro i hi
      by_cases e' : i = k
      · subst e'
        rw [upd_same, upd_same]
        by_cases hd : (dp && f) = true
        · rw [hd]
          simp only [ownOf, if_true, gi', hc, if_false]
          exact List.nodup_cons.2 ⟨hS''k, d'' hd⟩
        · rw [Bool.not_eq_true] at hd
          rw [hd]
          simp [ownOf, hc, gi']
      · rw [upd_ne _ _ e', upd_ne _ _ e', hdead i e' (hi.resolve_left e')]
        simp [ownOf]
    · intro i j hi hj b hb hb'
      by_cases e' : i = k
      · by_cases e2 : j = k
        · rw [e', e2]
        · rw [upd_ne _ _ e2, upd_ne _ _ e2, hdead j e2 (hj.resolve_left e2)] at hb'
          simp [ownOf] at hb'
      · rw [upd_ne _ _ e', upd_ne _ _ e', hdead i e' (hi.resolve_left e')] at hb
        simp [ownOf] at hb
    · intro i o' hi ho
      by_cases e' : i = k
      · subst e'
        rw [upd_same] at ho ⊢
        cases ho
        have hvl2 : ((G i).vs.take (i_ * sz0 + o) ++ xv.cells.toList ++ (G i).vs.drop (i_ * sz0 + o + ti.size)).length = (G i).vs.length := by
          simp only [List.length_append, List.length_take, List.length_drop, hxl]; omega
        have hcs2 : (List.take ((G i).off + i_ * sz0 + o) cur.toList ++ xv.cells.toList ++ List.drop ((G i).off + i_ * sz0 + o + ti.size) cur.toList).length = cur.size := by
          simp only [List.length_append, List.length_take, List.length_drop, hxl, Array.length_toList]; omega
        have hseg := seg_splice (o := (G i).off) (n := i_ * sz0 + o) (ms := xv.cells.toList) hvs (by omega) (by omega)
        rw [hxl] at hseg
        refine ⟨fun _ => ⟨_, e, setRow_heap w _ _ _ _ _ hg, ?_, ?_⟩, ?_, r3, ?_, ?_, ?_, t''.keep fun b hb => setRow_other w _ _ _ fun e' => hS''k (e' ▸ hb), fun hd => d'' hd, ?_, by simp⟩
        · show (G i).off + (G i).cap * sz0 ≤ _
          simp only [List.size_toArray]
          rw [hcs2]
          exact hcap
        · intro j v hj
          have := hseg j v hj
          rw [show (G i).off + (i_ * sz0 + o) = (G i).off + i_ * sz0 + o by omega] at this
          exact this
        · rw [List.length_set]; exact r2
        · show (List.length _) = _
          rw [hvl2, List.length_set]
          exact r4
        · intro u hu
          simp only [gi', List.mem_append] at hu
          rcases hu with (hu | hu) | hu
          · exact r5 u (List.mem_of_mem_take hu)
          · exact hone u hu
          · exact r5 u (List.mem_of_mem_drop hu)
        · intro z hz
          rcases List.mem_or_eq_of_mem_set hz with hz | rfl
          · exact r6 z hz
          · simp only [List.length_append, List.length_take, List.length_drop, hdl]; omega
        · intro hd b hb hn
          have hd' : (dp && f) = false := by simpa using hd
          rcases hn with ⟨j, hj⟩ | hfb
          case inr =>
            rcases s'' b hb with hb | hb
            · cases hdp : dp with
              | false => exact r9 (.inl hdp) b hb (.inr hfb)
              | true =>
                exact h1.noF (k := i) (by show b ∈ ownOf (G i) (H1 i); rw [hk1, hdp]; simp [ownOf, hc, hb]) hfb
            · exact n' b hb (.inr hfb)
          by_cases e2 : j = i
          · subst e2
            rw [upd_same, upd_same, hd'] at hj
            simp only [ownOf, Bool.false_eq_true, if_false, gi', hc, List.mem_cons, List.not_mem_nil, or_false] at hj
            subst hj
            exact hS''k hb
          · rw [upd_ne _ _ e2, upd_ne _ _ e2] at hj
            rcases s'' b hb with hb | hb
            · cases hdp : dp with
              | false => exact r9 (.inl hdp) b hb (.inl ⟨j, hj⟩)
              | true => exact e2 (h1.disj j i b hj (by show b ∈ ownOf (G i) (H1 i); rw [hk1, hdp]; simp [ownOf, hc, hb]))
            · exact n' b hb (.inl ⟨j, hj⟩)
      · rw [upd_ne _ _ e', hdead i e' (hi.resolve_left e')] at ho
        cases ho
        trivial
  | ed k i_ o v hk0 =>
    simp only [Option.bind_eq_some_iff] at hm
    obtain ⟨⟨ds, f, H1⟩, hmv, hm⟩ := hm
    obtain ⟨M, _⟩ := moveCs_ok h hcs hmv
    simp only at hm
    split at hm
    case h_2 => cases hm
    rename_i sz xs dp ve hk1
    rcases M.keys k with e | ⟨_, e⟩
    · rw [e, hk0] at hk1; cases hk1
    · rw [e] at hk1; cases hk1
  | _ => simp_all
end rel
end Go.Fs
namespace Go.Fs
open Go.RowKit

def opField (T : Tab) (H : Nat → Option Ob) (ty : TypeId) (p : AV) (f : Nat) : Option AV :=
  (T.ti ty).bind fun ti => match ti.kind with
  | .strct fs => (fs[f]?).bind fun x => match p with
    | .a k o => match H k with
      | some (.box _) => some (.a k (o + x.1))
      | _ => none
    | .e k i o => match H k with
      | some (.row ..) => some (.e k i (o + x.1))
      | _ => none
    | .q cs o => some (.q cs (o + x.1))
    | .d (.p cs) => some (.q cs x.1)
    | _ => none
  | _ => none

def opIndex (T : Tab) (H : Nat → Option Ob) (ty : TypeId) (x ix : AV) : Option AV :=
  (T.ti ty).bind fun ti => match ti.kind with
  | .slice e => (T.ti e).bind fun te => match ix with
    | .d (.i _ n) => match x with
      | .r k => match H k with
        | some (.row sz xs _ _ _) => if sz = te.size then if 0 ≤ n ∧ n < (xs.length : Int) then some (.e k n.toNat 0) else none else none
        | _ => none
      | .d (.l sz xs) => if sz = te.size then if 0 ≤ n ∧ n < (xs.length : Int) then some (.q (xs.getD n.toNat []) 0) else none else none
      | _ => none
    | _ => none
  | .arr len e => (T.ti e).bind fun te => match ix with
    | .d (.i _ n) => match x with
      | .d (.p cs) => if te.size = 1 ∧ cs.length = len then if 0 ≤ n ∧ n < (cs.length : Int) then some (.q [cs.getD n.toNat .u] 0) else none else none
      | _ => none
    | _ => none
  | _ => none

/-- A byte of a text. -/
def byteAt (s : ByteArray) (n : Int) : Int := ((s.data.getD n.toNat 0).toNat : Int)

def opByte (T : Tab) (ty : TypeId) (x ix : AV) : Option AV :=
  (T.ti ty).bind fun ti => match ti.kind with
  | .str => match x, ix with
    | .d (.s s), .d (.i _ n) => if 0 ≤ n ∧ n < (s.size : Int) then some (.d (.i .u8 (byteAt s n))) else none
    | _, _ => none
  | _ => none

def opLen (T : Tab) (H : Nat → Option Ob) (ty : TypeId) (x : AV) : Option AV :=
  (T.ti ty).bind fun ti => match ti.kind with
  | .str => match x with
    | .d (.s s) => some (.d (.i .i64 s.size))
    | _ => none
  | .slice _ => match x with
    | .r k => match H k with
      | some (.row _ xs _ _ _) => some (.d (.i .i64 xs.length))
      | _ => none
    | .d (.l _ xs) => some (.d (.i .i64 xs.length))
    | .m k ve i o => match H k with
      | some (.row sz xs _ _ ve') => if ve = ve' ∧ i < xs.length ∧ o < sz then (match (xs.getD i []).getD o .u with | .l _ ys => some (.d (.i .i64 ys.length)) | _ => none) else none
      | _ => none
    | .z _ => some (.d (.i .i64 0))
    | _ => none
  | _ => none

/-- A bound of a slice expression. -/
def bnd (x : Option AV) (d : Nat) : Option Nat :=
  match x with
  | none => some d
  | some (.d (.i _ n)) => if 0 ≤ n then some n.toNat else none
  | _ => none

def opSlice (T : Tab) (H : Nat → Option Ob) (dst : Nat) (ty : TypeId) (x : AV) (lo hi : Option AV) : Option (AV × (Nat → Option Ob)) :=
  (T.ti ty).bind fun ti => match ti.kind with
  | .str => match x with
    | .d (.s s) => (bnd hi s.size).bind fun h => (bnd lo 0).bind fun l => if l ≤ h ∧ h ≤ s.size then some (.d (.s (s.extract l h)), H) else none
    | _ => none
  | .slice e => (T.ti e).bind fun te => match x with
    | .r k => match H k with
      | some (.row sz xs dp fz _) => (bnd hi xs.length).bind fun h => (bnd lo 0).bind fun l => if sz = te.size ∧ l ≤ h ∧ h ≤ xs.length then
          (if fz then some (.d (.l sz ((xs.drop l).take (h - l))), H) else match H dst with
            | none => some (.r dst, upd (upd H k (some .dead)) dst (some (.row sz ((xs.drop l).take (h - l)) dp false 0)))
            | _ => none) else none
      | _ => none
    | .d (.l sz xs) => (bnd hi xs.length).bind fun h => (bnd lo 0).bind fun l => if sz = te.size ∧ l ≤ h ∧ h ≤ xs.length then some (.d (.l sz ((xs.drop l).take (h - l))), H) else none
    | _ => none
  | .arr len e => (T.ti e).bind fun te => match x, lo, hi with
    | .d (.p cs), none, none => if te.size = 1 ∧ cs.length = len ∧ len ≤ maxLen then some (.d (.l 1 (cs.map fun c => [c])), H) else none
    | _, _, _ => none
  | _ => none

section rel
variable {P : Program} {T : Tab} {B : Ctx} {G : Nat → GI} {s : St} {a : Act} {w : World} {H : Nat → Option Ob} {Av : Nat → Prop}

theorem AVR.inv_int {v : Value} {k : IntKind} {n : Int} (h : AVR w G H Av v (.d (.i k n))) : v = .int k n := by
  cases h with
  | d _ _ S h1 ht hS => exact ht.inv_i.1
theorem AVR.inv_bool {v : Value} {x : Bool} (h : AVR w G H Av v (.d (.b x))) : v = .bool x := by
  cases h with
  | d _ _ S h1 ht hS => exact ht.inv_b.1
theorem AVR.inv_str {v : Value} {x : ByteArray} (h : AVR w G H Av v (.d (.s x))) : v = .string x := by
  cases h with
  | d _ _ S h1 ht hS => exact ht.inv_s.1
theorem AVR.int (k : IntKind) (n : Int) : AVR w G H Av (.int k n) (.d (.i k n)) := .sc rfl (.i k n)

theorem opField_ok (hT : T.ok P = true) {ty : TypeId} {p : AV} {f : Nat} {pv : Value} (hp : AVR w G H Av pv p) {av : AV} (hm : opField T H ty p f = some av) :
    ∃ v, (Instr.fieldAt ty pv f).run P w = .ok v w ∧ AVR w G H Av v av := by
  simp only [opField, Option.bind_eq_some_iff] at hm
  obtain ⟨ti, hti, hm⟩ := hm
  have hok := tiok hT hti
  cases hk : ti.kind with
  | strct fs =>
    rw [hk] at hm
    simp only [Option.bind_eq_some_iff] at hm
    obtain ⟨⟨fo, ft⟩, hf, hm⟩ := hm
    obtain ⟨fields, hu, hmap, hne⟩ := hok.strct hk
    obtain ⟨fd, hfd, he⟩ : ∃ fd, fields[f]? = some fd ∧ (fd.offset, fd.type) = (fo, ft) := by
      rw [← hmap] at hf
      simp only [List.getElem?_map, Option.map_eq_some_iff] at hf
      obtain ⟨fd, h1, h2⟩ := hf
      exact ⟨fd, by simpa using h1, h2⟩
    simp only [Prod.mk.injEq] at he
    have hsz : P.cellsOf fd.type ≠ 0 := hne fd (by rw [Array.mem_toList_iff]; exact Array.mem_of_getElem? hfd)
    have hsize : ∃ i, P.info? fd.type = some i ∧ i.size ≠ 0 := by
      unfold Program.cellsOf at hsz
      cases hi : P.info? fd.type with
      | none => simp [hi] at hsz
      | some i => exact ⟨i, rfl, by simpa [hi] using hsz⟩
    obtain ⟨i, hi, hi0⟩ := hsize
    have hrun : ∀ g o, (Instr.fieldAt ty (.pointer (some ⟨g, o, none⟩)) f).run P w = .ok (.pointer (some ⟨g, o + fo, none⟩)) w := by
      intro g o
      have hplace : (fieldPlace ⟨g, o, none⟩ fd).run P w = .ok ⟨g, o + fo, none⟩ w := by
        simp [fieldPlace, Go.sizeOf, typeInfo, hi, hi0, add_at, he.1]
      simp [Instr.fieldAt, run_underlying hu, hfd, Instr.sureAddr, hplace]
    cases hp with
    | a k o cs hk =>
      simp only [hk, Option.some.injEq] at hm
      subst hm
      exact ⟨_, hrun _ _, .a k _ cs hk⟩
    | e k i o sz xs dp fz ve hk hi =>
      simp only [hk, Option.some.injEq] at hm
      subst hm
      exact ⟨_, by rw [hrun, Nat.add_assoc], .e k i _ sz xs dp fz ve hk hi⟩
    | q g bs o cur el fr vs cs S hg hv h1 ht hb hS =>
      simp only [Option.some.injEq] at hm
      subst hm
      exact ⟨_, by rw [hrun, Nat.add_assoc], .q g bs _ cur el fr vs cs S hg hv h1 ht hb hS⟩
    | d v x S h1c ht hS =>
      cases ht with
      | p g o cur e fr vs ds S hg hv h1' ho hs =>
        simp only [Option.some.injEq] at hm
        subst hm
        exact ⟨_, hrun _ _, .q g o _ cur e fr vs _ S hg hv h1' hs (hS g (by simp)) fun b hb => hS b (by simp [hb])⟩
      | _ => first | (cases hm; done) | simp_all
    | _ => first | (cases hm; done) | simp_all
  | _ => rw [hk] at hm; simp at hm

theorem opIndex_ok (hT : T.ok P = true) (h : RelG B G s a w) {ty : TypeId} {x ix : AV} {xv iv : Value} (hx : AVR w G s.heap (Ban B.F G s.heap) xv x) (hi : AVR w G s.heap (Ban B.F G s.heap) iv ix) {av : AV} (hm : opIndex T s.heap ty x ix = some av) :
    ∃ v, (Instr.indexAt ty xv iv).run P w = .ok v w ∧ AVR w G s.heap (Ban B.F G s.heap) v av := by
  simp only [opIndex, Option.bind_eq_some_iff] at hm
  obtain ⟨ti, hti, hm⟩ := hm
  have hok := tiok hT hti
  cases hk : ti.kind with
  | slice e =>
    rw [hk] at hm
    simp only [Option.bind_eq_some_iff] at hm
    obtain ⟨te, hte, hm⟩ := hm
    have hoke := tiok hT hte
    have hu := hok.slice hk
    split at hm
    case h_2 => cases hm
    rename_i kk n
    obtain rfl := hi.inv_int
    have hrun : ∀ (g o len c : Nat), 0 ≤ n → n < (len : Int) → (Instr.indexAt ty (.slice (some ⟨g, o, none⟩) len c) (.int kk n)).run P w = .ok (.pointer (some ⟨g, o + n.toNat * te.size, none⟩)) w := by
      intro g o len c h0 h1
      have hz := hoke.sizeOf (w := w)
      simp [Instr.indexAt, asIntOf, run_underlying hu, h0, h1, hz, add_at]
    cases hx with
    | r k sz xs dp fz ve ad hk ha =>
      simp only [hk] at hm
      split at hm
      case isFalse => cases hm
      rename_i hsz
      split at hm
      case isFalse => cases hm
      rename_i hn
      simp only [Option.some.injEq] at hm
      subst hm
      have hcap := (h.obj k _ hk : RowR w (Ban B.F G s.heap) (G k) sz xs dp fz).cap
      have hlt : 0 < (G k).cap := by omega
      refine ⟨_, by rw [ha hlt]; exact hrun _ _ _ _ hn.1 hn.2, ?_⟩
      have := AVR.e (w := w) (G := G) (H := s.heap) (Av := Ban B.F G s.heap) k n.toNat 0 sz xs dp fz ve hk (by omega)
      rw [Nat.add_zero] at this
      rw [← hsz]
      exact this
    | d v x S h1 ht hS =>
      cases ht with
      | z ad c sz ho =>
        simp only at hm
        split at hm
        case isFalse => cases hm
        split at hm
        case isFalse => cases hm
        rename_i hn
        simp at hn
        omega
      | l g o c sz cur e' fr vs xs S hg hc hmx hl hv hone hxx ho hs =>
        simp only at hm
        split at hm
        case isFalse => cases hm
        rename_i hsz
        split at hm
        case isFalse => cases hm
        rename_i hn
        simp only [Option.some.injEq] at hm
        subst hm
        have hil : n.toNat < xs.length := by omega
        obtain ⟨y, hy⟩ : ∃ y, xs[n.toNat]? = some y := ⟨_, List.getElem?_eq_getElem hil⟩
        have hyl : y.length = sz := hxx y (List.mem_of_getElem? hy)
        have hgd : xs.getD n.toNat [] = y := by rw [List.getD_eq_getElem?_getD, hy]; rfl
        rw [hgd]
        have hmul : (n.toNat + 1) * sz ≤ xs.length * sz := Nat.mul_le_mul_right _ hil
        rw [Nat.succ_mul] at hmul
        refine ⟨_, hrun _ _ _ _ hn.1 hn.2, ?_⟩
        obtain ⟨S1, t1, t2, _⟩ := hs.drop (n.toNat * sz)
        obtain ⟨S2, t3, t4, _⟩ := t1.take sz
        have hds : (xs.flatten.drop (n.toNat * sz)).take sz = y := by
          apply List.ext_getElem?
          intro j
          rw [List.getElem?_take]
          split
          · rename_i hj
            rw [List.getElem?_drop, flat_get hxx hy (by omega)]
          · rw [List.getElem?_eq_none (by omega)]
        rw [hds] at t3
        rw [← hsz]
        exact AVR.q g (o + n.toNat * sz) 0 cur e' fr _ y S2 hg (fun j v hj => by
          rw [List.getElem?_take] at hj
          split at hj
          · rw [List.getElem?_drop] at hj
            rw [Nat.add_assoc]
            exact hv _ _ hj
          · cases hj) (fun v hv => hone v (List.mem_of_mem_drop (List.mem_of_mem_take hv))) t3 (hS g (by simp)) fun b hb => hS b (by simp [t2 b (t4 b hb)])
      | _ => first | (cases hm; done) | simp_all
    | _ => first | (cases hm; done) | simp_all
  | arr len e =>
    rw [hk] at hm
    simp only [Option.bind_eq_some_iff] at hm
    obtain ⟨te, hte, hm⟩ := hm
    have hoke := tiok hT hte
    have hu := hok.arr hk
    split at hm
    case h_2 => cases hm
    rename_i kk n
    obtain rfl := hi.inv_int
    split at hm
    case h_2 => cases hm
    rename_i cs
    split at hm
    case isFalse => cases hm
    rename_i hsz
    obtain ⟨hsz, rfl⟩ := hsz
    split at hm
    case isFalse => cases hm
    rename_i hn
    simp only [Option.some.injEq] at hm
    subst hm
    cases hx with
    | d v x S h1 ht hS =>
      cases ht with
      | p g o cur el fr vs _ S hg hv hone ho hs =>
        have hl := hs.length
        have hil : n.toNat < cs.length := by omega
        obtain ⟨y, hy⟩ : ∃ y, cs[n.toNat]? = some y := ⟨_, List.getElem?_eq_getElem hil⟩
        have hgd : cs.getD n.toNat .u = y := by rw [List.getD_eq_getElem?_getD, hy]; rfl
        rw [hgd]
        have hz := hoke.sizeOf (w := w)
        rw [hsz] at hz
        refine ⟨.pointer (some ⟨g, o + n.toNat, none⟩), ?_, ?_⟩
        · simp [Instr.indexAt, asIntOf, Instr.sureAddr, run_underlying hu, hn.1, hn.2, hz, add_at]
        obtain ⟨u, S1, hu1, ht1, hS1, _⟩ := hs.get hy
        have := AVR.q (w := w) (G := G) (H := s.heap) (Av := Ban B.F G s.heap) g (o + n.toNat) 0 cur el fr [u] [y] (S1 ++ []) hg (fun j v hj => by
          cases j with
          | zero => simp at hj; subst hj; exact hv _ _ hu1
          | succ j => simp at hj) (fun v hv => by simp at hv; subst hv; exact hone _ (List.mem_of_getElem? hu1)) (.cons _ _ _ _ _ _ ht1 .nil) (hS g (by simp)) (fun b hb => hS b (by
            have hb : b ∈ S1 := by simpa using hb
            simp [hS1 b hb]))
        exact this
  | _ => rw [hk] at hm; simp at hm

theorem opByte_ok (hT : T.ok P = true) {ty : TypeId} {x ix : AV} {xv iv : Value} (hx : AVR w G H Av xv x) (hi : AVR w G H Av iv ix) {av : AV} (hm : opByte T ty x ix = some av) :
    ∃ v, (Instr.index ty xv iv).run P w = .ok v w ∧ AVR w G H Av v av := by
  simp only [opByte, Option.bind_eq_some_iff] at hm
  obtain ⟨ti, hti, hm⟩ := hm
  have hok := tiok hT hti
  cases hk : ti.kind with
  | str =>
    rw [hk] at hm
    simp only at hm
    split at hm
    case h_2 => cases hm
    rename_i str kk n
    obtain rfl := hi.inv_int
    obtain rfl := hx.inv_str
    split at hm
    case isFalse => cases hm
    rename_i hn
    simp only [Option.some.injEq] at hm
    subst hm
    have hlt : n.toNat < str.size := by omega
    have hb : str[n.toNat]? = some (str.data.getD n.toNat 0) := by
      have : str[n.toNat]? = str.data[n.toNat]? := rfl
      have hs : n.toNat < str.data.size := hlt
      rw [this, Array.getD_eq_getD_getElem?, Array.getElem?_eq_getElem hs]
      rfl
    refine ⟨.int .u8 (byteAt str n), ?_, .int _ _⟩
    simp [Instr.index, asIntOf, run_underlying (hok.str hk), hn.1, hb, byteAt]
  | _ => rw [hk] at hm; simp at hm

theorem opLen_ok (hT : T.ok P = true) (h : RelG B G s a w) {ty ty' : TypeId} {x : AV} {xv : Value} (hx : AVR w G s.heap (Ban B.F G s.heap) xv x) {av : AV} (hm : opLen T s.heap ty x = some av) :
    ∃ v, (Builtin.len_ #[ty] ty' #[xv]).run P w = .ok v w ∧ AVR w G s.heap (Ban B.F G s.heap) v av := by
  simp only [opLen, Option.bind_eq_some_iff] at hm
  obtain ⟨ti, hti, hm⟩ := hm
  have hok := tiok hT hti
  cases hk : ti.kind with
  | str =>
    rw [hk] at hm
    simp only at hm
    split at hm
    case h_2 => cases hm
    obtain rfl := hx.inv_str
    simp only [Option.some.injEq] at hm
    subst hm
    exact ⟨_, by simp [Builtin.len_, run_underlying (hok.str hk)]; rfl, .int _ _⟩
  | slice e =>
    rw [hk] at hm
    have hrun : ∀ (ad : Option Addr) (n c : Nat), (Builtin.len_ #[ty] ty' #[.slice ad n c]).run P w = .ok (.int .i64 n) w := by
      intro ad n c
      simp [Builtin.len_, run_underlying (hok.slice hk), goInt]
    cases hx with
    | r k sz xs dp fz ve ad hk' ha =>
      simp only [hk', Option.some.injEq] at hm
      subst hm
      exact ⟨_, hrun _ _ _, .int _ _⟩
    | z sz =>
      simp only [Option.some.injEq] at hm
      subst hm
      exact ⟨_, hrun _ _ _, .int _ _⟩
    | m k i o sz xs dp fz ve v z ys hk' hj hvj h1 =>
      simp only [hk'] at hm
      split at hm
      case isFalse => cases hm
      rename_i hc
      have hR : RowR w (Ban B.F G s.heap) (G k) sz xs dp fz := h.obj k _ hk'
      obtain ⟨x, hx⟩ : ∃ x, xs[i]? = some x := ⟨_, List.getElem?_eq_getElem hc.2.1⟩
      have hgd : xs.getD i [] = x := by rw [List.getD_eq_getElem?_getD, hx]; rfl
      have hfx := flat_get hR.uni hx hc.2.2
      rw [hfx] at hj
      have hgo : x.getD o .u = .l z ys := by rw [List.getD_eq_getElem?_getD, hj]; rfl
      rw [hgd, hgo] at hm
      simp only [Option.some.injEq] at hm
      subst hm
      obtain ⟨u, S1, hu, ht, hS, _⟩ := hR.tr.get (hfx.trans hj)
      rw [hvj] at hu
      cases hu
      cases ht with
      | z ad c sz ho => exact ⟨_, hrun _ _ _, .int _ _⟩
      | l g o c sz cur e' fr vs xs S hg hc hmx hl hv hone hxx ho hs => exact ⟨_, hrun _ _ _, .int _ _⟩
    | mo k i o sz xs dp fz ve ve' v hk' hlt =>
      simp only [hk'] at hm
      split at hm
      · rename_i hc; omega
      · cases hm
    | md k ve i o v hk' => simp [hk'] at hm
    | d v x S h1 ht hS =>
      cases ht with
      | z ad c sz ho =>
        simp only [Option.some.injEq] at hm
        subst hm
        exact ⟨_, hrun _ _ _, .int _ _⟩
      | l g o c sz cur e' fr vs xs S hg hc hmx hl hv hone hxx ho hs =>
        simp only [Option.some.injEq] at hm
        subst hm
        exact ⟨_, hrun _ _ _, .int _ _⟩
      | _ => first | (cases hm; done) | simp_all
    | _ => first | (cases hm; done) | simp_all
  | _ => rw [hk] at hm; simp at hm
end rel
end Go.Fs
namespace Go.Fs
open Go.RowKit

section rel
variable {P : Program} {T : Tab} {B : Ctx} {G : Nat → GI} {s : St} {a : Act} {w w' : World}

/-- A row takes the place of objects that were given up for it. -/
theorem RelG.putRow (h : RelG B G s a w) {H1 : Nat → Option Ob} (hkeys : ∀ k, H1 k = s.heap k ∨ (s.heap k ≠ none ∧ H1 k = some .dead)) {k : Nat} (hk : H1 k = none) (gi : GI) (sz : Nat) (xs : List (List D)) (dp : Bool) (ve : Nat)
    (hr : Rest w w') (hw : ∀ b, b < w.heap.size → (∀ i, H1 i ≠ s.heap i → b ∉ ownOf (G i) (s.heap i)) → w'.heap[b]? = w.heap[b]?)
    (hsub : ∀ b ∈ ownOf gi (some (.row sz xs dp false ve)), (∃ i, H1 i ≠ s.heap i ∧ b ∈ ownOf (G i) (s.heap i)) ∨ w.heap.size ≤ b)
    (hnd : (ownOf gi (some (.row sz xs dp false ve))).Nodup)
    (hobj : RowR w' (Ban B.F (upd G k gi) (upd H1 k (some (.row sz xs dp false ve)))) gi sz xs dp false) :
    RelG B (upd G k gi) { s with heap := upd H1 k (some (.row sz xs dp false ve)) } a w' := by
  have hks : s.heap k = none := by
    rcases hkeys k with e | ⟨_, e⟩
    · rw [← e]; exact hk
    · rw [hk] at e; cases e
  have hdead : ∀ i, H1 i ≠ s.heap i → H1 i = some .dead := fun i hn => (hkeys i).elim (fun e => absurd e hn) fun e => e.2
  have hne : ∀ i, H1 i ≠ s.heap i → i ≠ k := fun i hn e => by subst e; rw [hk, hks] at hn; exact hn rfl
  refine h.step (w' := w') (G' := upd G k gi) _ (fun i => i = k ∨ H1 i ≠ s.heap i) hr ?_ ?_ ?_ ?_ ?_ ?_ ?_
  · intro b hb hn
    exact hw b hb fun i hi => hn i (.inr hi)
  · intro i hi
    simp only [not_or, ne_eq, Classical.not_not] at hi
    exact ⟨(upd_ne _ _ hi.1).trans hi.2, upd_ne _ _ hi.1⟩
  · intro i o hi ho
    have hi' : i ≠ k := fun e => by subst e; rw [hks] at ho; cases ho
    have hd := hdead i (hi.resolve_left hi')
    exact ⟨.dead, by rw [upd_ne _ _ hi']; exact hd, .dead _⟩
  · intro i hi b hb
    by_cases e : i = k
    · subst e
      rw [upd_same, upd_same] at hb
      rcases hsub b hb with ⟨j, hj, hm⟩ | hge
      · exact .inl ⟨j, .inr hj, hm⟩
      · exact .inr hge
    · rw [upd_ne _ _ e, upd_ne _ _ e, hdead i (hi.resolve_left e)] at hb
      simp [ownOf] at hb
  · intro i hi
    by_cases e : i = k
    · subst e; rw [upd_same, upd_same]; exact hnd
    · rw [upd_ne _ _ e, upd_ne _ _ e, hdead i (hi.resolve_left e)]
      simp [ownOf]
  · intro i j hi hj b hb hb'
    by_cases e : i = k
    · by_cases e2 : j = k
      · rw [e, e2]
      · rw [upd_ne _ _ e2, upd_ne _ _ e2, hdead j (hj.resolve_left e2)] at hb'
        simp [ownOf] at hb'
    · rw [upd_ne _ _ e, upd_ne _ _ e, hdead i (hi.resolve_left e)] at hb
      simp [ownOf] at hb
  · intro i o hi ho
    by_cases e : i = k
    · subst e; rw [upd_same] at ho ⊢; cases ho; exact hobj
    · rw [upd_ne _ _ e, hdead i (hi.resolve_left e)] at ho
      cases ho
      trivial

theorem own_put {H1 : Nat → Option Ob} {k : Nat} {gi : GI} {o : Ob} {b : Nat} (hb : Ban B.F (upd G k gi) (upd H1 k (some o)) b) : Ban B.F G H1 b ∨ b ∈ ownOf gi (some o) := ban_new hb

theorem ban_kill {k b : Nat} (hb : Ban B.F G (upd s.heap k (some .dead)) b) : Ban B.F G s.heap b := hb.imp (fun h => (own_kill h).1) id

end rel
end Go.Fs
namespace Go.Fs
open Go.RowKit

section rel
variable {P : Program} {T : Tab} {B : Ctx} {G : Nat → GI} {s : St} {a : Act} {w : World} {H : Nat → Option Ob} {Av : Nat → Prop}

/-- A bound, as a value. -/
inductive BndR (w : World) (G : Nat → GI) (H : Nat → Option Ob) (Av : Nat → Prop) : Option Value → Option AV → Prop
  | none : BndR w G H Av none none
  | some (v : Value) (av : AV) (h : AVR w G H Av v av) : BndR w G H Av (some v) (some av)

theorem run_bounds {isSlice : Bool} {len cap d h l : Nat} {lo hi : Option Value} {lo' hi' : Option AV} (hlo : BndR w G H Av lo lo') (hhi : BndR w G H Av hi hi') (e1 : bnd hi' len = some h) (e2 : bnd lo' 0 = some l)
    (h1 : l ≤ h) (h2 : h ≤ cap) : (Instr.sliceBounds isSlice len cap lo hi none).run P w = .ok (l, h, cap) w := by
  have hb : ∀ {v : Value} {av : AV} {n : Nat} (y : Nat) (code : BoundsCode) (dd : Nat), AVR w G H Av v av → bnd (some av) dd = some n → n ≤ y → (Instr.sliceBound v y code).run P w = .ok n w := by
    intro v av n y code dd hv he hy
    unfold bnd at he
    split at he
    · rename_i hh; cases hh
    · rename_i k m hh
      simp only [Option.some.injEq] at hh
      subst hh
      obtain rfl := hv.inv_int
      split at he
      · rename_i h0
        simp only [Option.some.injEq] at he
        have : 0 ≤ m ∧ m ≤ (y : Int) := by omega
        simp [Instr.sliceBound, asIntOf, this, he]
      · cases he
    · cases he
  unfold Instr.sliceBounds
  cases hlo with
  | none =>
    simp only [bnd, Option.some.injEq] at e2
    subst e2
    cases hhi with
    | none => simp only [bnd, Option.some.injEq] at e1; subst e1; rfl
    | some v av hv =>
      have r1 := fun code => hb cap code _ hv e1 h2
      simp only [Sem.run_bind, Sem.run_pure, Result.andThen_ok, r1]
  | some u au hu =>
    have r2 := fun code => hb h code _ hu e2 h1
    cases hhi with
    | none =>
      simp only [bnd, Option.some.injEq] at e1
      subst e1
      simp only [Sem.run_bind, Sem.run_pure, Result.andThen_ok, r2]
    | some v av hv =>
      have r1 := fun code => hb cap code _ hv e1 h2
      simp only [Sem.run_bind, Sem.run_pure, Result.andThen_ok, r1, r2]

theorem opSlice_ok (hT : T.ok P = true) (h : RelG B G s a w) {ty : TypeId} {x : AV} {xv : Value} {lo hi : Option AV} {lov hiv : Option Value} (hx : AVR w G s.heap (Ban B.F G s.heap) xv x)
    (hlo : BndR w G s.heap (Ban B.F G s.heap) lov lo) (hhi : BndR w G s.heap (Ban B.F G s.heap) hiv hi) {av : AV} {H' : Nat → Option Ob} {dst : Nat} (hm : opSlice T s.heap dst ty x lo hi = some (av, H')) :
    ∃ v G', (Instr.sliceAt ty xv lov hiv none).run P w = .ok v w ∧ RelG B G' { s with heap := H' } a w ∧ AVR w G' H' (Ban B.F G' H') v av := by
  simp only [opSlice, Option.bind_eq_some_iff] at hm
  obtain ⟨ti, hti, hm⟩ := hm
  have hok := tiok hT hti
  cases hk : ti.kind with
  | str =>
    rw [hk] at hm
    simp only at hm
    split at hm
    case h_2 => cases hm
    rename_i str
    obtain rfl := hx.inv_str
    simp only [Option.bind_eq_some_iff] at hm
    obtain ⟨h', e1, l', e2, hm⟩ := hm
    split at hm
    case isFalse => cases hm
    rename_i hc
    simp only [Option.some.injEq, Prod.mk.injEq] at hm
    obtain ⟨rfl, rfl⟩ := hm
    have hb := run_bounds (P := P) (isSlice := false) (cap := str.size) (d := 0) hlo hhi e1 e2 hc.1 hc.2
    refine ⟨.string (str.extract l' h'), G, ?_, h, .sc rfl (.s _)⟩
    unfold Instr.sliceAt
    simp only [Sem.run_bind, run_underlying (hok.str hk), Result.andThen_ok]
    unfold Instr.slice
    simp only [Sem.run_bind, run_underlying (hok.str hk), Result.andThen_ok]
    simp [hb]
  | slice e =>
    rw [hk] at hm
    simp only [Option.bind_eq_some_iff] at hm
    obtain ⟨te, hte, hm⟩ := hm
    have hoke := tiok hT hte
    have hu := hok.slice hk
    have hrun : ∀ (ad : Option Addr) (n c h' l' : Nat), bnd hi n = some h' → bnd lo 0 = some l' → l' ≤ h' → h' ≤ c →
        (Instr.sliceAt ty (.slice ad n c) lov hiv none).run P w = .ok (.slice (if c = l' then ad else ad.map (·.add (l' * te.size))) (h' - l') (c - l')) w := by
      intro ad n c h' l' e1 e2 hc1 hc2
      have hb := run_bounds (P := P) (isSlice := true) (cap := c) (d := 0) hlo hhi e1 e2 hc1 hc2
      unfold Instr.sliceAt
      simp only [Sem.run_bind, run_underlying hu, Result.andThen_ok]
      unfold Instr.slice
      simp only [Sem.run_bind, run_underlying hu, Result.andThen_ok]
      simp only [hb, Result.andThen_ok, hoke.sizeOf w, Sem.run_pure]
    cases hx with
    | r k sz xs dp fz ve ad hk' ha =>
      simp only [hk', Option.bind_eq_some_iff] at hm
      obtain ⟨h', e1, l', e2, hm⟩ := hm
      split at hm
      case isFalse => cases hm
      rename_i hc
      have hR : RowR w (Ban B.F G s.heap) (G k) sz xs dp fz := h.obj k _ hk'
      have hcap := hR.cap
      have hr := hrun ad xs.length (G k).cap h' l' e1 e2 hc.2.1 (by omega)
      have hle : ((xs.drop l').take (h' - l')).length = h' - l' := by rw [List.length_take, List.length_drop]; omega
      have had : l' < (G k).cap → (if (G k).cap = l' then ad else ad.map (·.add (l' * te.size))) = some ⟨(G k).blk, (G k).off + l' * sz, none⟩ := fun hlt => by
        rw [if_neg (by omega), ha (by omega)]
        simp only [Option.map_some, add_at, hc.1]
      have hcut := hR.window (off := l') (len := h' - l') (ad := if (G k).cap = l' then ad else ad.map (·.add (l' * te.size))) (by omega) had
      cases fz with
      | true =>
        simp only [if_true, Option.some.injEq, Prod.mk.injEq] at hm
        obtain ⟨rfl, rfl⟩ := hm
        obtain ⟨S, t1, t2, t3⟩ := hcut
        refine ⟨_, G, hr, h, .d _ _ S rfl t1.shared fun b hb => ?_⟩
        obtain ⟨hc0, hb⟩ := t2 b hb
        rcases List.mem_cons.1 hb with rfl | hb
        · exact hR.frz rfl (by omega)
        · exact hR.sub (.inr rfl) b hb
      | false =>
        simp only [Bool.false_eq_true, if_false] at hm
        split at hm
        case h_2 => cases hm
        rename_i hd
        simp only [Option.some.injEq, Prod.mk.injEq] at hm
        obtain ⟨rfl, rfl⟩ := hm
        have hne : s.heap k ≠ none := by rw [hk']; simp
        have hkd : k ≠ dst := fun e => by subst e; rw [hk'] at hd; cases hd
        have hH1 : (upd s.heap k (some .dead)) dst = none := by rw [upd_ne _ _ (Ne.symm hkd)]; exact hd
        have hkeys : ∀ j, (upd s.heap k (some .dead)) j = s.heap j ∨ (s.heap j ≠ none ∧ (upd s.heap k (some .dead)) j = some .dead) := by
          intro j
          by_cases e' : j = k
          · subst e'; exact .inr ⟨hne, upd_same ..⟩
          · exact .inl (upd_ne _ _ e')
        by_cases hz0 : (G k).cap - l' = 0
        · let gi : GI := { blk := (G k).blk, off := 0, cap := 0, vs := [], sub := [] }
          have hnil : (xs.drop l').take (h' - l') = [] := List.eq_nil_of_length_eq_zero (by rw [hle]; omega)
          have hhl : h' - l' = 0 := by omega
          rw [hnil]
          refine ⟨_, upd G dst gi, hr, h.putRow (w' := w) hkeys hH1 gi sz [] dp 0 (.refl w) (fun _ _ _ => rfl) (by simp [ownOf, gi]) (by simp [ownOf, gi]) (RowR.mkVoid ..), ?_⟩
          have := AVR.r (w := w) (G := upd G dst gi) (H := upd (upd s.heap k (some .dead)) dst (some (.row sz [] dp false 0))) (Av := Ban B.F (upd G dst gi) (upd (upd s.heap k (some .dead)) dst (some (.row sz [] dp false 0)))) dst sz [] dp false 0 (if (G k).cap = l' then ad else ad.map (·.add (l' * te.size))) (upd_same ..) (fun hlt => by
            rw [upd_same] at hlt
            exact absurd hlt (Nat.lt_irrefl 0))
          rw [upd_same] at this
          rw [hhl, hz0]
          exact this
        obtain ⟨hcells, r2, r3, r4, r5, r6, r7, r8, r9, r10⟩ := hR
        have hc0 : (G k).cap ≠ 0 := by omega
        obtain ⟨cur, el, hg, hcp, hvs⟩ := hcells (by omega)
        have hm' : (l' + (h' - l')) * sz ≤ (G k).vs.length := by rw [r4]; exact Nat.mul_le_mul_right _ (by omega)
        rw [Nat.add_mul] at hm'
        obtain ⟨S1, t1, t2, t3⟩ := r7.drop (l' * sz)
        obtain ⟨S2, t4, t5, t6⟩ := t1.take ((h' - l') * sz)
        have hfl : ((xs.drop l').take (h' - l')).flatten = (xs.flatten.drop (l' * sz)).take ((h' - l') * sz) := by
          rw [flat_take (fun x hx => r6 x (List.mem_of_mem_drop hx)), flat_drop r6]
        have hcs : ((G k).cap - l') * sz + l' * sz = (G k).cap * sz := by rw [← Nat.add_mul]; congr 1; omega
        have hsubk : (G k).blk ∉ (G k).sub := by
          cases hdp : dp with
          | true =>
            have := h.nodup k
            simp only [hk', hdp, ownOf, if_true, hc0, if_false] at this
            exact (List.nodup_cons.1 this).1
          | false => exact fun hb => r9 (.inl hdp) _ hb (.inl ⟨k, by rw [hk']; simp [ownOf, hc0]⟩)
        let gi : GI := { blk := (G k).blk, off := (G k).off + l' * sz, cap := (G k).cap - l', vs := ((G k).vs.drop (l' * sz)).take ((h' - l') * sz), sub := S2 }
        have hchg : (upd s.heap k (some .dead)) k ≠ s.heap k := by rw [upd_same, hk']; simp
        have hmem : ∀ b, b = (G k).blk ∨ (dp = true ∧ b ∈ S2) → b ∈ ownOf (G k) (s.heap k) := by
          rintro b (rfl | ⟨hdp, hb⟩)
          · rw [hk']; simp [ownOf, hc0]
          · rw [hk', hdp]; simp [ownOf, hc0, t2 b (t5 b hb)]
        refine ⟨_, upd G dst gi, hr, ?_, ?_⟩
        · refine h.putRow (w' := w) hkeys hH1 gi sz ((xs.drop l').take (h' - l')) dp 0 (.refl w) (fun _ _ _ => rfl) ?_ ?_ ?_
          · intro b hb
            refine .inl ⟨k, hchg, hmem b ?_⟩
            cases dp with
            | false => simp [ownOf, gi, hz0] at hb; exact .inl hb
            | true => simp [ownOf, gi, hz0] at hb; exact hb.imp id fun h => ⟨rfl, h⟩
          · cases dp with
            | false => simp [ownOf, gi, hz0]
            | true => simp only [ownOf, if_true, gi, hz0, if_false]; exact List.nodup_cons.2 ⟨fun hb => hsubk (t2 _ (t5 _ hb)), t6 (t3 (r8 rfl))⟩
          · refine ⟨fun _ => ⟨cur, el, hg, by simp only [gi]; omega, ?_⟩, by rw [hle]; simp only [gi]; omega, by simp only [gi]; omega, ?_, fun v hv => r5 v (List.mem_of_mem_drop (List.mem_of_mem_take hv)), fun x hx => r6 x (List.mem_of_mem_drop (List.mem_of_mem_take hx)), by rw [hfl]; exact t4, fun hdp => t6 (t3 (r8 hdp)), ?_, by simp⟩
            · intro j v hj
              simp only [gi] at hj ⊢
              rw [List.getElem?_take] at hj
              split at hj
              · rw [List.getElem?_drop] at hj
                rw [Nat.add_assoc]
                exact hvs _ _ hj
              · cases hj
            · rw [hle]
              simp only [gi]
              rw [List.length_take, List.length_drop]
              omega
            · intro hdp b hb hn
              have hdp' : dp = false := by simpa using hdp
              rcases own_put hn with hn | hn
              · exact r9 (.inl hdp') b (t2 b (t5 b hb)) (ban_kill hn)
              · rw [hdp'] at hn
                simp [ownOf, gi, hz0] at hn
                subst hn
                exact hsubk (t2 _ (t5 _ hb))
        · have := AVR.r (w := w) (G := upd G dst gi) (H := upd (upd s.heap k (some .dead)) dst (some (.row sz ((xs.drop l').take (h' - l')) dp false 0))) (Av := Ban B.F (upd G dst gi) (upd (upd s.heap k (some .dead)) dst (some (.row sz ((xs.drop l').take (h' - l')) dp false 0)))) dst sz ((xs.drop l').take (h' - l')) dp false 0 (if (G k).cap = l' then ad else ad.map (·.add (l' * te.size))) (upd_same ..) (fun hlt => by
            rw [upd_same] at hlt ⊢
            simp only [gi] at hlt ⊢
            exact had (by omega))
          rw [upd_same, hle] at this
          exact this
    | d v x S h1 ht hS =>
      cases ht with
      | z ad c sz ho =>
        simp only [Option.bind_eq_some_iff] at hm
        obtain ⟨h', e1, l', e2, hm⟩ := hm
        split at hm
        case isFalse => cases hm
        rename_i hc
        simp only [Option.some.injEq, Prod.mk.injEq] at hm
        obtain ⟨rfl, rfl⟩ := hm
        simp only [List.length_nil] at hc
        obtain ⟨rfl, rfl⟩ : h' = 0 ∧ l' = 0 := by omega
        refine ⟨_, G, hrun _ _ _ _ _ e1 e2 (by omega) (by omega), h, ?_⟩
        simp only [Nat.sub_zero, List.drop_nil, List.take_nil]
        exact .d _ _ [] rfl (.z _ _ _ (by simp)) (by simp)
      | l g o c sz cur e' fr vs xs S hg hc' hmx hl hv hone hxx ho hs =>
        simp only [Option.bind_eq_some_iff] at hm
        obtain ⟨h', e1, l', e2, hm⟩ := hm
        split at hm
        case isFalse => cases hm
        rename_i hc
        simp only [Option.some.injEq, Prod.mk.injEq] at hm
        obtain ⟨rfl, rfl⟩ := hm
        refine ⟨_, G, hrun _ _ _ _ _ e1 e2 hc.2.1 (by omega), h, ?_⟩
        by_cases hcl : l' < c
        · have hle : ((xs.drop l').take (h' - l')).length = h' - l' := by rw [List.length_take, List.length_drop]; omega
          have hm' : (l' + (h' - l')) * sz ≤ vs.length := by rw [hl]; exact Nat.mul_le_mul_right _ (by omega)
          rw [Nat.add_mul] at hm'
          obtain ⟨S1, t1, t2, t3⟩ := hs.drop (l' * sz)
          obtain ⟨S2, t4, t5, t6⟩ := t1.take ((h' - l') * sz)
          have hfl : ((xs.drop l').take (h' - l')).flatten = (xs.flatten.drop (l' * sz)).take ((h' - l') * sz) := by
            rw [flat_take (fun x hx => hxx x (List.mem_of_mem_drop hx)), flat_drop hxx]
          have := Tr.l (w := w) (own := false) g (o + l' * sz) (c - l') sz cur e' fr ((vs.drop (l' * sz)).take ((h' - l') * sz)) ((xs.drop l').take (h' - l')) S2 hg (by omega) (by omega)
            (by rw [List.length_take, List.length_drop, hle]; omega) (fun j v hj => by
              rw [List.getElem?_take] at hj
              split at hj
              · rw [List.getElem?_drop] at hj
                rw [Nat.add_assoc]
                exact hv _ _ hj
              · cases hj)
            (fun v hv' => hone v (List.mem_of_mem_drop (List.mem_of_mem_take hv'))) (fun x hx => hxx x (List.mem_of_mem_drop (List.mem_of_mem_take hx)))
            (by simp) (by rw [hfl]; exact t4)
          rw [hle] at this
          rw [if_neg (by omega)]
          simp only [Option.map_some, add_at, ← hc.1]
          exact .d _ _ _ rfl this (by
            intro b hb
            rcases List.mem_cons.1 hb with rfl | hb
            · exact hS b (by simp)
            · exact hS b (by simp [t2 b (t5 b hb)]))
        · obtain ⟨e3, e4⟩ : h' - l' = 0 ∧ c - l' = 0 := by omega
          rw [e3, List.take_zero]
          exact .d _ _ [] rfl (.z _ _ _ (by simp)) (by simp)
      | _ => first | (cases hm; done) | simp_all
    | _ => first | (cases hm; done) | simp_all
  | arr len e =>
    rw [hk] at hm
    simp only [Option.bind_eq_some_iff] at hm
    obtain ⟨te, hte, hm⟩ := hm
    have hoke := tiok hT hte
    have hu := hok.arr hk
    split at hm
    case h_2 => cases hm
    rename_i cs
    split at hm
    case isFalse => cases hm
    rename_i hsz
    obtain ⟨hsz, rfl, hml⟩ := hsz
    simp only [Option.some.injEq, Prod.mk.injEq] at hm
    obtain ⟨rfl, rfl⟩ := hm
    cases hlo
    cases hhi
    have hz := hoke.sizeOf (w := w)
    have hal : P.arrayLen ty = cs.length := by simp [Program.arrayLen, hu]
    have hel : P.elem ty = e := by simp [Program.elem, hu]
    cases hx with
    | d v x S h1 ht hS =>
      cases ht with
      | p g o cur el fr vs _ S hg hv hone ho hs =>
        have hl := hs.length
        have hfl : ∀ l : List D, (l.map fun c => [c]).flatten = l := fun l => by
          induction l with
          | nil => rfl
          | cons x l ih => simp [ih]
        refine ⟨.slice (some ⟨g, o, none⟩) cs.length cs.length, G, ?_, h, ?_⟩
        · rw [run_sliceAt_array_all w ty ⟨g, o, none⟩ (by rw [hal, hel]; exact hu), hel, hz, Result.andThen_ok, hal]
          simp [slicedAt, sliced, Addr.add]
        · have := Tr.l (w := w) (own := false) g o cs.length 1 cur el fr vs (cs.map fun c => [c]) S hg (by simp) hml (by simp [hl]) hv hone (by simp) (by simp) (by rw [hfl]; exact hs)
          rw [List.length_map] at this
          exact .d _ _ _ rfl this hS
  | _ => rw [hk] at hm; simp at hm
end rel
end Go.Fs
namespace Go.Fs
open Go.RowKit

def opAlloc (T : Tab) (H : Nat → Option Ob) (dst : Nat) (ty : TypeId) : Option (AV × (Nat → Option Ob)) :=
  (T.ti ty).bind fun ti => match H dst with
  | none => if ty = bT ∧ T.bld = true then some (.bp dst, upd H dst (some (.bld ByteArray.empty))) else some (.a dst 0, upd H dst (some (.box ti.zero)))
  | _ => none

def opBox (H : Nat → Option Ob) (dst : Nat) (x : AV) : Option (AV × (Nat → Option Ob)) :=
  if (cellsA x).all (oneA H) = true then match H dst with
  | none => some (.a dst 0, upd H dst (some (.box (cellsA x))))
  | _ => none else none

def fillA (pl : Nat → Option (Nat × Nat)) (cells : List AV) : List (Nat × AV) → Option (List AV)
  | [] => some cells
  | (i, av) :: rest => match pl i with
    | some (off, size) => if (cellsA av).length = size ∧ off + size ≤ cells.length then fillA pl (cells.take off ++ cellsA av ++ cells.drop (off + size)) rest else none
    | none => none

def placeT (T : Tab) (fs : List (Nat × TypeId)) (i : Nat) : Option (Nat × Nat) := (fs[i]?).bind fun x => (T.ti x.2).map fun ti => (x.1, ti.size)

/-- All fields of a struct have sizes that are known. -/
def sizesT (T : Tab) (fs : List (Nat × TypeId)) : Bool := fs.all fun x => (T.ti x.2).isSome

def opBuild (T : Tab) (H : Nat → Option Ob) (ty : TypeId) (parts : List (Nat × AV)) : Option AV :=
  (T.ti ty).bind fun ti => match ti.kind with
  | .strct fs => if (parts.all fun x => (cellsA x.2).all (oneA H)) = true ∧ sizesT T fs = true then (fillA (placeT T fs) ti.zero parts).map .g else none
  | _ => none

section rel
variable {P : Program} {T : Tab} {B : Ctx} {G : Nat → GI} {s : St} {a : Act} {w : World} {H : Nat → Option Ob} {Av : Nat → Prop}

theorem rest_alloc (w : World) (o : Obj) : Rest w (w.alloc o) := ⟨rfl, rfl, rfl, by simp⟩

theorem run_newRow (e : TypeId) (cs : Array Value) : (newRow e cs).run P w = .ok ⟨w.heap.size, 0, none⟩ (w.alloc (.cells cs e)) := by
  simp only [newRow, newObj, bind, Sem.bind, Sem.run, pure]
  rfl
theorem run_newVar (e : TypeId) (v : Value) : (newVar e v).run P w = .ok ⟨w.heap.size, 0, none⟩ (w.alloc (.cells v.cells e)) := run_newRow e v.cells

/-- A new variable. -/
theorem RelG.box (h : RelG B G s a w) {k : Nat} (hk : s.heap k = none) {vs : Array Value} {cs : List AV} (ty : TypeId) (hv : AVRL w G s.heap (Ban B.F G s.heap) vs.toList cs) (h1 : ∀ v ∈ vs.toList, v.oneCell' = true) :
    ∃ G', RelG B G' { s with heap := upd s.heap k (some (.box cs)) } a (w.alloc (.cells vs ty)) ∧ AVR (w.alloc (.cells vs ty)) G' (upd s.heap k (some (.box cs))) (Ban B.F G' (upd s.heap k (some (.box cs)))) (.pointer (some ⟨w.heap.size, 0, none⟩)) (.a k 0) := by
  let gi : GI := { blk := w.heap.size, off := 0, cap := 0, vs := [], sub := [] }
  have hold : ∀ b, b < w.heap.size → (w.alloc (.cells vs ty)).heap[b]? = w.heap[b]? := fun b hb => heap_alloc_old w _ b hb
  have hM := AVR.mono_both (w := w) (w' := w.alloc (.cells vs ty)) (G := G) (G' := upd G k gi) (H := s.heap) (H' := upd s.heap k (some (.box cs))) (Av := Ban B.F G s.heap) (Av' := Ban B.F (upd G k gi) (upd s.heap k (some (.box cs))))
    (fun b hb _ => hold b hb)
    (fun b hb ho => by
      rcases ban_new ho with ho | ho
      · exact ho
      · simp [ownOf, gi] at ho; omega)
    (fun i o ho => by
      have e : i ≠ k := fun e => by subst e; rw [hk] at ho; cases ho
      exact ⟨o, by rw [upd_ne _ _ e]; exact ho, by rw [upd_ne _ _ e]; exact Ob.to.refl _ _⟩)
  refine ⟨upd G k gi, h.new k gi (.box cs) hk (rest_alloc ..) hold (by simp [ownOf, gi]) (by simp [ownOf]) ⟨vs, ty, heap_alloc_new w _, hM.2 hv, h1⟩, ?_⟩
  have := AVR.a (w := w.alloc (.cells vs ty)) (G := upd G k gi) (H := upd s.heap k (some (.box cs))) (Av := Ban B.F (upd G k gi) (upd s.heap k (some (.box cs)))) k 0 cs (upd_same ..)
  rw [upd_same] at this
  exact this

/-- A new builder of a text. -/
theorem RelG.bld (h : RelG B G s a w) {k : Nat} (hk : s.heap k = none) :
    ∃ G', RelG B G' { s with heap := upd s.heap k (some (.bld ByteArray.empty)) } a (w.alloc (.cells #[.pointer none, .slice none 0 0] bT)) ∧
      AVR (w.alloc (.cells #[.pointer none, .slice none 0 0] bT)) G' (upd s.heap k (some (.bld ByteArray.empty))) (Ban B.F G' (upd s.heap k (some (.bld ByteArray.empty)))) (.pointer (some ⟨w.heap.size, 0, none⟩)) (.bp k) := by
  let gi : GI := { blk := w.heap.size, off := 0, cap := 0, vs := [], sub := [] }
  have hold : ∀ b, b < w.heap.size → (w.alloc (.cells #[.pointer none, .slice none 0 0] bT)).heap[b]? = w.heap[b]? := fun b hb => heap_alloc_old w _ b hb
  refine ⟨upd G k gi, h.new k gi (.bld ByteArray.empty) hk (rest_alloc ..) hold (by simp [ownOf, gi]) (by simp [ownOf, gi]) ⟨.pointer none, .slice none 0 0, .inl rfl, heap_alloc_new w _, World.ownsRowF_nil _ _ _ _, rfl⟩, ?_⟩
  have := AVR.bp (w := w.alloc (.cells #[.pointer none, .slice none 0 0] bT)) (G := upd G k gi) (H := upd s.heap k (some (.bld ByteArray.empty))) (Av := Ban B.F (upd G k gi) (upd s.heap k (some (.bld ByteArray.empty)))) k _ (upd_same ..)
  rw [upd_same] at this
  exact this
theorem bzOK_run (hT : T.ok P = true) (hb : T.bld = true) (w : World) : ∃ z, (zeroValue bT).run P w = .ok z w ∧ z.cells = #[.pointer none, .slice none 0 0] := by
  simp only [Tab.ok, Bool.and_eq_true, hb, Bool.not_true, Bool.false_or] at hT
  have h := hT.2
  unfold bzOK at h
  split at h
  case h_2 => cases h
  rename_i i hi
  split at h
  case h_2 => cases h
  rename_i z hz
  refine ⟨z, by simp [Go.zeroValue, typeInfo, hi, hz], ?_⟩
  unfold bzV at h
  split at h
  case h_2 => cases h
  rename_i cs
  split at h
  case h_2 => cases h
  rename_i e
  show cs = _
  apply Array.ext'
  exact e
theorem opAlloc_ok (hT : T.ok P = true) (h : RelG B G s a w) {dst : Nat} {ty : TypeId} {av : AV} {H' : Nat → Option Ob} (hm : opAlloc T s.heap dst ty = some (av, H')) :
    ∃ v w' G', (Instr.alloc ty true (.tuple #[])).run P w = .ok v w' ∧ RelG B G' { s with heap := H' } a w' ∧ AVR w' G' H' (Ban B.F G' H') v av := by
  simp only [opAlloc, Option.bind_eq_some_iff] at hm
  obtain ⟨ti, hti, hm⟩ := hm
  have hok := tiok hT hti
  split at hm
  case h_2 => cases hm
  rename_i hk
  split at hm
  · rename_i hb
    obtain ⟨rfl, hb⟩ := hb
    simp only [Option.some.injEq, Prod.mk.injEq] at hm
    obtain ⟨rfl, rfl⟩ := hm
    obtain ⟨z, hz, hzz⟩ := bzOK_run hT hb w
    obtain ⟨G', hr, ha⟩ := h.bld hk
    rw [← hzz] at hr ha
    refine ⟨_, _, G', ?_, hr, ha⟩
    simp [Instr.alloc, hz, run_newVar]
  simp only [Option.some.injEq, Prod.mk.injEq] at hm
  obtain ⟨rfl, rfl⟩ := hm
  obtain ⟨z, hz, hzz⟩ := hok.zeroValue w
  obtain ⟨hv, h1⟩ := zeroOK_ok (w := w) (G := G) (H := s.heap) (Av := Ban B.F G s.heap) hzz
  obtain ⟨G', hr, ha⟩ := h.box hk ty hv h1
  refine ⟨_, _, G', ?_, hr, ha⟩
  simp [Instr.alloc, hz, run_newVar]

theorem opBox_ok (h : RelG B G s a w) {dst : Nat} {ty : TypeId} {x : AV} {xv : Value} (hx : AVR w G s.heap (Ban B.F G s.heap) xv x) {av : AV} {H' : Nat → Option Ob} (hm : opBox s.heap dst x = some (av, H')) :
    ∃ v w' G', (Instr.box ty xv).run P w = .ok v w' ∧ RelG B G' { s with heap := H' } a w' ∧ AVR w' G' H' (Ban B.F G' H') v av := by
  simp only [opBox] at hm
  split at hm
  case isFalse => cases hm
  rename_i hall
  split at hm
  case h_2 => cases hm
  rename_i hk
  simp only [Option.some.injEq, Prod.mk.injEq] at hm
  obtain ⟨rfl, rfl⟩ := hm
  obtain ⟨hv, h1⟩ := cellsA_ok hx hall
  obtain ⟨G', hr, ha⟩ := h.box hk ty hv h1
  refine ⟨_, _, G', ?_, hr, ha⟩
  simp [Instr.box, run_newVar]

theorem fold_splice (off : Nat) : ∀ (l : List Value) (n : Nat) (cs : Array Value), off + n + l.length ≤ cs.size →
    ((l.zipIdx n).foldl (fun cs (x : Value × Nat) => cs.setIfInBounds (off + x.2) x.1) cs).toList = cs.toList.take (off + n) ++ l ++ cs.toList.drop (off + n + l.length)
  | [], n, cs, h => by simp
  | v :: l, n, cs, h => by
    simp only [List.length_cons] at h
    rw [List.zipIdx_cons, List.foldl_cons, fold_splice off l (n + 1) _ (by simp; omega)]
    simp only [Array.toList_setIfInBounds]
    have hlt : off + n < cs.toList.length := by rw [Array.length_toList]; omega
    rw [List.drop_set, if_pos (by omega)]
    have : (cs.toList.set (off + n) v).take (off + (n + 1)) = cs.toList.take (off + n) ++ [v] := by
      rw [show off + (n + 1) = off + n + 1 by omega, List.take_add_one, List.getElem?_set_self hlt, List.take_set_of_le (by omega)]
      rfl
    rw [this]
    simp only [List.append_assoc, List.singleton_append, List.length_cons]
    rw [show off + (n + 1) + l.length = off + n + (l.length + 1) by omega]

theorem fillA_ok {pl : Nat → Option (Nat × Nat)} : ∀ {parts : List (Nat × AV)} {vals : List (Nat × Value)} {cells : List AV} {cv : Array Value} {out : List AV},
    (parts.all fun x => (cellsA x.2).all (oneA H)) = true → vals.map (·.1) = parts.map (·.1) → AVRL w G H Av (vals.map (·.2)) (parts.map (·.2)) → AVRL w G H Av cv.toList cells → fillA pl cells parts = some out →
    ∃ ov, Instr.fill pl cv vals = some ov ∧ AVRL w G H Av ov.toList out
  | [], vals, cells, cv, out, _, hi, _, hc, hf => by
    simp only [fillA, Option.some.injEq] at hf
    subst hf
    have : vals = [] := by cases vals with | nil => rfl | cons x l => simp at hi
    subst this
    exact ⟨cv, rfl, hc⟩
  | (i, av) :: parts, [], cells, cv, out, _, hi, _, hc, hf => by simp at hi
  | (i, av) :: parts, (i', v) :: vals, cells, cv, out, hall, hi, hv, hc, hf => by
    simp only [List.map_cons, List.cons.injEq] at hi
    obtain ⟨rfl, hi⟩ := hi
    simp only [List.all_cons, Bool.and_eq_true] at hall
    simp only [List.map_cons] at hv
    cases hv with
    | cons _ _ _ _ hv hvs =>
      simp only [fillA] at hf
      split at hf
      case h_2 => cases hf
      rename_i off size hpl
      split at hf
      case isFalse => cases hf
      rename_i hsz
      obtain ⟨hcs, _⟩ := cellsA_ok hv hall.1
      have hl : v.cells.toList.length = size := by rw [hcs.length, hsz.1]
      have hl' : v.cells.size = size := by simpa using hl
      have hcl := hc.length
      rw [Array.length_toList] at hcl
      have hsp := fold_splice off v.cells.toList 0 cv (by rw [hl]; omega)
      rw [Nat.add_zero, hl] at hsp
      have hfold : v.cells.zipIdx.foldl (fun cs (x : Value × Nat) => cs.setIfInBounds (off + x.2) x.1) cv = (v.cells.toList.zipIdx 0).foldl (fun cs (x : Value × Nat) => cs.setIfInBounds (off + x.2) x.1) cv := by
        rw [← Array.foldl_toList, Array.toList_zipIdx]
      have hnew : AVRL w G H Av (v.cells.zipIdx.foldl (fun cs (x : Value × Nat) => cs.setIfInBounds (off + x.2) x.1) cv).toList (cells.take off ++ cellsA av ++ cells.drop (off + size)) := by
        rw [hfold, hsp]
        exact ((hc.take off).append hcs).append (hc.drop (off + size))
      obtain ⟨ov, ho, hov⟩ := fillA_ok hall.2 hi hvs hnew hf
      refine ⟨ov, ?_, hov⟩
      simp only [Instr.fill, hpl]
      have h2 := hsz.2
      rw [if_neg (by simp only [hl', Bool.or_eq_true, decide_eq_true_eq]; omega)]
      exact ho
end rel
end Go.Fs
namespace Go.Fs
open Go.RowKit
section rel
variable {P : Program} {T : Tab} {B : Ctx} {G : Nat → GI} {s : St} {a : Act} {w : World} {H : Nat → Option Ob} {Av : Nat → Prop}

theorem placeT_ok (hT : T.ok P = true) {fs : List (Nat × TypeId)} {fields : Array Field} (hmap : fields.toList.map (fun f => (f.offset, f.type)) = fs) (i : Nat) {p : Nat × Nat} (hp : placeT T fs i = some p) :
    ∃ f, fields[i]? = some f ∧ p = (f.offset, P.cellsOf f.type) ∧ ∀ w, (sizeOf f.type).run P w = .ok (P.cellsOf f.type) w := by
  simp only [placeT, Option.bind_eq_some_iff, Option.map_eq_some_iff] at hp
  obtain ⟨⟨fo, ft⟩, hf, ti, hti, rfl⟩ := hp
  rw [← hmap] at hf
  simp only [List.getElem?_map, Option.map_eq_some_iff, Prod.mk.injEq] at hf
  obtain ⟨f, h1, rfl, rfl⟩ := hf
  have hok := tiok hT hti
  refine ⟨f, by simpa using h1, by rw [hok.cells], fun w => by rw [hok.cells]; exact hok.sizeOf w⟩

theorem fillA_congr {pl pl' : Nat → Option (Nat × Nat)} : ∀ {parts : List (Nat × AV)} {cells out : List AV}, fillA pl cells parts = some out → (∀ x ∈ parts, ∀ p, pl x.1 = some p → pl' x.1 = some p) → fillA pl' cells parts = some out
  | [], cells, out, h, _ => h
  | (i, av) :: parts, cells, out, h, hp => by
    simp only [fillA] at h ⊢
    split at h
    case h_2 => cases h
    rename_i off size hpl
    rw [hp (i, av) (by simp) _ hpl]
    simp only
    split at h
    case isFalse => cases h
    rename_i hc
    rw [if_pos hc]
    exact fillA_congr h fun x hx => hp x (by simp [hx])

/-- 'mapM' of what answers by itself. -/
theorem run_mapM_pure {α β : Type} (f : α → Sem β) (g : α → β) (w : World) : ∀ (l : List α), (∀ x ∈ l, (f x).run P w = .ok (g x) w) → (l.mapM f).run P w = .ok (l.map g) w
  | [], _ => rfl
  | x :: l, h => by
    rw [List.mapM_cons, Sem.run_bind, h x (by simp), Result.andThen_ok, Sem.run_bind, run_mapM_pure f g w l fun y hy => h y (by simp [hy]), Result.andThen_ok]
    rfl

theorem run_places (hT : T.ok P = true) {fs : List (Nat × TypeId)} {fields : Array Field} (hmap : fields.toList.map (fun f => (f.offset, f.type)) = fs) (hs : sizesT T fs = true) (w : World) :
    (fields.mapM fun (f : Field) => (do pure (f.offset, ← sizeOf f.type) : Sem (Nat × Nat))).run P w = .ok (fields.map fun (f : Field) => (f.offset, P.cellsOf f.type)) w := by
  have hl := run_mapM_pure (P := P) (fun f : Field => (do pure (f.offset, ← sizeOf f.type) : Sem (Nat × Nat))) (fun f => (f.offset, P.cellsOf f.type)) w fields.toList (fun f hf => by
    have hm : (f.offset, f.type) ∈ fs := by rw [← hmap]; exact List.mem_map.2 ⟨f, hf, rfl⟩
    have := List.all_eq_true.1 hs _ hm
    obtain ⟨ti, hti⟩ := Option.isSome_iff_exists.1 this
    have hok := tiok hT hti
    rw [Sem.run_bind, hok.sizeOf w, Result.andThen_ok, hok.cells]
    rfl)
  rw [Array.mapM_eq_mapM_toList, Sem.run_map, hl]
  simp
  apply Array.ext'
  simp


theorem opBuild_ok (hT : T.ok P = true) (h : RelG B G s a w) {ty : TypeId} {parts : List (Nat × AV)} {vals : List (Nat × Value)} (hi : vals.map (·.1) = parts.map (·.1))
    (hv : AVRL w G s.heap (Ban B.F G s.heap) (vals.map (·.2)) (parts.map (·.2))) {av : AV} (hm : opBuild T s.heap ty parts = some av) :
    ∃ v, (Instr.build ty vals.toArray).run P w = .ok v w ∧ AVR w G s.heap (Ban B.F G s.heap) v av := by
  simp only [opBuild, Option.bind_eq_some_iff] at hm
  obtain ⟨ti, hti, hm⟩ := hm
  have hok := tiok hT hti
  cases hk : ti.kind with
  | strct fs =>
    rw [hk] at hm
    simp only at hm
    split at hm
    case isFalse => cases hm
    rename_i hall
    simp only [Option.map_eq_some_iff] at hm
    obtain ⟨out, hf, rfl⟩ := hm
    obtain ⟨fields, hu, hmap, hne⟩ := hok.strct hk
    obtain ⟨z, hz, hzz⟩ := hok.zeroValue w
    obtain ⟨hzv, _⟩ := zeroOK_ok (w := w) (G := G) (H := s.heap) (Av := Ban B.F G s.heap) hzz
    have hf' := fillA_congr (pl' := fun i => (fields.map fun (f : Field) => (f.offset, P.cellsOf f.type))[i]?) hf fun x _ p hp => by
      obtain ⟨f, h1, h2, _⟩ := placeT_ok hT hmap x.1 hp
      simp [h1, h2]
    obtain ⟨ov, ho, hov⟩ := fillA_ok hall.1 hi hv hzv hf'
    refine ⟨.agg ov, ?_, .g _ _ hov⟩
    have hpl := run_places (P := P) hT hmap hall.2 w
    simp only [Instr.build, Sem.run_bind, hz, run_underlying hu, Result.andThen_ok]
    rw [hpl]
    simp only [Result.andThen_ok]
    rw [ho]
    rfl
  | _ => rw [hk] at hm; simp at hm
end rel
end Go.Fs
