/- A part of the proof: an evaluator of the program's code over plain data, proved sound, or a function's walk by it. No conditions beyond those in the theorems. -/
import Derived.Test.YtbgbnmghhmfihaaFsI
set_option linter.unusedVariables false
set_option linter.constructorNameAsVariable false
namespace Go.Fs
open Go.RowKit

/-! ### what makes memory -/
def opAlloc (T : Tab) (H : Nat → Option Ob) (dst : Nat) (ty : TypeId) : Option (AV × (Nat → Option Ob)) :=
  (T.ti ty).bind fun ti => match H dst with
  | none => some (.a dst 0, upd H dst (some (.box ti.zero)))
  | _ => none

def opBox (H : Nat → Option Ob) (dst : Nat) (x : AV) : Option (AV × (Nat → Option Ob)) :=
  if (cellsA x).all (oneA H) = true then match H dst with
  | none => some (.a dst 0, upd H dst (some (.box (cellsA x))))
  | _ => none else none

def fillA (pl : Nat → Option (Nat × Nat)) (cells : List AV) : List (Nat × AV) → Option (List AV)
  | [] => some cells
  | (i, av) :: rest => match pl i with
    | some (off, size) => if (cellsA av).length = size ∧ off + size ≤ cells.length then fillA pl (cells.take off ++ cellsA av ++ cells.drop (off + size)) rest else none
    | none => none

def placeT (T : Tab) (fs : List (Nat × TypeId)) (i : Nat) : Option (Nat × Nat) := (fs[i]?).bind fun x => (T.ti x.2).map fun ti => (x.1, ti.size)

/-- All fields of a struct have sizes that are known. -/
def sizesT (T : Tab) (fs : List (Nat × TypeId)) : Bool := fs.all fun x => (T.ti x.2).isSome

def opBuild (T : Tab) (H : Nat → Option Ob) (ty : TypeId) (parts : List (Nat × AV)) : Option AV :=
  (T.ti ty).bind fun ti => match ti.kind with
  | .strct fs => if (parts.all fun x => (cellsA x.2).all (oneA H)) = true ∧ sizesT T fs = true then (fillA (placeT T fs) ti.zero parts).map .g else none
  | _ => none

section rel
variable {P : Program} {T : Tab} {B : Ctx} {G : Nat → GI} {s : St} {a : Act} {w : World} {H : Nat → Option Ob} {Av : Nat → Prop}

theorem rest_alloc (w : World) (o : Obj) : Rest w (w.alloc o) := ⟨rfl, rfl, rfl, by simp⟩

theorem run_newRow (e : TypeId) (cs : Array Value) : (newRow e cs).run P w = .ok ⟨w.heap.size, 0, none⟩ (w.alloc (.cells cs e)) := by
  simp only [newRow, newObj, bind, Sem.bind, Sem.run, pure]
  rfl
theorem run_newVar (e : TypeId) (v : Value) : (newVar e v).run P w = .ok ⟨w.heap.size, 0, none⟩ (w.alloc (.cells v.cells e)) := run_newRow e v.cells

/-- A new variable. -/
theorem RelG.box (h : RelG B G s a w) {k : Nat} (hk : s.heap k = none) {vs : Array Value} {cs : List AV} (ty : TypeId) (hv : AVRL w G s.heap (Ban B.F G s.heap) vs.toList cs) (h1 : ∀ v ∈ vs.toList, v.oneCell' = true) :
    ∃ G', RelG B G' { s with heap := upd s.heap k (some (.box cs)) } a (w.alloc (.cells vs ty)) ∧ AVR (w.alloc (.cells vs ty)) G' (upd s.heap k (some (.box cs))) (Ban B.F G' (upd s.heap k (some (.box cs)))) (.pointer (some ⟨w.heap.size, 0, none⟩)) (.a k 0) := by
  let gi : GI := { blk := w.heap.size, off := 0, cap := 0, vs := [], sub := [] }
  have hold : ∀ b, b < w.heap.size → (w.alloc (.cells vs ty)).heap[b]? = w.heap[b]? := fun b hb => heap_alloc_old w _ b hb
  have hM := AVR.mono_both (w := w) (w' := w.alloc (.cells vs ty)) (G := G) (G' := upd G k gi) (H := s.heap) (H' := upd s.heap k (some (.box cs))) (Av := Ban B.F G s.heap) (Av' := Ban B.F (upd G k gi) (upd s.heap k (some (.box cs))))
    (fun b hb _ => hold b hb)
    (fun b hb ho => by
      rcases ban_new ho with ho | ho
      · exact ho
      · simp [ownOf, gi] at ho; omega)
    (fun i o ho => by
      have e : i ≠ k := fun e => by subst e; rw [hk] at ho; cases ho
      exact ⟨o, by rw [upd_ne _ _ e]; exact ho, by rw [upd_ne _ _ e]; exact Ob.to.refl _ _⟩)
  refine ⟨upd G k gi, h.new k gi (.box cs) hk (rest_alloc ..) hold (by simp [ownOf, gi]) (by simp [ownOf]) ⟨vs, ty, heap_alloc_new w _, hM.2 hv, h1⟩, ?_⟩
  have := AVR.a (w := w.alloc (.cells vs ty)) (G := upd G k gi) (H := upd s.heap k (some (.box cs))) (Av := Ban B.F (upd G k gi) (upd s.heap k (some (.box cs)))) k 0 cs (upd_same ..)
  rw [upd_same] at this
  exact this

theorem opAlloc_ok (hT : T.ok P = true) (h : RelG B G s a w) {dst : Nat} {ty : TypeId} {av : AV} {H' : Nat → Option Ob} (hm : opAlloc T s.heap dst ty = some (av, H')) :
    ∃ v w' G', (Instr.alloc ty true (.tuple #[])).run P w = .ok v w' ∧ RelG B G' { s with heap := H' } a w' ∧ AVR w' G' H' (Ban B.F G' H') v av := by
  simp only [opAlloc, Option.bind_eq_some_iff] at hm
  obtain ⟨ti, hti, hm⟩ := hm
  have hok := tiok hT hti
  split at hm
  case h_2 => cases hm
  rename_i hk
  simp only [Option.some.injEq, Prod.mk.injEq] at hm
  obtain ⟨rfl, rfl⟩ := hm
  obtain ⟨z, hz, hzz⟩ := hok.zeroValue w
  obtain ⟨hv, h1⟩ := zeroOK_ok (w := w) (G := G) (H := s.heap) (Av := Ban B.F G s.heap) hzz
  obtain ⟨G', hr, ha⟩ := h.box hk ty hv h1
  refine ⟨_, _, G', ?_, hr, ha⟩
  simp [Instr.alloc, hz, run_newVar]

theorem opBox_ok (h : RelG B G s a w) {dst : Nat} {ty : TypeId} {x : AV} {xv : Value} (hx : AVR w G s.heap (Ban B.F G s.heap) xv x) {av : AV} {H' : Nat → Option Ob} (hm : opBox s.heap dst x = some (av, H')) :
    ∃ v w' G', (Instr.box ty xv).run P w = .ok v w' ∧ RelG B G' { s with heap := H' } a w' ∧ AVR w' G' H' (Ban B.F G' H') v av := by
  simp only [opBox] at hm
  split at hm
  case isFalse => cases hm
  rename_i hall
  split at hm
  case h_2 => cases hm
  rename_i hk
  simp only [Option.some.injEq, Prod.mk.injEq] at hm
  obtain ⟨rfl, rfl⟩ := hm
  obtain ⟨hv, h1⟩ := cellsA_ok hx hall
  obtain ⟨G', hr, ha⟩ := h.box hk ty hv h1
  refine ⟨_, _, G', ?_, hr, ha⟩
  simp [Instr.box, run_newVar]

theorem fold_splice (off : Nat) : ∀ (l : List Value) (n : Nat) (cs : Array Value), off + n + l.length ≤ cs.size →
    ((l.zipIdx n).foldl (fun cs (x : Value × Nat) => cs.setIfInBounds (off + x.2) x.1) cs).toList = cs.toList.take (off + n) ++ l ++ cs.toList.drop (off + n + l.length)
  | [], n, cs, h => by simp
  | v :: l, n, cs, h => by
    simp only [List.length_cons] at h
    rw [List.zipIdx_cons, List.foldl_cons, fold_splice off l (n + 1) _ (by simp; omega)]
    simp only [Array.toList_setIfInBounds]
    have hlt : off + n < cs.toList.length := by rw [Array.length_toList]; omega
    rw [List.drop_set, if_pos (by omega)]
    have : (cs.toList.set (off + n) v).take (off + (n + 1)) = cs.toList.take (off + n) ++ [v] := by
      rw [show off + (n + 1) = off + n + 1 by omega, List.take_add_one, List.getElem?_set_self hlt, List.take_set_of_le (by omega)]
      rfl
    rw [this]
    simp only [List.append_assoc, List.singleton_append, List.length_cons]
    rw [show off + (n + 1) + l.length = off + n + (l.length + 1) by omega]

theorem fillA_ok {pl : Nat → Option (Nat × Nat)} : ∀ {parts : List (Nat × AV)} {vals : List (Nat × Value)} {cells : List AV} {cv : Array Value} {out : List AV},
    (parts.all fun x => (cellsA x.2).all (oneA H)) = true → vals.map (·.1) = parts.map (·.1) → AVRL w G H Av (vals.map (·.2)) (parts.map (·.2)) → AVRL w G H Av cv.toList cells → fillA pl cells parts = some out →
    ∃ ov, Instr.fill pl cv vals = some ov ∧ AVRL w G H Av ov.toList out
  | [], vals, cells, cv, out, _, hi, _, hc, hf => by
    simp only [fillA, Option.some.injEq] at hf
    subst hf
    have : vals = [] := by cases vals with | nil => rfl | cons x l => simp at hi
    subst this
    exact ⟨cv, rfl, hc⟩
  | (i, av) :: parts, [], cells, cv, out, _, hi, _, hc, hf => by simp at hi
  | (i, av) :: parts, (i', v) :: vals, cells, cv, out, hall, hi, hv, hc, hf => by
    simp only [List.map_cons, List.cons.injEq] at hi
    obtain ⟨rfl, hi⟩ := hi
    simp only [List.all_cons, Bool.and_eq_true] at hall
    simp only [List.map_cons] at hv
    cases hv with
    | cons _ _ _ _ hv hvs =>
      simp only [fillA] at hf
      split at hf
      case h_2 => cases hf
      rename_i off size hpl
      split at hf
      case isFalse => cases hf
      rename_i hsz
      obtain ⟨hcs, _⟩ := cellsA_ok hv hall.1
      have hl : v.cells.toList.length = size := by rw [hcs.length, hsz.1]
      have hl' : v.cells.size = size := by simpa using hl
      have hcl := hc.length
      rw [Array.length_toList] at hcl
      have hsp := fold_splice off v.cells.toList 0 cv (by rw [hl]; omega)
      rw [Nat.add_zero, hl] at hsp
      have hfold : v.cells.zipIdx.foldl (fun cs (x : Value × Nat) => cs.setIfInBounds (off + x.2) x.1) cv = (v.cells.toList.zipIdx 0).foldl (fun cs (x : Value × Nat) => cs.setIfInBounds (off + x.2) x.1) cv := by
        rw [← Array.foldl_toList, Array.toList_zipIdx]
      have hnew : AVRL w G H Av (v.cells.zipIdx.foldl (fun cs (x : Value × Nat) => cs.setIfInBounds (off + x.2) x.1) cv).toList (cells.take off ++ cellsA av ++ cells.drop (off + size)) := by
        rw [hfold, hsp]
        exact ((hc.take off).append hcs).append (hc.drop (off + size))
      obtain ⟨ov, ho, hov⟩ := fillA_ok hall.2 hi hvs hnew hf
      refine ⟨ov, ?_, hov⟩
      simp only [Instr.fill, hpl]
      have h2 := hsz.2
      rw [if_neg (by simp only [hl', Bool.or_eq_true, decide_eq_true_eq]; omega)]
      exact ho
end rel
end Go.Fs
namespace Go.Fs
open Go.RowKit
section rel
variable {P : Program} {T : Tab} {B : Ctx} {G : Nat → GI} {s : St} {a : Act} {w : World} {H : Nat → Option Ob} {Av : Nat → Prop}

theorem placeT_ok (hT : T.ok P = true) {fs : List (Nat × TypeId)} {fields : Array Field} (hmap : fields.toList.map (fun f => (f.offset, f.type)) = fs) (i : Nat) {p : Nat × Nat} (hp : placeT T fs i = some p) :
    ∃ f, fields[i]? = some f ∧ p = (f.offset, P.cellsOf f.type) ∧ ∀ w, (sizeOf f.type).run P w = .ok (P.cellsOf f.type) w := by
  simp only [placeT, Option.bind_eq_some_iff, Option.map_eq_some_iff] at hp
  obtain ⟨⟨fo, ft⟩, hf, ti, hti, rfl⟩ := hp
  rw [← hmap] at hf
  simp only [List.getElem?_map, Option.map_eq_some_iff, Prod.mk.injEq] at hf
  obtain ⟨f, h1, rfl, rfl⟩ := hf
  have hok := tiok hT hti
  refine ⟨f, by simpa using h1, by rw [hok.cells], fun w => by rw [hok.cells]; exact hok.sizeOf w⟩

theorem fillA_congr {pl pl' : Nat → Option (Nat × Nat)} : ∀ {parts : List (Nat × AV)} {cells out : List AV}, fillA pl cells parts = some out → (∀ x ∈ parts, ∀ p, pl x.1 = some p → pl' x.1 = some p) → fillA pl' cells parts = some out
  | [], cells, out, h, _ => h
  | (i, av) :: parts, cells, out, h, hp => by
    simp only [fillA] at h ⊢
    split at h
    case h_2 => cases h
    rename_i off size hpl
    rw [hp (i, av) (by simp) _ hpl]
    simp only
    split at h
    case isFalse => cases h
    rename_i hc
    rw [if_pos hc]
    exact fillA_congr h fun x hx => hp x (by simp [hx])

/-- 'mapM' of what answers by itself. -/
theorem run_mapM_pure {α β : Type} (f : α → Sem β) (g : α → β) (w : World) : ∀ (l : List α), (∀ x ∈ l, (f x).run P w = .ok (g x) w) → (l.mapM f).run P w = .ok (l.map g) w
  | [], _ => rfl
  | x :: l, h => by
    rw [List.mapM_cons, Sem.run_bind, h x (by simp), Result.andThen_ok, Sem.run_bind, run_mapM_pure f g w l fun y hy => h y (by simp [hy]), Result.andThen_ok]
    rfl

theorem run_places (hT : T.ok P = true) {fs : List (Nat × TypeId)} {fields : Array Field} (hmap : fields.toList.map (fun f => (f.offset, f.type)) = fs) (hs : sizesT T fs = true) (w : World) :
    (fields.mapM fun (f : Field) => (do pure (f.offset, ← sizeOf f.type) : Sem (Nat × Nat))).run P w = .ok (fields.map fun (f : Field) => (f.offset, P.cellsOf f.type)) w := by
  have hl := run_mapM_pure (P := P) (fun f : Field => (do pure (f.offset, ← sizeOf f.type) : Sem (Nat × Nat))) (fun f => (f.offset, P.cellsOf f.type)) w fields.toList (fun f hf => by
    have hm : (f.offset, f.type) ∈ fs := by rw [← hmap]; exact List.mem_map.2 ⟨f, hf, rfl⟩
    have := List.all_eq_true.1 hs _ hm
    obtain ⟨ti, hti⟩ := Option.isSome_iff_exists.1 this
    have hok := tiok hT hti
    rw [Sem.run_bind, hok.sizeOf w, Result.andThen_ok, hok.cells]
    rfl)
  rw [Array.mapM_eq_mapM_toList, Sem.run_map, hl]
  simp
  apply Array.ext'
  simp


theorem opBuild_ok (hT : T.ok P = true) (h : RelG B G s a w) {ty : TypeId} {parts : List (Nat × AV)} {vals : List (Nat × Value)} (hi : vals.map (·.1) = parts.map (·.1))
    (hv : AVRL w G s.heap (Ban B.F G s.heap) (vals.map (·.2)) (parts.map (·.2))) {av : AV} (hm : opBuild T s.heap ty parts = some av) :
    ∃ v, (Instr.build ty vals.toArray).run P w = .ok v w ∧ AVR w G s.heap (Ban B.F G s.heap) v av := by
  simp only [opBuild, Option.bind_eq_some_iff] at hm
  obtain ⟨ti, hti, hm⟩ := hm
  have hok := tiok hT hti
  cases hk : ti.kind with
  | strct fs =>
    rw [hk] at hm
    simp only at hm
    split at hm
    case isFalse => cases hm
    rename_i hall
    simp only [Option.map_eq_some_iff] at hm
    obtain ⟨out, hf, rfl⟩ := hm
    obtain ⟨fields, hu, hmap, hne⟩ := hok.strct hk
    obtain ⟨z, hz, hzz⟩ := hok.zeroValue w
    obtain ⟨hzv, _⟩ := zeroOK_ok (w := w) (G := G) (H := s.heap) (Av := Ban B.F G s.heap) hzz
    have hf' := fillA_congr (pl' := fun i => (fields.map fun (f : Field) => (f.offset, P.cellsOf f.type))[i]?) hf fun x _ p hp => by
      obtain ⟨f, h1, h2, _⟩ := placeT_ok hT hmap x.1 hp
      simp [h1, h2]
    obtain ⟨ov, ho, hov⟩ := fillA_ok hall.1 hi hv hzv hf'
    refine ⟨.agg ov, ?_, .g _ _ hov⟩
    have hpl := run_places (P := P) hT hmap hall.2 w
    simp only [Instr.build, Sem.run_bind, hz, run_underlying hu, Result.andThen_ok]
    rw [hpl]
    simp only [Result.andThen_ok]
    rw [ho]
    rfl
  | _ => rw [hk] at hm; simp at hm
end rel
end Go.Fs
