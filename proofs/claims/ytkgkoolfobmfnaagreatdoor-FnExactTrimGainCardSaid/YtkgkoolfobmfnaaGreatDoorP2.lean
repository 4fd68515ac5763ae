/- A part of the proof: an evaluator of the program's code over plain data, proved sound; the equations of its functions; what they compute. No conditions beyond those in the theorems. -/
import Derived.IntWalk
import Derived.Test.YtkgkoolfobmfnaaGreatDoorP1
set_option linter.unusedVariables false
set_option linter.unusedSimpArgs false
set_option linter.constructorNameAsVariable false
set_option linter.unusedSectionVars false
set_option linter.defProp false
namespace Go.Fs
open Go.RowKit

section rel
variable {P : Program} {T : Tab} {B : Ctx} {G : Nat → GI} {s : St} {a : Act} {w w' : World}

def chunk (sz : Nat) : Nat → List D → List (List D)
  | 0, _ => []
  | n + 1, ds => ds.take sz :: chunk sz n (ds.drop sz)

theorem chunk_flat (sz : Nat) : ∀ (n : Nat) (ds : List D), ds.length = n * sz → (chunk sz n ds).flatten = ds ∧ (chunk sz n ds).length = n ∧ ∀ x ∈ chunk sz n ds, x.length = sz
  | 0, ds, h => by
    have : ds = [] := List.eq_nil_of_length_eq_zero (by simpa using h)
    subst this
    simp [chunk]
  | n + 1, ds, h => by
    rw [Nat.succ_mul] at h
    obtain ⟨h1, h2, h3⟩ := chunk_flat sz n (ds.drop sz) (by rw [List.length_drop]; omega)
    refine ⟨by simp [chunk, h1], by simp [chunk, h2], ?_⟩
    intro x hx
    simp only [chunk, List.mem_cons] at hx
    rcases hx with rfl | hx
    · rw [List.length_take]; omega
    · exact h3 x hx

def opBuildSlice (T : Tab) (H : Nat → Option Ob) (dst : Nat) (ty : TypeId) (len : Nat) (parts : List (Nat × AV)) : Option (AV × (Nat → Option Ob)) :=
  (T.ti ty).bind fun ti => match ti.kind with
  | .slice e => (T.ti e).bind fun te =>
    if parts.map (·.1) = List.range len ∧ (len * te.size ≤ 16777216 ∧ 0 < te.size) ∧ (parts.all fun x => (cellsA x.2).all (oneA H) && ((cellsA x.2).length == te.size)) = true then
      (moveCs H (parts.flatMap fun x => cellsA x.2)).bind fun m => match m.2.2 dst with
        | none => some (.r dst, upd m.2.2 dst (some (.row te.size (chunk te.size len m.1) m.2.1 false 0)))
        | _ => none
    else none
  | _ => none

theorem fill_seq (size : Nat) : ∀ (vals : List (Nat × Value)) (k : Nat) (cv : Array Value), vals.map (·.1) = List.range' k vals.length → (∀ x ∈ vals, x.2.cells.size = size) → (k + vals.length) * size ≤ cv.size →
    ∃ ov, Instr.fill (fun i => some (i * size, size)) cv vals = some ov ∧ ov.toList = cv.toList.take (k * size) ++ (vals.flatMap fun x => x.2.cells.toList) ++ cv.toList.drop ((k + vals.length) * size)
  | [], k, cv, _, _, _ => ⟨cv, rfl, by simp⟩
  | (i, v) :: vals, k, cv, hi, hs, hc => by
    simp only [List.map_cons, List.length_cons, List.range'_succ, List.cons.injEq] at hi
    obtain ⟨rfl, hi⟩ := hi
    simp only [List.length_cons] at hc
    have hv : v.cells.size = size := hs (i, v) (by simp)
    have hvl : v.cells.toList.length = size := by simpa using hv
    have h1 : (i + 1) * size ≤ (i + (vals.length + 1)) * size := Nat.mul_le_mul_right _ (by omega)
    have h2 : (i + 1) * size = i * size + size := Nat.succ_mul ..
    have hsp := fold_splice (i * size) v.cells.toList 0 cv (by rw [hvl]; omega)
    rw [Nat.add_zero, hvl] at hsp
    have hfold : v.cells.zipIdx.foldl (fun cs (x : Value × Nat) => cs.setIfInBounds (i * size + x.2) x.1) cv = (v.cells.toList.zipIdx 0).foldl (fun cs (x : Value × Nat) => cs.setIfInBounds (i * size + x.2) x.1) cv := by
      rw [← Array.foldl_toList, Array.toList_zipIdx]
    have hnl : (v.cells.zipIdx.foldl (fun cs (x : Value × Nat) => cs.setIfInBounds (i * size + x.2) x.1) cv).toList = cv.toList.take (i * size) ++ v.cells.toList ++ cv.toList.drop (i * size + size) := by rw [hfold, hsp]
    have hns : (v.cells.zipIdx.foldl (fun cs (x : Value × Nat) => cs.setIfInBounds (i * size + x.2) x.1) cv).size = cv.size := by
      rw [← Array.length_toList, hnl]
      simp only [List.length_append, List.length_take, List.length_drop, Array.length_toList, hv]
      omega
    obtain ⟨ov, ho, hol⟩ := fill_seq size vals (i + 1) _ hi (fun x hx => hs x (by simp [hx])) (by rw [hns]; rw [show i + 1 + vals.length = i + (vals.length + 1) by omega]; exact hc)
    refine ⟨ov, ?_, ?_⟩
    · simp only [Instr.fill]
      rw [if_neg (by simp only [hv, Bool.or_eq_true, decide_eq_true_eq]; omega)]
      exact ho
    · rw [hol, hnl, h2]
      rw [List.take_append_of_le_length (by simp only [List.length_append, List.length_take, Array.length_toList, hvl]; omega)]
      rw [List.take_of_length_le (by simp only [List.length_append, List.length_take, Array.length_toList, hvl]; omega)]
      have h3 : (i + 1 + vals.length) * size = (i * size + size) + vals.length * size := by rw [Nat.add_mul, h2]
      have h4 : (i + (vals.length + 1)) * size = (i * size + size) + vals.length * size := by rw [Nat.add_mul, Nat.succ_mul]; omega
      have hpl : (cv.toList.take (i * size) ++ v.cells.toList).length = i * size + size := by simp only [List.length_append, List.length_take, Array.length_toList, hvl]; omega
      rw [h3, List.length_cons, h4, List.drop_append, List.drop_of_length_le (by rw [hpl]; omega), hpl, List.nil_append, List.drop_drop]
      rw [show i * size + size + (i * size + size + vals.length * size - (i * size + size)) = i * size + size + vals.length * size by omega]
      simp

theorem AVRL.flatMap {H : Nat → Option Ob} {Av : Nat → Prop} : ∀ {vals : List (Nat × Value)} {parts : List (Nat × AV)}, AVRL w G H Av (vals.map (·.2)) (parts.map (·.2)) → (parts.all fun x => (cellsA x.2).all (oneA H)) = true →
    AVRL w G H Av (vals.flatMap fun x => x.2.cells.toList) (parts.flatMap fun x => cellsA x.2)
  | [], [], _, _ => .nil
  | (i, v) :: vals, (j, av) :: parts, h, hall => by
    simp only [List.map_cons] at h
    simp only [List.all_cons, Bool.and_eq_true] at hall
    cases h with
    | cons _ _ _ _ h hs =>
      simp only [List.flatMap_cons]
      exact (cellsA_ok h hall.1).1.append (AVRL.flatMap hs hall.2)
  | [], _ :: _, h, _ => by cases h
  | _ :: _, [], h, _ => by cases h

theorem opBuildSlice_ok (hT : T.ok P = true) (h : RelG B G s a w) {dst : Nat} {ty : TypeId} {len : Nat} {parts : List (Nat × AV)} {vals : List (Nat × Value)} (hi : vals.map (·.1) = parts.map (·.1))
    (hv : AVRL w G s.heap (Ban B.F G s.heap) (vals.map (·.2)) (parts.map (·.2))) {av : AV} {H' : Nat → Option Ob} (hm : opBuildSlice T s.heap dst ty len parts = some (av, H')) :
    ∃ v w' G', (Instr.buildSlice ty len vals.toArray).run P w = .ok v w' ∧ RelG B G' { s with heap := H' } a w' ∧ AVR w' G' H' (Ban B.F G' H') v av := by
  simp only [opBuildSlice, Option.bind_eq_some_iff] at hm
  obtain ⟨ti, hti, hm⟩ := hm
  have hok := tiok hT hti
  cases hk : ti.kind with
  | slice e =>
    rw [hk] at hm
    simp only [Option.bind_eq_some_iff] at hm
    obtain ⟨te, hte, hm⟩ := hm
    have hoke := tiok hT hte
    split at hm
    case isFalse => cases hm
    rename_i hcond
    obtain ⟨hidx, ⟨hsmall, hpos⟩, hall⟩ := hcond
    simp only [Option.bind_eq_some_iff] at hm
    obtain ⟨⟨ds, f, H1⟩, hmv, hm⟩ := hm
    simp only at hm
    split at hm
    case h_2 => cases hm
    rename_i hd
    simp only [Option.some.injEq, Prod.mk.injEq] at hm
    obtain ⟨rfl, rfl⟩ := hm
    have hall1 : (parts.all fun x => (cellsA x.2).all (oneA s.heap)) = true := by
      rw [List.all_eq_true] at hall ⊢
      intro x hx
      have := hall x hx
      simp only [Bool.and_eq_true] at this
      exact this.1
    have hcells := hv.flatMap hall1
    obtain ⟨M, S', t', hone, n', o'⟩ := moveCs_ok h hcells hmv
    have hplen : parts.length = len := by have := congrArg List.length hidx; simpa using this
    have hvlen : vals.length = len := by have := congrArg List.length hi; simp at this; omega
    -- each part has its size
    have hsize : ∀ x ∈ vals, x.2.cells.size = te.size := by
      have key : ∀ {vals : List (Nat × Value)} {parts : List (Nat × AV)}, AVRL w G s.heap (Ban B.F G s.heap) (vals.map (·.2)) (parts.map (·.2)) →
          (parts.all fun x => (cellsA x.2).all (oneA s.heap) && ((cellsA x.2).length == te.size)) = true → ∀ x ∈ vals, x.2.cells.size = te.size := by
        intro vals
        induction vals with
        | nil => intro parts _ _ x hx; simp at hx
        | cons y vals ih =>
          intro parts hr hp x hx
          cases parts with
          | nil => cases hr
          | cons p parts =>
            simp only [List.map_cons] at hr
            simp only [List.all_cons, Bool.and_eq_true, beq_iff_eq] at hp
            cases hr with
            | cons _ _ _ _ hr hrs =>
              rcases List.mem_cons.1 hx with rfl | hx
              · have := (cellsA_ok hr hp.1.1).1.length
                rw [← Array.length_toList, this, hp.1.2]
              · exact ih hrs (by simpa [List.all_eq_true] using hp.2) x hx
      exact key hv hall
    obtain ⟨z, hz, hzz⟩ := hoke.zeroValue w
    let bcells : Array Value := (Array.range (len * te.size)).map ((if len * te.size = 0 then #[] else z.cells)[· % (if len * te.size = 0 then #[] else z.cells).size]!)
    have hbs : bcells.size = len * te.size := by simp [bcells]
    obtain ⟨ov, ho, hol⟩ := fill_seq te.size vals 0 bcells (by rw [hi, hidx, hvlen]; exact List.range_eq_range') hsize (by rw [hvlen, hbs, Nat.zero_add]; exact Nat.le_refl _)
    have hovl : ov.toList = vals.flatMap fun x => x.2.cells.toList := by
      rw [hol, Nat.zero_mul, List.take_zero, List.nil_append, hvlen, Nat.zero_add, ← hbs, ← Array.length_toList, List.drop_length, List.append_nil]
    have hdl : ds.length = len * te.size := by
      rw [← t'.length, ← hovl, hol]
      simp only [Nat.zero_mul, List.take_zero, List.nil_append, List.length_append, List.length_drop, Array.length_toList, hbs, hvlen, Nat.zero_add, Nat.sub_self, Nat.add_zero]
      rw [List.length_flatMap]
      simp only [Array.length_toList]
      have : ∀ (l : List (Nat × Value)), (∀ x ∈ l, x.2.cells.size = te.size) → (l.map fun x => x.2.cells.size).sum = l.length * te.size := by
        intro l
        induction l with
        | nil => simp
        | cons y l ih =>
          intro hl
          simp only [List.map_cons, List.sum_cons, List.length_cons]
          rw [ih fun x hx => hl x (by simp [hx]), hl y (by simp), Nat.succ_mul]
          omega
      rw [this vals hsize, hvlen]
    obtain ⟨hcf, hcl, hcu⟩ := chunk_flat te.size len ds hdl
    let gi : GI := { blk := w.heap.size, off := 0, cap := len, vs := vals.flatMap fun x => x.2.cells.toList, sub := S' }
    have hnS : w.heap.size ∉ S' := fun hb => by have := t'.lt _ hb; omega
    have hrun : (Instr.buildSlice ty len vals.toArray).run P w = .ok (.slice (some ⟨w.heap.size, 0, none⟩) len len) (w.alloc (.cells ov e)) := by
      unfold Instr.buildSlice
      simp only [Sem.run_bind, run_underlying (hok.slice hk), Result.andThen_ok, hoke.sizeOf w]
      rw [if_neg (by omega)]
      by_cases h0 : len * te.size = 0
      · simp only [h0, if_true, Sem.run_bind, Sem.run_pure, Result.andThen_ok]
        have : bcells = (Array.range 0).map ((#[] : Array Value)[· % (#[] : Array Value).size]!) := by simp [bcells, h0]
        rw [this] at ho
        simp only [ho, Sem.run_bind, run_newRow, Result.andThen_ok, Sem.run_pure]
      · simp only [h0, if_false, Sem.run_bind, hz, Sem.run_pure, Result.andThen_ok]
        have : bcells = (Array.range (len * te.size)).map (z.cells[· % z.cells.size]!) := by simp [bcells, h0]
        rw [this] at ho
        simp only [ho, Sem.run_bind, run_newRow, Result.andThen_ok, Sem.run_pure]
    refine ⟨_, _, upd G dst gi, hrun, ?_, ?_⟩
    · refine h.putRow M.keys hd gi te.size (chunk te.size len ds) f 0 (rest_alloc ..) (fun b hb _ => heap_alloc_old w _ b hb) ?_ ?_ ?_
      · intro b hb
        rcases (mem_ownRow hb).2 with rfl | ⟨rfl, hb2⟩
        · exact .inr (Nat.le_refl _)
        · obtain ⟨i, hi'⟩ := (o' rfl).2 b hb2
          exact .inl ⟨i, fun e => n' b hb2 (.inl ⟨i, by rw [e]; exact hi'⟩), hi'⟩
      · exact nodup_ownRow fun hf => ⟨hnS, (o' hf).1⟩
      · refine ⟨fun _ => ⟨ov, e, heap_alloc_new w _, ?_, ?_⟩, by rw [hcl]; exact Nat.le_refl _, ?_, ?_, hone, hcu, ?_, fun hf => (o' hf).1, ?_, by simp⟩
        · have : ov.size = len * te.size := by rw [← Array.length_toList, hovl, t'.length, hdl]
          simp only [gi]
          omega
        · intro j v hj
          have : ov.toList[j]? = some v := by rw [hovl]; exact hj
          simpa [gi] using this
        · simp only [gi, maxLen]
          have : len ≤ len * te.size := Nat.le_mul_of_pos_right _ hpos
          omega
        · rw [hcl]; show List.length _ = _; rw [t'.length, hdl]
        · show TrL _ f (vals.flatMap fun x => x.2.cells.toList) _ S'
          rw [hcf]
          exact t'.keep fun b hb => heap_alloc_old w _ b (t'.lt b hb)
        · intro hf b hb hn
          rcases own_put hn with hn | hn
          · exact n' b hb hn
          · have hf' : f = false := by simpa using hf
            have hlt := t'.lt b hb
            rcases (mem_ownRow hn).2 with rfl | ⟨e, _⟩
            · exact absurd hlt (Nat.lt_irrefl _)
            · rw [hf'] at e; cases e
    · have := AVR.r (w := w.alloc (.cells ov e)) (G := upd G dst gi) (H := upd H1 dst (some (.row te.size (chunk te.size len ds) f false 0))) (Av := Ban B.F (upd G dst gi) (upd H1 dst (some (.row te.size (chunk te.size len ds) f false 0)))) dst te.size _ f false 0 (some ⟨w.heap.size, 0, none⟩) (upd_same ..) (fun _ => by simp [upd_same, gi])
      rw [hcl] at this
      simpa [upd_same, gi] using this
  | _ => rw [hk] at hm; simp at hm
end rel
end Go.Fs
namespace Go.Fs
open Go.RowKit

def zeroD : AV → D
  | .d x => x
  | .z sz => .l sz []
  | _ => .u

def opMake (T : Tab) (H : Nat → Option Ob) (dst : Nat) (ty : TypeId) (len cap : AV) : Option (AV × (Nat → Option Ob)) :=
  (T.ti ty).bind fun ti => match ti.kind with
  | .slice e => (T.ti e).bind fun te => match len, cap with
    | .d (.i _ n), .d (.i _ m) => if n = m ∧ 0 ≤ n ∧ n * te.bytes ≤ 140737488355328 ∧ n ≤ 140737488355328 ∧ 0 < te.size then match H dst with
      | none => some (.r dst, upd H dst (some (.row te.size (List.replicate n.toNat (te.zero.map zeroD)) true false 0)))
      | _ => none else none
    | _, _ => none
  | _ => none

/-- A cell of this zero never holds a list. -/
def zsc : AV → Bool
  | .d _ => true
  | _ => false
def srcA (H : Nat → Option Ob) (sz : Nat) (sc : Bool) : AV → Option (List (List D) × Bool × (Nat → Option Ob))
  | .z _ => some ([], true, H)
  | .d (.l sz' ys) => if sz' = sz then some (ys, sc && ys.all (·.all scal), H) else none
  | .r k => match H k with
    | some (.row sz' xs dp fz _) => if sz' = sz then
        (if (sc && xs.all (·.all scal)) = true then some (xs, true, H) else some (xs, dp && !fz, if fz then H else upd H k (some .dead))) else none
    | _ => none
  | _ => none

def opAppend (T : Tab) (H : Nat → Option Ob) (dst : Nat) (ty : TypeId) (x y : AV) : Option (AV × (Nat → Option Ob)) :=
  (T.ti ty).bind fun ti => match ti.kind with
  | .slice e => (T.ti e).bind fun te => (srcA H te.size (te.zero.all zsc) y).bind fun m => match x with
    | .z _ => if m.1.length * te.bytes ≤ 140737488355328 ∧ m.1.length ≤ 140737488355328 ∧ 0 < te.size then match m.2.2 dst with
        | none => some (.r dst, upd m.2.2 dst (some (.row te.size m.1 m.2.1 false 0)))
        | _ => none else none
    | .r k => match m.2.2 k with
      | some (.row sz xs dp false _) =>
        if sz = te.size ∧ (xs.length + m.1.length) * te.bytes ≤ 140737488355328 ∧ xs.length + m.1.length ≤ 140737488355328 ∧ 0 < te.size then match m.2.2 dst with
        | none => some (.r dst, upd (upd m.2.2 k (some .dead)) dst (some (.row te.size (xs ++ m.1) (dp && m.2.1) false 0)))
        | _ => none else none
      | _ => none
    | _ => none
  | _ => none

section rel
variable {P : Program} {T : Tab} {B : Ctx} {G : Nat → GI} {s : St} {a : Act} {w w' : World}

theorem zeroOK_tr {own : Bool} : ∀ {vs : List Value} {avs : List AV}, zeroOK vs avs = true → TrL w own vs (avs.map zeroD) []
  | [], [], _ => .nil
  | v :: vs, av :: avs, h => by
    simp only [zeroOK, Bool.and_eq_true] at h
    obtain ⟨h1, h2⟩ := h
    have key : Tr w own v (zeroD av) [] := by
      split at h1
      · rename_i a b; have : a = b := by simpa using h1
        subst this; exact .b _
      · rename_i k n k' n'
        simp at h1
        obtain ⟨rfl, rfl⟩ := h1
        exact .i _ _
      · rename_i s s'
        simp at h1
        rw [h1.1, h1.2]; exact .s _
      · exact .z _ _ _ (fun _ => rfl)
      · exact .np
      · exact .nf
      · rename_i b; simp at h1; subst h1; exact .ni
      · simp at h1
    exact .cons v _ [] vs _ [] key (zeroOK_tr h2)
  | [], _ :: _, h => by simp [zeroOK] at h
  | _ :: _, [], h => by simp [zeroOK] at h

theorem TrL.replicate {own : Bool} {vs : List Value} {ds : List D} (h : TrL w own vs ds []) : ∀ n, TrL w own (List.replicate n vs).flatten (List.replicate n ds).flatten []
  | 0 => .nil
  | n + 1 => by
    simp only [List.replicate_succ, List.flatten_cons]
    exact h.append (TrL.replicate h n)

theorem zeroOK_len : ∀ {vs : List Value} {avs : List AV}, zeroOK vs avs = true → vs.length = avs.length
  | [], [], _ => rfl
  | v :: vs, av :: avs, h => by
    simp only [zeroOK, Bool.and_eq_true] at h
    simp [zeroOK_len h.2]
  | [], _ :: _, h => by simp [zeroOK] at h
  | _ :: _, [], h => by simp [zeroOK] at h

theorem range_cells (z : Array Value) (n : Nat) (hz : 0 < z.size) : ((Array.range (n * z.size)).map (z[· % z.size]!)).toList = (List.replicate n z.toList).flatten := by
  apply List.ext_getElem?
  intro i
  by_cases hi : i < n * z.size
  · have h1 : i / z.size < n := Nat.div_lt_of_lt_mul (by rw [Nat.mul_comm]; exact hi)
    have h2 : i % z.size < z.size := Nat.mod_lt _ hz
    have h3 : i = i / z.size * z.size + i % z.size := by rw [Nat.mul_comm]; exact (Nat.div_add_mod ..).symm
    have hf := flat_get (xs := List.replicate n z.toList) (sz := z.size) (by intro x hx; rw [List.eq_of_mem_replicate hx]; simp) (i := i / z.size) (j := i % z.size) (x := z.toList) (by rw [List.getElem?_replicate, if_pos h1]) h2
    rw [← h3] at hf
    rw [hf]
    simp [hi, h2]
  · rw [List.getElem?_eq_none (by simp; omega), List.getElem?_eq_none]
    rw [flat_length (sz := z.size) (by intro x hx; rw [List.eq_of_mem_replicate hx]; simp)]
    simp
    omega

theorem opMake_ok (hT : T.ok P = true) (h : RelG B G s a w) {dst : Nat} {ty : TypeId} {len cap : AV} {lv cv : Value} (hl : AVR w G s.heap (Ban B.F G s.heap) lv len) (hc : AVR w G s.heap (Ban B.F G s.heap) cv cap)
    {av : AV} {H' : Nat → Option Ob} (hm : opMake T s.heap dst ty len cap = some (av, H')) :
    ∃ v w' G', (Instr.makeSlice ty lv cv).run P w = .ok v w' ∧ RelG B G' { s with heap := H' } a w' ∧ AVR w' G' H' (Ban B.F G' H') v av := by
  simp only [opMake, Option.bind_eq_some_iff] at hm
  obtain ⟨ti, hti, hm⟩ := hm
  have hok := tiok hT hti
  cases hk : ti.kind with
  | slice e =>
    rw [hk] at hm
    simp only [Option.bind_eq_some_iff] at hm
    obtain ⟨te, hte, hm⟩ := hm
    have hoke := tiok hT hte
    split at hm
    case h_2 => cases hm
    rename_i k1 n k2 m
    split at hm
    case isFalse => cases hm
    rename_i hcond
    obtain ⟨rfl, h0, hb, hle, hpos⟩ := hcond
    split at hm
    case h_2 => cases hm
    rename_i hd
    simp only [Option.some.injEq, Prod.mk.injEq] at hm
    obtain ⟨rfl, rfl⟩ := hm
    obtain rfl := hl.inv_int
    obtain rfl := hc.inv_int
    obtain ⟨i, z, hi, hs, hby, hz, hzz⟩ := hoke.info
    obtain ⟨n, rfl⟩ := Int.eq_ofNat_of_zero_le h0
    have hzl : z.cells.size = te.zero.length := by rw [← Array.length_toList]; exact zeroOK_len hzz
    have hzs : z.cells.size = te.size := hzl.trans hoke.zlen
    have hcells : (madeCells z.cells (n * te.size)).toList = (List.replicate n z.cells.toList).flatten := by
      unfold madeCells
      rw [← hzs]
      exact range_cells z.cells n (by omega)
    have hbn : (te.bytes : Int) * n ≤ 281474976710656 := by rw [Int.mul_comm]; omega
    have hrun := run_make (P := P) w ty e i z (hok.slice hk) hi hz k1 k2 n n (by omega) (Int.le_refl _) (by rw [hby]; exact hbn) (by omega)
    simp only [Int.toNat_natCast, hs] at hrun ⊢
    have hlr : ∀ x ∈ List.replicate n (te.zero.map zeroD), x.length = te.size := by
      intro x hx
      rw [List.eq_of_mem_replicate hx, List.length_map, hoke.zlen]
    have htr := (zeroOK_tr (w := w.alloc (.cells (madeCells z.cells (n * te.size)) e)) (own := true) hzz).replicate n
    have hone := (zeroOK_ok (w := w) (G := G) (H := s.heap) (Av := Ban B.F G s.heap) hzz).2
    have hsz : (madeCells z.cells (n * te.size)).size = n * te.size := size_madeCells ..
    let gi : GI := { blk := w.heap.size, off := 0, cap := n, vs := (List.replicate n z.cells.toList).flatten, sub := [] }
    refine ⟨_, _, upd G dst gi, hrun, ?_, ?_⟩
    · refine h.putRow (fun _ => .inl rfl) hd gi te.size (List.replicate n (te.zero.map zeroD)) true 0 (rest_alloc ..) (fun b hb _ => heap_alloc_old w _ b hb) ?_ ?_ ?_
      · intro b hb
        rcases (mem_ownRow hb).2 with rfl | ⟨_, hb2⟩
        · exact .inr (Nat.le_refl _)
        · simp [gi] at hb2
      · exact nodup_ownRow fun _ => ⟨by simp [gi], List.nodup_nil⟩
      · refine ⟨fun _ => ⟨_, e, heap_alloc_new w _, by simp only [gi, hsz]; omega, ?_⟩, by rw [List.length_replicate]; exact Nat.le_refl _, by simp only [gi, maxLen]; omega, ?_, ?_, hlr, htr, fun _ => List.nodup_nil, by simp [gi], by simp⟩
        · intro j v hj
          have : (madeCells z.cells (n * te.size)).toList[j]? = some v := by rw [hcells]; exact hj
          simpa [gi] using this
        · rw [List.length_replicate]
          show List.length _ = _
          rw [flat_length (sz := te.size) (by intro x hx; rw [List.eq_of_mem_replicate hx, Array.length_toList, hzs]), List.length_replicate]
        · intro v hv
          obtain ⟨x, hx, hvx⟩ := List.mem_flatten.1 hv
          rw [List.eq_of_mem_replicate hx] at hvx
          exact hone v hvx
    · have := AVR.r (w := w.alloc (.cells (madeCells z.cells (n * te.size)) e)) (G := upd G dst gi) (H := upd s.heap dst (some (.row te.size (List.replicate n (te.zero.map zeroD)) true false 0))) (Av := Ban B.F (upd G dst gi) (upd s.heap dst (some (.row te.size (List.replicate n (te.zero.map zeroD)) true false 0)))) dst te.size _ true false 0 (some ⟨w.heap.size, 0, none⟩) (upd_same ..) (fun _ => by simp [upd_same, gi])
      simpa [upd_same, gi] using this
  | _ => rw [hk] at hm; simp at hm
end rel
end Go.Fs
namespace Go.Fs
open Go.RowKit

section rel
variable {P : Program} {T : Tab} {B : Ctx} {G : Nat → GI} {s : St} {a : Act} {w w' : World}

theorem scalL {own : Bool} : ∀ {vs : List Value} {ds : List D} {S : List Nat}, TrL w own vs ds S → ds.all scal = true → S = [] ∧ ∀ w' own', TrL w' own' vs ds []
  | _, _, _, .nil, _ => ⟨rfl, fun _ _ => .nil⟩
  | _, _, _, .cons v d S vs ds Ss h hs, ha => by
    simp only [List.all_cons, Bool.and_eq_true] at ha
    obtain ⟨rfl, h1, _⟩ := scal_tr h ha.1
    obtain ⟨rfl, h2⟩ := scalL hs ha.2
    exact ⟨rfl, fun w' own' => .cons v d [] vs ds [] (h1 w' own') (h2 w' own')⟩

theorem all_flat {ys : List (List D)} (h : ys.all (·.all scal) = true) : ys.flatten.all scal = true := by
  rw [List.all_eq_true] at h ⊢
  intro x hx
  obtain ⟨y, hy, hxy⟩ := List.mem_flatten.1 hx
  exact List.all_eq_true.1 (h y hy) x hxy

/-- What is appended, as it lies in memory. -/
structure Src (B : Ctx) (G : Nat → GI) (w : World) (H H1 : Nat → Option Ob) (sz : Nat) (v : Value) (ys : List (List D)) (f : Bool) (vs : List Value) (S : List Nat) : Prop where
  val : ∃ ad c, v = .slice ad ys.length c ∧ (ys ≠ [] → ∃ a', ad = some a' ∧ ∀ j u, vs[j]? = some u → w.cell? (a'.add j) = some u)
  len : vs.length = ys.length * sz
  uni : ∀ x ∈ ys, x.length = sz
  one : ∀ u ∈ vs, u.oneCell' = true
  tr : TrL w f vs ys.flatten S
  no : ∀ b ∈ S, ¬ Ban B.F G H1 b
  own : f = true → S.Nodup ∧ ∀ b ∈ S, Own G H b

theorem Src.ofTr {H1 : Nat → Option Ob} {sz : Nat} {v : Value} {ys : List (List D)} {f own : Bool} {S : List Nat} (h : Tr w own v (.l sz ys) S) {H : Nat → Option Ob}
    (hno : (f = true ∧ ys.all (·.all scal) = true) ∨ ∀ b ∈ S, ¬ Ban B.F G H1 b) (hf : f = true → (own = true ∧ S.Nodup ∧ ∀ b ∈ S, Own G H b) ∨ ys.all (·.all scal) = true) : ∃ vs S', Src B G w H H1 sz v ys f vs S' := by
  cases h with
  | z ad c _ ho =>
    refine ⟨[], [], ⟨ad, c, rfl, fun h => absurd rfl h⟩, by simp, by simp, by simp, ?_, by simp, fun _ => ⟨List.nodup_nil, by simp⟩⟩
    exact .nil
  | l g o c _ cur e fr vs _ S2 hg hc hm hl hv h1 hx ho hs =>
    have hval : ∃ ad c', Value.slice (some ⟨g, o, none⟩) ys.length c = .slice ad ys.length c' ∧ (ys ≠ [] → ∃ a', ad = some a' ∧ ∀ j u, vs[j]? = some u → w.cell? (a'.add j) = some u) :=
      ⟨_, _, rfl, fun _ => ⟨_, rfl, fun j u hj => by rw [add_at, cell_at hg]; exact hv j u hj⟩⟩
    cases hff : f with
    | false => exact ⟨vs, S2, hval, hl, hx, h1, hs.shared, fun b hb => (hno.resolve_left (by simp [hff])) b (by simp [hb]), by simp⟩
    | true =>
      by_cases hsc : ys.all (·.all scal) = true
      · obtain ⟨_, h2⟩ := scalL hs (all_flat hsc)
        exact ⟨vs, [], hval, hl, hx, h1, h2 w true, by simp, fun _ => ⟨List.nodup_nil, by simp⟩⟩
      · rcases hf hff with ⟨h2, h3, h4⟩ | h2
        · subst h2
          exact ⟨vs, S2, hval, hl, hx, h1, hs, fun b hb => (hno.resolve_left fun e => hsc e.2) b (by simp [hb]), fun _ => ⟨(List.nodup_cons.1 h3).2, fun b hb => h4 b (by simp [hb])⟩⟩
        · exact absurd h2 hsc

theorem srcA_ok (h : RelG B G s a w) {sz : Nat} {sc : Bool} {v : Value} {y : AV} (hv : AVR w G s.heap (Ban B.F G s.heap) v y) {ys : List (List D)} {f : Bool} {H1 : Nat → Option Ob} (hm : srcA s.heap sz sc y = some (ys, f, H1)) :
    Moved B G s a w H1 ∧ ∃ vs S, Src B G w s.heap H1 sz v ys f vs S := by
  cases hv with
  | z sz' =>
    simp only [srcA, Option.some.injEq, Prod.mk.injEq] at hm
    obtain ⟨rfl, rfl, rfl⟩ := hm
    exact ⟨.refl h, [], [], ⟨none, 0, rfl, fun h => absurd rfl h⟩, by simp, by simp, by simp, .nil, by simp, fun _ => ⟨List.nodup_nil, by simp⟩⟩
  | d v x S h1 ht hS =>
    cases x with
    | l sz' ys' =>
      simp only [srcA] at hm
      split at hm
      case isFalse => cases hm
      rename_i e
      subst e
      simp only [Option.some.injEq, Prod.mk.injEq] at hm
      obtain ⟨rfl, rfl, rfl⟩ := hm
      exact ⟨.refl h, Src.ofTr ht (.inr hS) fun h => .inr (Bool.and_eq_true_iff.1 h).2⟩
    | _ => simp [srcA] at hm
  | r k sz' xs dp fz ve ad hk ha =>
    simp only [srcA, hk] at hm
    split at hm
    case isFalse => cases hm
    rename_i e
    subst e
    have hR : RowR w (Ban B.F G s.heap) (G k) sz' xs dp fz := h.obj k _ hk
    obtain ⟨S, t1, t2, t3⟩ := hR.whole ha
    have hmv := moveC_ok h (.r k sz' xs dp fz ve ad hk ha) (d := .l sz' xs) (f := dp && !fz) (H' := if fz then s.heap else upd s.heap k (some .dead)) (by simp [moveC, hk])
    split at hm
    · rename_i hsc
      have hsc := (Bool.and_eq_true_iff.1 hsc).2
      simp only [Option.some.injEq, Prod.mk.injEq] at hm
      obtain ⟨rfl, rfl, rfl⟩ := hm
      exact ⟨.refl h, Src.ofTr t1 (.inl ⟨rfl, hsc⟩) fun _ => .inr hsc⟩
    · rename_i hsc
      simp only [Option.some.injEq, Prod.mk.injEq] at hm
      obtain ⟨rfl, rfl, rfl⟩ := hm
      obtain ⟨M, S', t', _, n', o'⟩ := hmv
      exact ⟨M, Src.ofTr t' (.inr n') fun hf => .inl ⟨by simpa using hf, (o' hf).1, (o' hf).2⟩⟩
  | _ => simp_all [srcA]
end rel
end Go.Fs
namespace Go.Fs
open Go.RowKit

section rel
variable {P : Program} {T : Tab} {B : Ctx} {G : Nat → GI} {s : St} {a : Act} {w w' : World}

/-- There is room, or nothing is appended. -/
theorem run_append_room_at (t ty e : TypeId) (i : TypeInfo) (ht : P.underlying t = some (.slice e)) (hi : P.info? e = some i)
    (g o sLen sCap : Nat) (cur : Array Value) (el : TypeId) (hg : w.heap[g]? = some (.cells cur el (0, 0)))
    (ad : Option Addr) (m c : Nat) (news : List Value) (hl : news.length = m * i.size) (had : ∃ a', ad = some a' ∧ ∀ j u, news[j]? = some u → w.cell? (a'.add j) = some u) (h1 : ∀ u ∈ news, u.oneCell' = true)
    (hroom : sLen + m ≤ sCap) (hfit : o + sLen * i.size + news.length ≤ cur.size) :
    (Builtin.append_ #[t, t] ty #[.slice (some ⟨g, o, none⟩) sLen sCap, .slice ad m c]).run P w =
      .ok (.slice (some ⟨g, o, none⟩) (sLen + m) sCap) (w.setRow g (cur.toList.take (o + sLen * i.size) ++ news ++ cur.toList.drop (o + sLen * i.size + news.length)).toArray) := by
  obtain ⟨a', rfl, hn⟩ := had
  have hf := run_firstCells_some (P := P) w i.size m a' m c news hl hn
  have hst := run_storeCells_at P g (o + sLen * i.size) el news 0 cur w hg (by simpa using hfit) h1
  simp only [Nat.add_zero] at hst
  simp [Builtin.append_, run_underlying ht, sizeOf, typeInfo, hi, Builtin.lenOf, hroom, hf, add_at, hst]

theorem run_append_none (t ty e : TypeId) (i : TypeInfo) (ht : P.underlying t = some (.slice e)) (hi : P.info? e = some i) (sad : Option Addr) (sLen sCap : Nat) (ad : Option Addr) (c : Nat) (hroom : sLen ≤ sCap) :
    (Builtin.append_ #[t, t] ty #[.slice sad sLen sCap, .slice ad 0 c]).run P w = .ok (.slice sad sLen sCap) w := by
  have hf : (Builtin.firstCells i.size 0 (.slice ad 0 c)).run P w = .ok #[] w := by
    cases ad with
    | none => rfl
    | some a' => simp [Builtin.firstCells, loadCells, loadCellsFrom]
  cases sad with
  | none => simp [Builtin.append_, run_underlying ht, sizeOf, typeInfo, hi, Builtin.lenOf, hroom, hf]
  | some b => simp [Builtin.append_, run_underlying ht, sizeOf, typeInfo, hi, Builtin.lenOf, hroom, hf, storeCells]

/-- There is no room: a new row. -/
theorem run_append_more (t ty e : TypeId) (i : TypeInfo) (z : Value) (ht : P.underlying t = some (.slice e)) (hi : P.info? e = some i) (hz : i.zero = some z)
    (sad : Option Addr) (sLen sCap : Nat) (olds : List Value) (hlo : olds.length = sLen * i.size) (holds : 0 < sLen → ∃ b, sad = some b ∧ ∀ (j : Nat) (v : Value), olds[j]? = some v → w.cell? (b.add j) = some v) (hnil : sad = none → sLen = 0 ∧ sCap = 0)
    (ad : Option Addr) (m c : Nat) (news : List Value) (hl : news.length = m * i.size) (had : ∃ a', ad = some a' ∧ ∀ j u, news[j]? = some u → w.cell? (a'.add j) = some u)
    (hg : sCap < sLen + m) (hm : 0 < m) (h63 : sLen + m ≤ 140737488355328) (hb : (sLen + m) * i.bytes ≤ 140737488355328) :
    ∃ (cap : Nat), sLen + m ≤ cap ∧ cap ≤ maxLen ∧ (Builtin.append_ #[t, t] ty #[.slice sad sLen sCap, .slice ad m c]).run P w =
      .ok (.slice (some ⟨w.heap.size, 0, none⟩) (sLen + m) cap) (w.drew.alloc (.cells (olds.toArray ++ news.toArray ++ Builtin.zeroCells z.cells (cap - (sLen + m))) e)) := by
  obtain ⟨a', rfl, hn⟩ := had
  cases sad with
  | none =>
    obtain ⟨rfl, rfl⟩ := hnil rfl
    have ho : olds = [] := List.eq_nil_of_length_eq_zero (by simpa using hlo)
    subst ho
    have hr := run_append_nil (P := P) w t ty e i z ht hi hz a' m c news hl hn hm (by omega) (by have hb := hb; simp only [Nat.zero_add] at hb; omega)
    refine ⟨grownCap w m 0 e, by have := grownCap_ge w m 0 e; omega, grownCap_le_maxLen w m 0 e (by simp only [maxLen]; omega), ?_⟩
    rw [hr]
    simp
  | some b =>
    have hh : ∀ j v, olds[j]? = some v → w.cell? (b.add j) = some v := by
      intro j v hj
      rcases Nat.eq_zero_or_pos sLen with h0 | h0
      · subst h0
        have ho : olds = [] := List.eq_nil_of_length_eq_zero (by simpa using hlo)
        subst ho
        simp at hj
      · obtain ⟨b', hb', hc⟩ := holds h0
        cases hb'
        exact hc j v hj
    have hr := run_append_grow (P := P) w t ty e i z ht hi hz b sLen sCap olds hlo hh a' m c news hl hn hg (by omega) (growslice_fits hg hb)
    exact ⟨_, grownCap_ge w (sLen + m) sCap e, grownCap_le_maxLen w (sLen + m) sCap e (by simp only [maxLen]; omega), hr⟩

theorem rest_drew_alloc (w : World) (o : Obj) : Rest w (w.drew.alloc o) := ⟨rfl, rfl, rfl, by simp⟩

/-- A new row, behind a growing append. -/
theorem RelG.grown (h : RelG B G s a w) {H1 : Nat → Option Ob} (hkeys : ∀ k, H1 k = s.heap k ∨ (s.heap k ≠ none ∧ H1 k = some .dead)) {k : Nat} (hk : H1 k = none) (e : TypeId) (sz cap : Nat) (xs : List (List D)) (dp : Bool) (vs : List Value) (S : List Nat) (cells : Array Value)
    (hsz : cap * sz ≤ cells.size) (hv : ∀ (j : Nat) (v : Value), vs[j]? = some v → cells[j]? = some v) (hlen : xs.length ≤ cap) (hmax : cap ≤ maxLen) (hvl : vs.length = xs.length * sz) (hone : ∀ v ∈ vs, v.oneCell' = true) (huni : ∀ x ∈ xs, x.length = sz)
    (htr : TrL w dp vs xs.flatten S) (hno : ∀ b ∈ S, ¬ Ban B.F G H1 b) (hown : dp = true → S.Nodup ∧ ∀ b ∈ S, Own G s.heap b) :
    ∃ G', RelG B G' { s with heap := upd H1 k (some (.row sz xs dp false 0)) } a (w.drew.alloc (.cells cells e)) ∧
      AVR (w.drew.alloc (.cells cells e)) G' (upd H1 k (some (.row sz xs dp false 0))) (Ban B.F G' (upd H1 k (some (.row sz xs dp false 0)))) (.slice (some ⟨w.heap.size, 0, none⟩) xs.length cap) (.r k) := by
  let gi : GI := { blk := w.heap.size, off := 0, cap := cap, vs := vs, sub := S }
  have hold : ∀ b, b < w.heap.size → (w.drew.alloc (.cells cells e)).heap[b]? = w.heap[b]? := fun b hb => heap_alloc_old w.drew _ b hb
  have hnew : (w.drew.alloc (.cells cells e)).heap[w.heap.size]? = some (.cells cells e) := heap_alloc_new w.drew _
  have hnS : w.heap.size ∉ S := fun hb => by have := htr.lt _ hb; omega
  refine ⟨upd G k gi, ?_, ?_⟩
  · refine h.putRow hkeys hk gi sz xs dp 0 (rest_drew_alloc ..) (fun b hb _ => hold b hb) ?_ ?_ ?_
    · intro b hb
      rcases (mem_ownRow hb).2 with rfl | ⟨rfl, hb2⟩
      · exact .inr (Nat.le_refl _)
      · obtain ⟨i, hi'⟩ := (hown rfl).2 b hb2
        exact .inl ⟨i, fun e => hno b hb2 (.inl ⟨i, by rw [e]; exact hi'⟩), hi'⟩
    · exact nodup_ownRow fun hf => ⟨hnS, (hown hf).1⟩
    · refine ⟨fun _ => ⟨cells, e, hnew, by simpa [gi] using hsz, by simpa [gi] using hv⟩, hlen, hmax, hvl, hone, huni, htr.keep fun b hb => hold b (htr.lt b hb), fun hf => (hown hf).1, ?_, by simp⟩
      intro hf b hb hn
      rcases own_put hn with hn | hn
      · exact hno b hb hn
      · have hf' : dp = false := by simpa using hf
        have hlt := htr.lt b hb
        rcases (mem_ownRow hn).2 with rfl | ⟨e, _⟩
        · exact absurd hlt (Nat.lt_irrefl _)
        · rw [hf'] at e; cases e
  · have := AVR.r (w := w.drew.alloc (.cells cells e)) (G := upd G k gi) (H := upd H1 k (some (.row sz xs dp false 0))) (Av := Ban B.F (upd G k gi) (upd H1 k (some (.row sz xs dp false 0)))) k sz xs dp false 0 (some ⟨w.heap.size, 0, none⟩) (upd_same ..) (fun _ => by simp [upd_same, gi])
    simpa [upd_same, gi] using this

theorem opAppend_ok (hT : T.ok P = true) (h : RelG B G s a w) {dst : Nat} {ty ty' : TypeId} {x y : AV} {xv yv : Value} (hx : AVR w G s.heap (Ban B.F G s.heap) xv x) (hy : AVR w G s.heap (Ban B.F G s.heap) yv y)
    {av : AV} {H' : Nat → Option Ob} (hm : opAppend T s.heap dst ty x y = some (av, H')) :
    ∃ v w' G', (Builtin.append_ #[ty, ty] ty' #[xv, yv]).run P w = .ok v w' ∧ RelG B G' { s with heap := H' } a w' ∧ AVR w' G' H' (Ban B.F G' H') v av := by
  simp only [opAppend, Option.bind_eq_some_iff] at hm
  obtain ⟨ti, hti, hm⟩ := hm
  have hok := tiok hT hti
  cases hkd : ti.kind with
  | slice e =>
    rw [hkd] at hm
    simp only [Option.bind_eq_some_iff] at hm
    obtain ⟨te, hte, ⟨ys, f, H1⟩, hsrc, hm⟩ := hm
    have hoke := tiok hT hte
    have hu := hok.slice hkd
    obtain ⟨i, z, hi, his, hib, hiz, hzz⟩ := hoke.info
    have hzs : z.cells.size = te.size := by rw [← Array.length_toList, zeroOK_len hzz, hoke.zlen]
    obtain ⟨M, news, S', src⟩ := srcA_ok h hy hsrc
    obtain ⟨⟨ad, c, rfl, hread⟩, nl, nu, n1, nt, nno, nown⟩ := src
    cases hx with
    | z sz0 =>
      simp only at hm
      split at hm
      case isFalse => cases hm
      rename_i hc
      obtain ⟨hb, hle, hpos⟩ := hc
      split at hm
      case h_2 => cases hm
      rename_i hd
      simp only [Option.some.injEq, Prod.mk.injEq] at hm
      obtain ⟨rfl, rfl⟩ := hm
      by_cases hy0 : ys = []
      · subst hy0
        let gi : GI := { blk := 0, off := 0, cap := 0, vs := [], sub := [] }
        have hrun := run_append_none (P := P) (w := w) ty ty' e i hu hi none 0 0 ad c (Nat.le_refl 0)
        refine ⟨.slice none 0 0, w, upd G dst gi, hrun, h.putRow (w' := w) M.keys hd gi te.size [] f 0 (.refl w) (fun _ _ _ => rfl) (by simp [ownOf, gi]) (by simp [ownOf, gi]) (RowR.mkVoid ..), ?_⟩
        have := AVR.r (w := w) (G := upd G dst gi) (H := upd H1 dst (some (.row te.size [] f false 0))) (Av := Ban B.F (upd G dst gi) (upd H1 dst (some (.row te.size [] f false 0)))) dst te.size [] f false 0 none (upd_same ..) (fun hlt => by
          rw [upd_same] at hlt
          exact absurd hlt (Nat.lt_irrefl 0))
        rw [upd_same] at this
        exact this
      have hyl : 0 < ys.length := List.length_pos_iff.2 hy0
      obtain ⟨cap, hcap, hmax, hrun⟩ := run_append_more (P := P) (w := w) ty ty' e i z hu hi hiz none 0 0 [] (by simp) (by omega) (by simp) ad ys.length c news (by rw [nl, his]) (hread hy0) (by omega) hyl (by omega) (by rw [Nat.zero_add, hib]; exact hb)
      simp only [Nat.zero_add] at hrun hcap
      rw [show (([] : List Value).toArray ++ news.toArray) = news.toArray by simp] at hrun
      have hzc := size_zeroCells z.cells (cap - ys.length)
      have hmulc : (cap - ys.length) * te.size + ys.length * te.size = cap * te.size := by rw [← Nat.add_mul]; congr 1; omega
      obtain ⟨G', hr, ha⟩ := h.grown M.keys hd e te.size cap ys f news S' (news.toArray ++ Builtin.zeroCells z.cells (cap - ys.length))
        (by rw [Array.size_append, List.size_toArray, hzc, hzs, nl]; omega) (fun j v hj => by
          rw [Array.getElem?_append_left (by
            have : j < news.length := by
              rcases Nat.lt_or_ge j news.length with h | h
              · exact h
              · rw [List.getElem?_eq_none h] at hj; cases hj
            simpa using this)]
          simpa using hj) hcap hmax nl n1 nu nt nno nown
      exact ⟨_, _, G', hrun, hr, ha⟩
    | r k sz0 xs0 dp0 fz0 ve0 sad hk0 ha0 =>
      simp only at hm
      split at hm
      case h_2 => cases hm
      rename_i sz xs dp ve hk1
      have hk : s.heap k = some (.row sz xs dp false ve) := by
        rcases M.keys k with e' | ⟨_, e'⟩
        · rw [← e']; exact hk1
        · rw [e'] at hk1; cases hk1
      have hsame : sz0 = sz ∧ xs0 = xs := by rw [hk] at hk0; cases hk0; exact ⟨rfl, rfl⟩
      obtain ⟨rfl, rfl⟩ := hsame
      split at hm
      case isFalse => cases hm
      rename_i hc
      obtain ⟨rfl, hb, hle, hpos⟩ := hc
      split at hm
      case h_2 => cases hm
      rename_i hd
      simp only [Option.some.injEq, Prod.mk.injEq] at hm
      obtain ⟨rfl, rfl⟩ := hm
      have h1 : RelG B G { s with heap := H1 } a w := M.rel
      have hR : RowR w (Ban B.F G H1) (G k) te.size xs0 dp false := h1.obj k _ hk1
      have hvoid := hR.void
      obtain ⟨hcells, r2, r3, r4, r5, r6, r7, r8, r9, r10⟩ := hR
      have hne1 : H1 k ≠ none := by rw [hk1]; simp
      have hkd' : k ≠ dst := fun e' => by subst e'; rw [hk1] at hd; cases hd
      have hH2 : (upd H1 k (some .dead)) dst = none := by rw [upd_ne _ _ (Ne.symm hkd')]; exact hd
      have hkeys2 : ∀ j, (upd H1 k (some .dead)) j = s.heap j ∨ (s.heap j ≠ none ∧ (upd H1 k (some .dead)) j = some .dead) := by
        intro j
        by_cases e' : j = k
        · subst e'; exact .inr ⟨by rw [hk]; simp, upd_same ..⟩
        · rw [upd_ne _ _ e']; exact M.keys j
      have hsubc : ∀ b ∈ (G k).sub, (G k).cap ≠ 0 := fun b hb hc => by rw [(hvoid hc).2.2] at hb; simp at hb
      have hsubk : (G k).cap ≠ 0 → (G k).blk ∉ (G k).sub := by
        intro hc
        cases hdp : dp with
        | true =>
          have := h1.nodup k
          simp only [hk1, hdp, ownOf, if_true, hc, if_false] at this
          exact (List.nodup_cons.1 this).1
        | false => exact fun hb => r9 (.inl hdp) _ hb (.inl ⟨k, by rw [hk1]; simp [ownOf, hc]⟩)
      have hblkS : (G k).cap ≠ 0 → (G k).blk ∉ S' := fun hc hb => nno _ hb (.inl ⟨k, by rw [hk1]; simp [ownOf, hc]⟩)
      have t1 := r7
      have t2 : ∀ b ∈ (G k).sub, b ∈ (G k).sub := fun _ hb => hb
      have t3 : (G k).sub.Nodup → (G k).sub.Nodup := fun hb => hb
      have holdl : (G k).vs.length = xs0.length * te.size := r4
      have hxl : (xs0 ++ ys).length = xs0.length + ys.length := by rw [List.length_append]
      have htr : TrL w (dp && f) ((G k).vs ++ news) (xs0 ++ ys).flatten ((G k).sub ++ S') := by
        rw [List.flatten_append]
        by_cases hdf : (dp && f) = true
        · rw [hdf]
          simp at hdf
          rw [hdf.1] at t1
          rw [hdf.2] at nt
          exact t1.append nt
        · rw [Bool.not_eq_true] at hdf
          rw [hdf]
          exact t1.shared.append nt.shared
      have hown2 : ∀ b, Ban B.F G (upd H1 k (some .dead)) b → Ban B.F G H1 b ∧ ((G k).cap ≠ 0 → b ≠ (G k).blk) ∧ (dp = true → b ∉ (G k).sub) := by
        rintro b (⟨j, hj⟩ | hf)
        case inr =>
          have key : b ∈ ownOf (G k) (H1 k) → False := fun hm => h1.noF hm hf
          rw [hk1] at key
          exact ⟨.inr hf, fun hc e2 => key (by rw [e2]; simp [ownOf, hc]), fun hdp hb => key (by rw [hdp]; simp [ownOf, hsubc b hb, hb])⟩
        by_cases e' : j = k
        · subst e'; rw [upd_same] at hj; simp [ownOf] at hj
        · rw [upd_ne _ _ e'] at hj
          refine ⟨.inl ⟨j, hj⟩, fun hc e2 => e' ?_, fun hdp hb => e' ?_⟩
          · exact h1.disj j k b hj (by show b ∈ ownOf (G k) (H1 k); rw [hk1, e2]; simp [ownOf, hc])
          · exact h1.disj j k b hj (by show b ∈ ownOf (G k) (H1 k); rw [hk1, hdp]; simp [ownOf, hsubc b hb, hb])
      have hno2 : ∀ b ∈ (G k).sub ++ S', ¬ Ban B.F G (upd H1 k (some .dead)) b := by
        intro b hb hn
        obtain ⟨o1, o2, o3⟩ := hown2 b hn
        rcases List.mem_append.1 hb with hb | hb
        · cases hdp : dp with
          | true => exact o3 hdp (t2 b hb)
          | false => exact r9 (.inl hdp) b (t2 b hb) o1
        · exact nno b hb o1
      have hdeep : (dp && f) = true → ((G k).sub ++ S').Nodup ∧ ∀ b ∈ (G k).sub ++ S', Own G s.heap b := by
        intro hdf
        simp at hdf
        obtain ⟨m1, m2⟩ := nown hdf.2
        refine ⟨List.nodup_append.2 ⟨t3 (r8 hdf.1), m1, fun p hp q hq e' => ?_⟩, fun b hb => ?_⟩
        · subst e'
          exact nno p hq (.inl ⟨k, by rw [hk1, hdf.1]; simp [ownOf, hsubc p hp, hp]⟩)
        · rcases List.mem_append.1 hb with hb | hb
          · exact ⟨k, by rw [hk, hdf.1]; simp [ownOf, hsubc b hb, hb]⟩
          · exact m2 b hb
      have huni : ∀ q ∈ xs0 ++ ys, q.length = te.size := by
        intro q hq
        rcases List.mem_append.1 hq with hq | hq
        · exact r6 q (hq)
        · exact nu q hq
      have hone : ∀ u ∈ (G k).vs ++ news, u.oneCell' = true := by
        intro u hu
        rcases List.mem_append.1 hu with hu | hu
        · exact r5 u (hu)
        · exact n1 u hu
      have hvl : ((G k).vs ++ news).length = (xs0 ++ ys).length * te.size := by
        rw [List.length_append, holdl, nl, hxl, Nat.add_mul]
      have hcm : (xs0.length + ys.length) * te.size = xs0.length * te.size + ys.length * te.size := Nat.add_mul ..
      have hx1 : xs0.length * te.size ≤ (G k).cap * te.size := Nat.mul_le_mul_right _ r2
      by_cases hvd : (G k).cap = 0 ∧ ys.length = 0
      · obtain ⟨hc0, hy0⟩ := hvd
        have hxn : xs0 ++ ys = [] := List.eq_nil_of_length_eq_zero (by rw [hxl]; omega)
        have hx0 : xs0.length = 0 := by omega
        let gi : GI := { blk := 0, off := 0, cap := 0, vs := [], sub := [] }
        have hrun := run_append_none (P := P) (w := w) ty ty' e i hu hi sad xs0.length (G k).cap ad c (by omega)
        rw [hxn]
        refine ⟨.slice sad xs0.length (G k).cap, w, upd G dst gi, by rw [hy0]; exact hrun, h.putRow (w' := w) hkeys2 hH2 gi te.size [] (dp && f) 0 (.refl w) (fun _ _ _ => rfl) (by simp [ownOf, gi]) (by simp [ownOf, gi]) (RowR.mkVoid ..), ?_⟩
        have := AVR.r (w := w) (G := upd G dst gi) (H := upd (upd H1 k (some .dead)) dst (some (.row te.size [] (dp && f) false 0))) (Av := Ban B.F (upd G dst gi) (upd (upd H1 k (some .dead)) dst (some (.row te.size [] (dp && f) false 0)))) dst te.size [] (dp && f) false 0 sad (upd_same ..) (fun hlt => by
          rw [upd_same] at hlt
          exact absurd hlt (Nat.lt_irrefl 0))
        rw [upd_same] at this
        rw [hx0, hc0]
        exact this
      by_cases hroom : xs0.length + ys.length ≤ (G k).cap
      · -- in place
        have hc0 : (G k).cap ≠ 0 := by omega
        obtain ⟨cur, el, hg, hcap, hvs⟩ := hcells (by omega)
        have hsubk := hsubk hc0
        have hblkS := hblkS hc0
        let gi : GI := { blk := (G k).blk, off := (G k).off, cap := (G k).cap, vs := (G k).vs ++ news, sub := (G k).sub ++ S' }
        have hrm : (xs0.length + ys.length) * te.size ≤ (G k).cap * te.size := Nat.mul_le_mul_right _ hroom
        have hgiS : (G k).blk ∉ (G k).sub ++ S' := fun hb => by
          rcases List.mem_append.1 hb with hb | hb
          · exact hsubk (t2 _ hb)
          · exact hblkS hb
        -- the world behind
        obtain ⟨w', hrun, hrest, hsame', cur', hcur', hcl, hseg⟩ : ∃ w', (Builtin.append_ #[ty, ty] ty' #[.slice sad xs0.length (G k).cap, .slice ad ys.length c]).run P w = .ok (.slice sad (xs0.length + ys.length) (G k).cap) w' ∧ Rest w w' ∧
            (∀ b, b ≠ (G k).blk → w'.heap[b]? = w.heap[b]?) ∧ ∃ cur', w'.heap[(G k).blk]? = some (.cells cur' el (0, 0)) ∧ cur'.size = cur.size ∧
            ∀ j v, ((G k).vs ++ news)[j]? = some v → cur'[(G k).off + j]? = some v := by
          rcases Nat.eq_zero_or_pos ys.length with h0 | h0
          · have hnews : news = [] := List.eq_nil_of_length_eq_zero (by rw [nl, h0, Nat.zero_mul])
            refine ⟨w, ?_, .refl w, fun _ _ => rfl, cur, hg, rfl, ?_⟩
            · rw [h0]; exact run_append_none ty ty' e i hu hi sad xs0.length _ ad c (by omega)
            · intro j v hj
              rw [hnews, List.append_nil] at hj
              exact hvs _ _ hj
          · have hlt : 0 < (G k).cap := by omega
            have hyne : ys ≠ [] := fun e' => by rw [e'] at h0; simp at h0
            have hfit : (G k).off + xs0.length * te.size + news.length ≤ cur.size := by rw [nl]; omega
            have hrun := run_append_room_at (P := P) (w := w) ty ty' e i hu hi (G k).blk ((G k).off) xs0.length (G k).cap cur el hg ad ys.length c news (by rw [nl, his]) (hread hyne) n1 hroom (by rw [his]; exact hfit)
            rw [his] at hrun
            rw [ha0 hlt]
            refine ⟨_, hrun, rest_setRow .., fun b hb => setRow_other w _ _ _ hb, _, setRow_heap w _ _ _ _ _ hg, ?_, ?_⟩
            · simp only [List.size_toArray, List.length_append, List.length_take, List.length_drop, Array.length_toList]
              omega
            · intro j v hj
              simp only [List.getElem?_toArray]
              have e1 : (List.take ((G k).off + xs0.length * te.size) cur.toList).length = (G k).off + xs0.length * te.size := by rw [List.length_take, show cur.toList.length = cur.size from Array.length_toList]; omega
              rw [List.append_assoc]
              by_cases hjl : j < xs0.length * te.size
              · rw [List.getElem?_append_left (by omega)] at hj
                rw [List.getElem?_append_left (by omega), List.getElem?_take_of_lt (by omega)]
                simpa using hvs _ _ hj
              · rw [List.getElem?_append_right (by omega), holdl] at hj
                have hjn : j - xs0.length * te.size < news.length := by
                  rcases Nat.lt_or_ge (j - xs0.length * te.size) news.length with h' | h'
                  · exact h'
                  · rw [List.getElem?_eq_none h'] at hj; cases hj
                rw [List.getElem?_append_right (by omega), e1, List.getElem?_append_left (by omega), show (G k).off + j - ((G k).off + xs0.length * te.size) = j - xs0.length * te.size by omega]
                exact hj
        refine ⟨_, w', upd G dst gi, hrun, ?_, ?_⟩
        · refine h.putRow hkeys2 hH2 gi te.size (xs0 ++ ys) (dp && f) 0 hrest ?_ ?_ ?_ ?_
          · intro b hb hn
            refine hsame' b fun e' => hn k (by rw [upd_same, hk]; simp) ?_
            rw [hk, e']
            simp [ownOf, hc0]
          · intro b hb
            have hbk : b = (G k).blk → ∃ j, (upd H1 k (some .dead)) j ≠ s.heap j ∧ b ∈ ownOf (G j) (s.heap j) := fun e' => ⟨k, by rw [upd_same, hk]; simp, by rw [hk, e']; simp [ownOf, hc0]⟩
            by_cases hdf : (dp && f) = true
            · rw [hdf] at hb
              simp only [ownOf, if_true, gi, hc0, if_false, List.mem_cons] at hb
              rcases hb with hb | hb
              · exact .inl (hbk hb)
              · obtain ⟨j, hj⟩ := (hdeep hdf).2 b hb
                exact .inl ⟨j, fun e' => hno2 b hb (.inl ⟨j, by rw [e']; exact hj⟩), hj⟩
            · rw [Bool.not_eq_true] at hdf
              rw [hdf] at hb
              simp only [ownOf, Bool.false_eq_true, if_false, gi, hc0, List.mem_cons, List.not_mem_nil, or_false] at hb
              exact .inl (hbk hb)
          · by_cases hdf : (dp && f) = true
            · rw [hdf]
              simp only [ownOf, if_true, gi, hc0, if_false]
              exact List.nodup_cons.2 ⟨hgiS, (hdeep hdf).1⟩
            · rw [Bool.not_eq_true] at hdf
              rw [hdf]
              simp [ownOf, gi, hc0]
          · refine ⟨fun _ => ⟨cur', el, hcur', ?_, hseg⟩, ?_, by simp only [gi]; omega, hvl, hone, huni, htr.keep fun b hb => hsame' b fun e' => hgiS (e' ▸ hb), fun hdf => (hdeep hdf).1, ?_, by simp⟩
            · simp only [gi]; omega
            · rw [hxl]; exact hroom
            · intro hdf b hb hn
              rcases own_put hn with hn | hn
              · exact hno2 b hb hn
              · have hdf' : (dp && f) = false := by simpa using hdf
                rw [hdf'] at hn
                simp only [ownOf, Bool.false_eq_true, if_false, gi, hc0, List.mem_cons, List.not_mem_nil, or_false] at hn
                subst hn
                exact hgiS hb
        · have := AVR.r (w := w') (G := upd G dst gi) (H := upd (upd H1 k (some .dead)) dst (some (.row te.size (xs0 ++ ys) (dp && f) false 0))) (Av := Ban B.F (upd G dst gi) (upd (upd H1 k (some .dead)) dst (some (.row te.size (xs0 ++ ys) (dp && f) false 0)))) dst te.size (xs0 ++ ys) (dp && f) false 0 sad (upd_same ..) (fun hlt => by
            rw [upd_same] at hlt ⊢
            simp only [gi] at hlt ⊢
            exact ha0 hlt)
          rw [upd_same, hxl] at this
          exact this
      · -- a new row
        have hy0 : 0 < ys.length := by omega
        have hyne : ys ≠ [] := fun e' => by rw [e'] at hy0; simp at hy0
        obtain ⟨cap, hcap', hmax, hrun⟩ := run_append_more (P := P) (w := w) ty ty' e i z hu hi hiz sad xs0.length (G k).cap (G k).vs (by rw [holdl, his]) (fun h0 => ⟨_, ha0 (Nat.lt_of_lt_of_le h0 r2), fun j v hj => by
            obtain ⟨cur, el, hg, hcap, hvs⟩ := hcells (Nat.lt_of_lt_of_le h0 r2)
            rw [add_at, cell_at hg]
            exact hvs _ _ hj⟩) (fun hn => by
              have : ¬ 0 < (G k).cap := fun hlt => by rw [ha0 hlt] at hn; cases hn
              omega) ad ys.length c news (by rw [nl, his]) (hread hyne) (by omega) hy0 hle (by rw [hib]; exact hb)
        have hzc := size_zeroCells z.cells (cap - (xs0.length + ys.length))
        have hmulc : (cap - (xs0.length + ys.length)) * te.size + (xs0.length + ys.length) * te.size = cap * te.size := by rw [← Nat.add_mul]; congr 1; omega
        obtain ⟨G', hr, ha⟩ := h.grown hkeys2 hH2 e te.size cap (xs0 ++ ys) (dp && f) ((G k).vs ++ news) ((G k).sub ++ S') ((G k).vs.toArray ++ news.toArray ++ Builtin.zeroCells z.cells (cap - (xs0.length + ys.length)))
          (by rw [Array.size_append, Array.size_append, List.size_toArray, List.size_toArray, hzc, hzs, holdl, nl]; omega) (fun j v hj => by
            have hjl : j < ((G k).vs ++ news).length := by
              rcases Nat.lt_or_ge j ((G k).vs ++ news).length with h' | h'
              · exact h'
              · rw [List.getElem?_eq_none h'] at hj; cases hj
            rw [Array.getElem?_append_left (by simpa using hjl)]
            simpa using hj) (by rw [hxl]; exact hcap') hmax hvl hone huni htr hno2 hdeep
        rw [hxl] at ha
        exact ⟨_, _, G', hrun, hr, ha⟩
    | rd k v hk0 =>
      simp only at hm
      split at hm
      case h_2 => cases hm
      rename_i sz xs dp ve hk1
      rcases M.keys k with e' | ⟨_, e'⟩
      · rw [e', hk0] at hk1; cases hk1
      · rw [e'] at hk1; cases hk1
    | _ => simp_all
  | _ => rw [hkd] at hm; simp at hm
end rel
end Go.Fs
namespace Go.Fs
open Go.RowKit

theorem TrL.at {w : World} {own : Bool} : ∀ {vs : List Value} {ds : List D} {S : List Nat}, TrL w own vs ds S → ∀ {j : Nat} {d : D}, ds[j]? = some d → ∃ v S1 Sm S2, vs[j]? = some v ∧ Tr w own v d Sm ∧ S = S1 ++ (Sm ++ S2) ∧
    ∀ {w' : World} {d' : D} {Si : List Nat}, Tr w' own v d' Si → (∀ b, b ∈ S1 ∨ b ∈ S2 → w'.heap[b]? = w.heap[b]?) → TrL w' own vs (ds.set j d') (S1 ++ (Si ++ S2))
  | _, _, _, .nil, j, d, h => by simp at h
  | _, _, _, .cons v d0 S vs ds Ss h hs, 0, d, e => by
    obtain rfl : d0 = d := by simpa using e
    refine ⟨v, [], S, Ss, rfl, h, rfl, fun {w' d' Si} h' hk => ?_⟩
    show TrL w' own (v :: vs) (d' :: ds) (Si ++ Ss)
    exact .cons _ _ _ _ _ _ h' (hs.keep fun b hb => hk b (.inr hb))
  | _, _, _, .cons v d0 S vs ds Ss h hs, j + 1, d, e => by
    obtain ⟨u, S1, Sm, S2, e1, e2, e3, e4⟩ := hs.at (j := j) (by simpa using e)
    refine ⟨u, S ++ S1, Sm, S2, by simpa using e1, e2, by rw [e3]; simp, fun h' hk => ?_⟩
    have := TrL.cons v d0 S vs _ _ (h.keep fun b hb => hk b (.inl (by simp [hb]))) (e4 h' fun b hb => hk b (hb.imp (fun hb => by simp [hb]) id))
    rw [List.append_assoc]
    exact this

theorem cell_get : ∀ {xs : List (List D)} {sz : Nat} (h : ∀ x ∈ xs, x.length = sz) {i o : Nat}, i < xs.length → o < sz → xs.flatten[i * sz + o]? = some ((xs.getD i []).getD o .u)
  | [], _, _, i, o, hi, _ => by simp at hi
  | x :: xs, sz, h, 0, o, hi, ho => by
    have := h x (by simp)
    simp [List.getElem?_append_left (show o < x.length by omega), List.getElem?_eq_getElem (show o < x.length by omega)]
  | x :: xs, sz, h, i + 1, o, hi, ho => by
    have hx := h x (by simp)
    have := cell_get (xs := xs) (fun y hy => h y (by simp [hy])) (i := i) (by simpa using hi) ho
    rw [List.flatten_cons, List.getElem?_append_right (by rw [hx, Nat.succ_mul]; omega)]
    have e : (i + 1) * sz + o - x.length = i * sz + o := by rw [hx, Nat.succ_mul]; omega
    rw [e, this]
    simp

def setCell (xs : List (List D)) (i o : Nat) (y : D) : List (List D) := xs.set i ((xs.getD i []).set o y)

theorem setCell_flat : ∀ {xs : List (List D)} {sz : Nat} (h : ∀ x ∈ xs, x.length = sz) {i o : Nat} (y : D), i < xs.length → o < sz → (setCell xs i o y).flatten = xs.flatten.set (i * sz + o) y
  | [], _, _, i, o, y, hi, _ => by simp at hi
  | x :: xs, sz, h, 0, o, y, hi, ho => by
    have := h x (by simp)
    simp [setCell, List.set_append_left o y (show o < x.length by omega)]
  | x :: xs, sz, h, i + 1, o, y, hi, ho => by
    have hx := h x (by simp)
    have := setCell_flat (xs := xs) (fun y hy => h y (by simp [hy])) (i := i) y (by simpa using hi) ho
    rw [List.flatten_cons, List.set_append_right _ _ (by rw [hx, Nat.succ_mul]; omega)]
    have e : (i + 1) * sz + o - x.length = i * sz + o := by rw [hx, Nat.succ_mul]; omega
    rw [e, ← this]
    simp [setCell]

theorem setCell_len (xs : List (List D)) (i o : Nat) (y : D) : (setCell xs i o y).length = xs.length := by simp [setCell]
theorem setCell_uni {xs : List (List D)} {sz : Nat} (h : ∀ x ∈ xs, x.length = sz) {i : Nat} (hi : i < xs.length) (o : Nat) (y : D) : ∀ x ∈ setCell xs i o y, x.length = sz := by
  intro x hx
  rcases List.mem_or_eq_of_mem_set hx with hx | rfl
  · exact h x hx
  · rw [List.length_set]
    have : xs.getD i [] = xs[i] := by simp [List.getElem?_eq_getElem hi]
    rw [this]
    exact h _ (List.getElem_mem hi)


/-- Taken out, to be grown: the row keeps a hole. -/
def takeD (H : Nat → Option Ob) (k k' sz ve i o : Nat) (xs : List (List D)) (cs : List D) : D → Option (AV × (Nat → Option Ob))
  | .l z ys => some (.r k', upd (upd H k (some (.row sz (xs.set i (cs.set o .u)) true false (ve + 1)))) k' (some (.row z ys true false 0)))
  | _ => none
def takeC (H : Nat → Option Ob) (k k' sz ve i o : Nat) (xs : List (List D)) (cs : List D) : Option (AV × (Nat → Option Ob)) := (cs[o]?).bind (takeD H k k' sz ve i o xs cs)
def takeM (H : Nat → Option Ob) (k' : Nat) : AV → Option (AV × (Nat → Option Ob))
  | .m k ve i o => match H k with
    | some (.row sz xs true false ve') => if ve = ve' ∧ o < sz then match H k' with
      | none => (xs[i]?).bind (takeC H k k' sz ve i o xs)
      | some _ => none else none
    | _ => demote H (.m k ve i o)
  | av => demote H av

section rel
variable {P : Program} {T : Tab} {B : Ctx} {G : Nat → GI} {s : St} {a : Act} {w : World}
theorem takeM_ok (h : RelG B G s a w) {v : Value} {x : AV} (hx : AVR w G s.heap (Ban B.F G s.heap) v x) {k' : Nat} {x' : AV} {H1 : Nat → Option Ob} (hm : takeM s.heap k' x = some (x', H1)) :
    ∃ G', RelG B G' { s with heap := H1 } a w ∧ AVR w G' H1 (Ban B.F G' H1) v x' ∧ ∀ {u : Value} {av : AV}, AVR w G s.heap (Ban B.F G s.heap) u av → AVR w G' H1 (Ban B.F G' H1) u av := by
  have dem : demote s.heap x = some (x', H1) → ∃ G', RelG B G' { s with heap := H1 } a w ∧ AVR w G' H1 (Ban B.F G' H1) v x' ∧ ∀ {u : Value} {av : AV}, AVR w G s.heap (Ban B.F G s.heap) u av → AVR w G' H1 (Ban B.F G' H1) u av := fun hd => by
    obtain ⟨e1, v1⟩ := demote_ok h hx hd
    exact ⟨G, e1.rel, v1, fun hv => e1.avr hv⟩
  unfold takeM at hm
  split at hm
  case h_2 => exact dem hm
  rename_i k ve i o
  split at hm
  case h_2 => exact dem hm
  rename_i sz xs ve' hk
  split at hm
  case isFalse => cases hm
  rename_i hc
  obtain ⟨rfl, ho⟩ := hc
  split at hm
  case h_2 => cases hm
  rename_i hn
  obtain ⟨cs, hcs, hm⟩ := Option.bind_eq_some_iff.1 hm
  obtain ⟨d, hd, hm⟩ := Option.bind_eq_some_iff.1 hm
  unfold takeD at hm
  split at hm
  case h_2 => cases hm
  rename_i z ys
  simp only [Option.some.injEq, Prod.mk.injEq] at hm
  obtain ⟨rfl, rfl⟩ := hm
  have hi : i < xs.length := (List.getElem?_eq_some_iff.1 hcs).1
  have hgd : xs.getD i [] = cs := by rw [List.getD_eq_getElem?_getD, hcs]; rfl
  have hset : xs.set i (cs.set o .u) = setCell xs i o .u := by unfold setCell; rw [hgd]
  rw [hset]
  have hrow : RowR w (Ban B.F G s.heap) (G k) sz xs true false := h.obj k _ hk
  obtain ⟨c1, c2, c3, c4, c5, c6, c7, c8, c9, c10⟩ := hrow
  have hkk : k' ≠ k := fun e => by rw [e, hk] at hn; cases hn
  have hcap : (G k).cap ≠ 0 := by omega
  have hcell : xs.flatten[i * sz + o]? = some (.l z ys) := by
    have := cell_get c6 hi ho
    rw [hgd, List.getD_eq_getElem?_getD, hd] at this
    exact this
  obtain ⟨v1, S1, Sm, S2, hv, htr, hsub, hrep⟩ := c7.at hcell
  have hv1 : v1 = v ∧ v.oneCell' = true := by
    cases hx with
    | m _ _ _ sz' xs' dp fz _ _ z' ys' hk' hj hv' h1 =>
      rw [hk] at hk'; cases hk'
      rw [hv] at hv'
      exact ⟨Option.some.inj hv', h1⟩
    | mo _ _ _ sz' xs' dp fz _ ve' _ hk' hlt => rw [hk] at hk'; cases hk'; omega
    | md _ _ _ _ _ hk' => rw [hk] at hk'; cases hk'
  obtain ⟨rfl, hone⟩ := hv1
  have hnd : ((G k).blk :: (G k).sub).Nodup := by
    have := h.nodup k
    rw [hk] at this
    simpa [ownOf, hcap] using this
  rw [hsub] at hnd
  obtain ⟨gi, hgi1, hgi2, hgi3, hgi4⟩ : ∃ gi : GI, (∀ Av, RowR w Av gi z ys true false) ∧ (∃ a, v1 = .slice a ys.length gi.cap ∧ (0 < gi.cap → a = some ⟨gi.blk, gi.off, none⟩)) ∧ (∀ b ∈ ownOf gi (some (.row z ys true false 0)), b ∈ Sm) ∧ (ownOf gi (some (.row z ys true false 0))).Nodup := by
    have hnm : Sm.Nodup := (List.nodup_append.1 (List.nodup_append.1 (List.nodup_cons.1 hnd).2).2.1).1
    cases htr with
    | z a c _ hc =>
      obtain rfl := hc rfl
      exact ⟨{ blk := 0, off := 0, cap := 0, vs := [], sub := [] }, fun Av => RowR.mkVoid w Av 0 0 z true false, ⟨a, rfl, fun h => absurd h (Nat.lt_irrefl 0)⟩, fun b hb => by simp [ownOf] at hb, by simp [ownOf]⟩
    | l g o' c _ cur e fr vs _ S hg hc hm hl hv' h1 hx ho' hs =>
      have hfr := ho' rfl
      obtain ⟨n1, n2⟩ := List.nodup_cons.1 hnm
      refine ⟨{ blk := g, off := o', cap := c, vs := vs, sub := S }, fun Av => ⟨fun _ => ⟨cur, e, by rw [hg, hfr.1], hfr.2, hv'⟩, hc, hm, hl, h1, hx, hs, fun _ => n2, (fun h => by rcases h with h | h <;> cases h), (fun h => by cases h)⟩, ⟨_, rfl, fun _ => rfl⟩, fun b hb => ?_, ?_⟩
      · simp only [ownOf] at hb
        split at hb
        · cases hb
        · simpa using hb
      · simp only [ownOf]
        split
        · exact List.nodup_nil
        · simpa using hnm
  have hgk : ∀ Av : Nat → Prop, RowR w Av { G k with sub := S1 ++ S2 } sz (setCell xs i o .u) true false := fun Av => by
    have hsl : ∃ a len cap, v1 = .slice a len cap := by
      obtain ⟨a, e, _⟩ := hgi2
      exact ⟨_, _, _, e⟩
    obtain ⟨a1, l1, cp1, hvs⟩ := hsl
    refine ⟨c1, by rw [setCell_len]; exact c2, c3, by rw [setCell_len]; exact c4, c5, setCell_uni c6 hi o .u, ?_, fun _ => ?_, (fun h => by rcases h with h | h <;> cases h), (fun h => by cases h)⟩
    · rw [setCell_flat c6 .u hi ho]
      exact hrep (w' := w) (d' := .u) (Si := []) (by rw [hvs]; exact .u a1 l1 cp1) fun b hb => rfl
    · have h1 := (List.nodup_cons.1 hnd).2
      have h2 := List.nodup_append.1 h1
      have h3 := List.nodup_append.1 h2.2.1
      exact List.nodup_append.2 ⟨h2.1, h3.2.1, fun x hx y hy => h2.2.2 x hx y (List.mem_append_right _ hy)⟩
  let G' : Nat → GI := upd (upd G k { G k with sub := S1 ++ S2 }) k' gi
  let H' : Nat → Option Ob := upd (upd s.heap k (some (.row sz (setCell xs i o .u) true false (ve + 1)))) k' (some (.row z ys true false 0))
  have g1 : G' k' = gi := upd_same ..
  have g2 : G' k = { G k with sub := S1 ++ S2 } := by show upd _ k' gi k = _; rw [upd_ne _ _ hkk.symm, upd_same]
  have g3 : ∀ j, j ≠ k' → j ≠ k → G' j = G j := fun j h1 h2 => by show upd _ k' gi j = _; rw [upd_ne _ _ h1, upd_ne _ _ h2]
  have e1 : H' k' = some (.row z ys true false 0) := upd_same ..
  have e2 : H' k = some (.row sz (setCell xs i o .u) true false (ve + 1)) := by show upd _ k' _ k = _; rw [upd_ne _ _ hkk.symm, upd_same]
  have e3 : ∀ j, j ≠ k' → j ≠ k → H' j = s.heap j := fun j h1 h2 => by show upd _ k' _ j = _; rw [upd_ne _ _ h1, upd_ne _ _ h2]
  have ownk : ∀ b, b ∈ ownOf (G k) (s.heap k) ↔ b = (G k).blk ∨ b ∈ S1 ∨ b ∈ Sm ∨ b ∈ S2 := fun b => by rw [hk]; simp [ownOf, hcap, hsub]
  have ownk1 : ∀ b, b ∈ ownOf (G' k) (H' k) ↔ b = (G k).blk ∨ b ∈ S1 ∨ b ∈ S2 := fun b => by rw [g2, e2]; simp [ownOf, hcap]
  have own2 : ∀ j, j = k ∨ j = k' → ∀ b ∈ ownOf (G' j) (H' j), b ∈ ownOf (G k) (s.heap k) := by
    rintro j (rfl | rfl) b hb
    · rw [ownk]
      rcases (ownk1 b).1 hb with h1 | h1 | h1
      · exact .inl h1
      · exact .inr (.inl h1)
      · exact .inr (.inr (.inr h1))
    · rw [g1, e1] at hb
      rw [ownk]
      exact .inr (.inr (.inl (hgi3 b hb)))
  have hT : ∀ j ob, (j = k ∨ j = k') → s.heap j = some ob → ∃ ob', H' j = some ob' ∧ Ob.to (G j) (G' j) ob ob' := by
    rintro j ob (rfl | rfl) hob
    · rw [hk] at hob; cases hob
      refine ⟨_, e2, ?_⟩
      rw [g2]
      exact .row _ _ _ _ _ _ _ _ _ (setCell_len ..) rfl rfl rfl (.inl (Nat.lt_succ_self _))
    · rw [hn] at hob; cases hob
  have hother : ∀ j, ¬ (j = k ∨ j = k') → H' j = s.heap j ∧ G' j = G j := fun j hj => ⟨e3 j (fun e => hj (.inr e)) (fun e => hj (.inl e)), g3 j (fun e => hj (.inr e)) (fun e => hj (.inl e))⟩
  have hrel : RelG B G' { s with heap := H' } a w := by
    refine h.step (w' := w) (G' := G') H' (fun j => j = k ∨ j = k') (.refl w) (fun _ _ _ => rfl) hother hT (fun j hj b hb => .inl ⟨k, .inl rfl, own2 j hj b hb⟩) ?_ ?_ ?_
    · rintro j (rfl | rfl)
      · have := (hgk (fun _ => False)).nodup rfl
        rw [g2, e2]
        simp only [ownOf, hcap, if_false, if_true]
        refine List.nodup_cons.2 ⟨fun hb => (List.nodup_cons.1 hnd).1 ?_, this⟩
        rcases List.mem_append.1 hb with hb | hb
        · simp [hb]
        · simp [hb]
      · rw [g1, e1]; exact hgi4
    · have hdj : ∀ b, b ∈ ownOf (G' k) (H' k) → b ∉ ownOf (G' k') (H' k') := fun b hb hb' => by
        rw [g1, e1] at hb'
        have hb' := hgi3 b hb'
        have n0 := List.nodup_cons.1 hnd
        have n1 := List.nodup_append.1 n0.2
        have n2 := List.nodup_append.1 n1.2.1
        rcases (ownk1 b).1 hb with h1 | h1 | h1
        · subst h1; exact n0.1 (by simp [hb'])
        · exact n1.2.2 b h1 b (by simp [hb']) rfl
        · exact n2.2.2 b hb' b h1 rfl
      rintro j j' (rfl | rfl) (rfl | rfl) b hb hb'
      · rfl
      · exact absurd hb' (hdj b hb)
      · exact absurd hb (hdj b hb')
      · rfl
    · rintro j ob (rfl | rfl) hob
      · rw [e2] at hob; cases hob; rw [g2]; exact hgk _
      · rw [e1] at hob; cases hob; rw [g1]; exact hgi1 _
  have mono : ∀ {u : Value} {av : AV}, AVR w G s.heap (Ban B.F G s.heap) u av → AVR w G' H' (Ban B.F G' H') u av := by
    refine (AVR.mono_both (w := w) (w' := w) (fun _ _ _ => rfl) ?_ ?_).1
    · rintro b _ (⟨j, hj⟩ | hf)
      · by_cases hjk : j = k ∨ j = k'
        · exact .inl ⟨k, own2 j hjk b hj⟩
        · obtain ⟨q1, q2⟩ := hother j hjk
          rw [q1, q2] at hj
          exact .inl ⟨j, hj⟩
      · exact .inr hf
    · intro j ob hob
      by_cases hjk : j = k ∨ j = k'
      · exact hT j ob hjk hob
      · obtain ⟨q1, q2⟩ := hother j hjk
        exact ⟨ob, q1.trans hob, q2 ▸ Ob.to.refl _ _⟩
  refine ⟨G', hrel, ?_, mono⟩
  obtain ⟨a2, q1, q2⟩ := hgi2
  rw [q1]
  have := AVR.r (w := w) (G := G') (H := H') (Av := Ban B.F G' H') k' z ys true false 0 a2 e1 (by rw [g1]; exact q2)
  rw [g1] at this
  exact this
end rel
end Go.Fs
