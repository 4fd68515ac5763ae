/- A part of the proof: an evaluator of the program's code over plain data, proved sound, or a function's walk by it. No conditions beyond those in the theorems. -/
import Derived.Test.YtbgbnmghhmfihaaFsJ
set_option linter.unusedVariables false
set_option linter.constructorNameAsVariable false
namespace Go.Fs
open Go.RowKit

section rel
variable {P : Program} {T : Tab} {B : Ctx} {G : Nat → GI} {s : St} {a : Act} {w w' : World}

/-! ### literals -/
def chunk (sz : Nat) : Nat → List D → List (List D)
  | 0, _ => []
  | n + 1, ds => ds.take sz :: chunk sz n (ds.drop sz)

theorem chunk_flat (sz : Nat) : ∀ (n : Nat) (ds : List D), ds.length = n * sz → (chunk sz n ds).flatten = ds ∧ (chunk sz n ds).length = n ∧ ∀ x ∈ chunk sz n ds, x.length = sz
  | 0, ds, h => by
    have : ds = [] := List.eq_nil_of_length_eq_zero (by simpa using h)
    subst this
    simp [chunk]
  | n + 1, ds, h => by
    rw [Nat.succ_mul] at h
    obtain ⟨h1, h2, h3⟩ := chunk_flat sz n (ds.drop sz) (by rw [List.length_drop]; omega)
    refine ⟨by simp [chunk, h1], by simp [chunk, h2], ?_⟩
    intro x hx
    simp only [chunk, List.mem_cons] at hx
    rcases hx with rfl | hx
    · rw [List.length_take]; omega
    · exact h3 x hx

def opBuildSlice (T : Tab) (H : Nat → Option Ob) (dst : Nat) (ty : TypeId) (len : Nat) (parts : List (Nat × AV)) : Option (AV × (Nat → Option Ob)) :=
  (T.ti ty).bind fun ti => match ti.kind with
  | .slice e => (T.ti e).bind fun te =>
    if parts.map (·.1) = List.range len ∧ (len * te.size ≤ 16777216 ∧ 0 < te.size) ∧ (parts.all fun x => (cellsA x.2).all (oneA H) && ((cellsA x.2).length == te.size)) = true then
      (moveCs H (parts.flatMap fun x => cellsA x.2)).bind fun m => match m.2.2 dst with
        | none => some (.r dst, upd m.2.2 dst (some (.row te.size (chunk te.size len m.1) m.2.1 false 0)))
        | _ => none
    else none
  | _ => none

theorem fill_seq (size : Nat) : ∀ (vals : List (Nat × Value)) (k : Nat) (cv : Array Value), vals.map (·.1) = List.range' k vals.length → (∀ x ∈ vals, x.2.cells.size = size) → (k + vals.length) * size ≤ cv.size →
    ∃ ov, Instr.fill (fun i => some (i * size, size)) cv vals = some ov ∧ ov.toList = cv.toList.take (k * size) ++ (vals.flatMap fun x => x.2.cells.toList) ++ cv.toList.drop ((k + vals.length) * size)
  | [], k, cv, _, _, _ => ⟨cv, rfl, by simp⟩
  | (i, v) :: vals, k, cv, hi, hs, hc => by
    simp only [List.map_cons, List.length_cons, List.range'_succ, List.cons.injEq] at hi
    obtain ⟨rfl, hi⟩ := hi
    simp only [List.length_cons] at hc
    have hv : v.cells.size = size := hs (i, v) (by simp)
    have hvl : v.cells.toList.length = size := by simpa using hv
    have h1 : (i + 1) * size ≤ (i + (vals.length + 1)) * size := Nat.mul_le_mul_right _ (by omega)
    have h2 : (i + 1) * size = i * size + size := Nat.succ_mul ..
    have hsp := fold_splice (i * size) v.cells.toList 0 cv (by rw [hvl]; omega)
    rw [Nat.add_zero, hvl] at hsp
    have hfold : v.cells.zipIdx.foldl (fun cs (x : Value × Nat) => cs.setIfInBounds (i * size + x.2) x.1) cv = (v.cells.toList.zipIdx 0).foldl (fun cs (x : Value × Nat) => cs.setIfInBounds (i * size + x.2) x.1) cv := by
      rw [← Array.foldl_toList, Array.toList_zipIdx]
    have hnl : (v.cells.zipIdx.foldl (fun cs (x : Value × Nat) => cs.setIfInBounds (i * size + x.2) x.1) cv).toList = cv.toList.take (i * size) ++ v.cells.toList ++ cv.toList.drop (i * size + size) := by rw [hfold, hsp]
    have hns : (v.cells.zipIdx.foldl (fun cs (x : Value × Nat) => cs.setIfInBounds (i * size + x.2) x.1) cv).size = cv.size := by
      rw [← Array.length_toList, hnl]
      simp only [List.length_append, List.length_take, List.length_drop, Array.length_toList, hv]
      omega
    obtain ⟨ov, ho, hol⟩ := fill_seq size vals (i + 1) _ hi (fun x hx => hs x (by simp [hx])) (by rw [hns]; rw [show i + 1 + vals.length = i + (vals.length + 1) by omega]; exact hc)
    refine ⟨ov, ?_, ?_⟩
    · simp only [Instr.fill]
      rw [if_neg (by simp only [hv, Bool.or_eq_true, decide_eq_true_eq]; omega)]
      exact ho
    · rw [hol, hnl, h2]
      rw [List.take_append_of_le_length (by simp only [List.length_append, List.length_take, Array.length_toList, hvl]; omega)]
      rw [List.take_of_length_le (by simp only [List.length_append, List.length_take, Array.length_toList, hvl]; omega)]
      have h3 : (i + 1 + vals.length) * size = (i * size + size) + vals.length * size := by rw [Nat.add_mul, h2]
      have h4 : (i + (vals.length + 1)) * size = (i * size + size) + vals.length * size := by rw [Nat.add_mul, Nat.succ_mul]; omega
      have hpl : (cv.toList.take (i * size) ++ v.cells.toList).length = i * size + size := by simp only [List.length_append, List.length_take, Array.length_toList, hvl]; omega
      rw [h3, List.length_cons, h4, List.drop_append, List.drop_of_length_le (by rw [hpl]; omega), hpl, List.nil_append, List.drop_drop]
      rw [show i * size + size + (i * size + size + vals.length * size - (i * size + size)) = i * size + size + vals.length * size by omega]
      simp

theorem AVRL.flatMap {H : Nat → Option Ob} {Av : Nat → Prop} : ∀ {vals : List (Nat × Value)} {parts : List (Nat × AV)}, AVRL w G H Av (vals.map (·.2)) (parts.map (·.2)) → (parts.all fun x => (cellsA x.2).all (oneA H)) = true →
    AVRL w G H Av (vals.flatMap fun x => x.2.cells.toList) (parts.flatMap fun x => cellsA x.2)
  | [], [], _, _ => .nil
  | (i, v) :: vals, (j, av) :: parts, h, hall => by
    simp only [List.map_cons] at h
    simp only [List.all_cons, Bool.and_eq_true] at hall
    cases h with
    | cons _ _ _ _ h hs =>
      simp only [List.flatMap_cons]
      exact (cellsA_ok h hall.1).1.append (AVRL.flatMap hs hall.2)
  | [], _ :: _, h, _ => by cases h
  | _ :: _, [], h, _ => by cases h

theorem opBuildSlice_ok (hT : T.ok P = true) (h : RelG B G s a w) {dst : Nat} {ty : TypeId} {len : Nat} {parts : List (Nat × AV)} {vals : List (Nat × Value)} (hi : vals.map (·.1) = parts.map (·.1))
    (hv : AVRL w G s.heap (Ban B.F G s.heap) (vals.map (·.2)) (parts.map (·.2))) {av : AV} {H' : Nat → Option Ob} (hm : opBuildSlice T s.heap dst ty len parts = some (av, H')) :
    ∃ v w' G', (Instr.buildSlice ty len vals.toArray).run P w = .ok v w' ∧ RelG B G' { s with heap := H' } a w' ∧ AVR w' G' H' (Ban B.F G' H') v av := by
  simp only [opBuildSlice, Option.bind_eq_some_iff] at hm
  obtain ⟨ti, hti, hm⟩ := hm
  have hok := tiok hT hti
  cases hk : ti.kind with
  | slice e =>
    rw [hk] at hm
    simp only [Option.bind_eq_some_iff] at hm
    obtain ⟨te, hte, hm⟩ := hm
    have hoke := tiok hT hte
    split at hm
    case isFalse => cases hm
    rename_i hcond
    obtain ⟨hidx, ⟨hsmall, hpos⟩, hall⟩ := hcond
    simp only [Option.bind_eq_some_iff] at hm
    obtain ⟨⟨ds, f, H1⟩, hmv, hm⟩ := hm
    simp only at hm
    split at hm
    case h_2 => cases hm
    rename_i hd
    simp only [Option.some.injEq, Prod.mk.injEq] at hm
    obtain ⟨rfl, rfl⟩ := hm
    have hall1 : (parts.all fun x => (cellsA x.2).all (oneA s.heap)) = true := by
      rw [List.all_eq_true] at hall ⊢
      intro x hx
      have := hall x hx
      simp only [Bool.and_eq_true] at this
      exact this.1
    have hcells := hv.flatMap hall1
    obtain ⟨M, S', t', hone, n', o'⟩ := moveCs_ok h hcells hmv
    have hplen : parts.length = len := by have := congrArg List.length hidx; simpa using this
    have hvlen : vals.length = len := by have := congrArg List.length hi; simp at this; omega
    -- each part has its size
    have hsize : ∀ x ∈ vals, x.2.cells.size = te.size := by
      have key : ∀ {vals : List (Nat × Value)} {parts : List (Nat × AV)}, AVRL w G s.heap (Ban B.F G s.heap) (vals.map (·.2)) (parts.map (·.2)) →
          (parts.all fun x => (cellsA x.2).all (oneA s.heap) && ((cellsA x.2).length == te.size)) = true → ∀ x ∈ vals, x.2.cells.size = te.size := by
        intro vals
        induction vals with
        | nil => intro parts _ _ x hx; simp at hx
        | cons y vals ih =>
          intro parts hr hp x hx
          cases parts with
          | nil => cases hr
          | cons p parts =>
            simp only [List.map_cons] at hr
            simp only [List.all_cons, Bool.and_eq_true, beq_iff_eq] at hp
            cases hr with
            | cons _ _ _ _ hr hrs =>
              rcases List.mem_cons.1 hx with rfl | hx
              · have := (cellsA_ok hr hp.1.1).1.length
                rw [← Array.length_toList, this, hp.1.2]
              · exact ih hrs (by simpa [List.all_eq_true] using hp.2) x hx
      exact key hv hall
    obtain ⟨z, hz, hzz⟩ := hoke.zeroValue w
    let bcells : Array Value := (Array.range (len * te.size)).map ((if len * te.size = 0 then #[] else z.cells)[· % (if len * te.size = 0 then #[] else z.cells).size]!)
    have hbs : bcells.size = len * te.size := by simp [bcells]
    obtain ⟨ov, ho, hol⟩ := fill_seq te.size vals 0 bcells (by rw [hi, hidx, hvlen]; exact List.range_eq_range') hsize (by rw [hvlen, hbs, Nat.zero_add]; exact Nat.le_refl _)
    have hovl : ov.toList = vals.flatMap fun x => x.2.cells.toList := by
      rw [hol, Nat.zero_mul, List.take_zero, List.nil_append, hvlen, Nat.zero_add, ← hbs, ← Array.length_toList, List.drop_length, List.append_nil]
    have hdl : ds.length = len * te.size := by
      rw [← t'.length, ← hovl, hol]
      simp only [Nat.zero_mul, List.take_zero, List.nil_append, List.length_append, List.length_drop, Array.length_toList, hbs, hvlen, Nat.zero_add, Nat.sub_self, Nat.add_zero]
      rw [List.length_flatMap]
      simp only [Array.length_toList]
      have : ∀ (l : List (Nat × Value)), (∀ x ∈ l, x.2.cells.size = te.size) → (l.map fun x => x.2.cells.size).sum = l.length * te.size := by
        intro l
        induction l with
        | nil => simp
        | cons y l ih =>
          intro hl
          simp only [List.map_cons, List.sum_cons, List.length_cons]
          rw [ih fun x hx => hl x (by simp [hx]), hl y (by simp), Nat.succ_mul]
          omega
      rw [this vals hsize, hvlen]
    obtain ⟨hcf, hcl, hcu⟩ := chunk_flat te.size len ds hdl
    let gi : GI := { blk := w.heap.size, off := 0, cap := len, vs := vals.flatMap fun x => x.2.cells.toList, sub := S' }
    have hnS : w.heap.size ∉ S' := fun hb => by have := t'.lt _ hb; omega
    have hrun : (Instr.buildSlice ty len vals.toArray).run P w = .ok (.slice (some ⟨w.heap.size, 0, none⟩) len len) (w.alloc (.cells ov e)) := by
      unfold Instr.buildSlice
      simp only [Sem.run_bind, run_underlying (hok.slice hk), Result.andThen_ok, hoke.sizeOf w]
      rw [if_neg (by omega)]
      by_cases h0 : len * te.size = 0
      · simp only [h0, if_true, Sem.run_bind, Sem.run_pure, Result.andThen_ok]
        have : bcells = (Array.range 0).map ((#[] : Array Value)[· % (#[] : Array Value).size]!) := by simp [bcells, h0]
        rw [this] at ho
        simp only [ho, Sem.run_bind, run_newRow, Result.andThen_ok, Sem.run_pure]
      · simp only [h0, if_false, Sem.run_bind, hz, Sem.run_pure, Result.andThen_ok]
        have : bcells = (Array.range (len * te.size)).map (z.cells[· % z.cells.size]!) := by simp [bcells, h0]
        rw [this] at ho
        simp only [ho, Sem.run_bind, run_newRow, Result.andThen_ok, Sem.run_pure]
    refine ⟨_, _, upd G dst gi, hrun, ?_, ?_⟩
    · refine h.putRow M.keys hd gi te.size (chunk te.size len ds) f 0 (rest_alloc ..) (fun b hb _ => heap_alloc_old w _ b hb) ?_ ?_ ?_
      · intro b hb
        rcases (mem_ownRow hb).2 with rfl | ⟨rfl, hb2⟩
        · exact .inr (Nat.le_refl _)
        · obtain ⟨i, hi'⟩ := (o' rfl).2 b hb2
          exact .inl ⟨i, fun e => n' b hb2 (.inl ⟨i, by rw [e]; exact hi'⟩), hi'⟩
      · exact nodup_ownRow fun hf => ⟨hnS, (o' hf).1⟩
      · refine ⟨fun _ => ⟨ov, e, heap_alloc_new w _, ?_, ?_⟩, by rw [hcl]; exact Nat.le_refl _, ?_, ?_, hone, hcu, ?_, fun hf => (o' hf).1, ?_, by simp⟩
        · have : ov.size = len * te.size := by rw [← Array.length_toList, hovl, t'.length, hdl]
          simp only [gi]
          omega
        · intro j v hj
          have : ov.toList[j]? = some v := by rw [hovl]; exact hj
          simpa [gi] using this
        · simp only [gi, maxLen]
          have : len ≤ len * te.size := Nat.le_mul_of_pos_right _ hpos
          omega
        · rw [hcl]; show List.length _ = _; rw [t'.length, hdl]
        · show TrL _ f (vals.flatMap fun x => x.2.cells.toList) _ S'
          rw [hcf]
          exact t'.keep fun b hb => heap_alloc_old w _ b (t'.lt b hb)
        · intro hf b hb hn
          rcases own_put hn with hn | hn
          · exact n' b hb hn
          · have hf' : f = false := by simpa using hf
            have hlt := t'.lt b hb
            rcases (mem_ownRow hn).2 with rfl | ⟨e, _⟩
            · exact absurd hlt (Nat.lt_irrefl _)
            · rw [hf'] at e; cases e
    · have := AVR.r (w := w.alloc (.cells ov e)) (G := upd G dst gi) (H := upd H1 dst (some (.row te.size (chunk te.size len ds) f false 0))) (Av := Ban B.F (upd G dst gi) (upd H1 dst (some (.row te.size (chunk te.size len ds) f false 0)))) dst te.size _ f false 0 (some ⟨w.heap.size, 0, none⟩) (upd_same ..) (fun _ => by simp [upd_same, gi])
      rw [hcl] at this
      simpa [upd_same, gi] using this
  | _ => rw [hk] at hm; simp at hm
end rel
end Go.Fs
