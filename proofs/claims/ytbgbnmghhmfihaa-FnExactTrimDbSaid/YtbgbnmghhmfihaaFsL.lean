/- A part of the proof: an evaluator of the program's code over plain data, proved sound, or a function's walk by it. No conditions beyond those in the theorems. -/
import Derived.Test.YtbgbnmghhmfihaaFsK
import Derived.IntWalk
set_option linter.unusedVariables false
set_option linter.constructorNameAsVariable false
namespace Go.Fs
open Go.RowKit

def zeroD : AV → D
  | .d x => x
  | .z sz => .l sz []
  | _ => .u

def opMake (T : Tab) (H : Nat → Option Ob) (dst : Nat) (ty : TypeId) (len cap : AV) : Option (AV × (Nat → Option Ob)) :=
  (T.ti ty).bind fun ti => match ti.kind with
  | .slice e => (T.ti e).bind fun te => match len, cap with
    | .d (.i _ n), .d (.i _ m) => if n = m ∧ 0 ≤ n ∧ n * te.bytes ≤ 140737488355328 ∧ n ≤ 140737488355328 ∧ 0 < te.size then match H dst with
      | none => some (.r dst, upd H dst (some (.row te.size (List.replicate n.toNat (te.zero.map zeroD)) true false 0)))
      | _ => none else none
    | _, _ => none
  | _ => none

/-- What is appended. -/
def srcA (H : Nat → Option Ob) (sz : Nat) : AV → Option (List (List D) × Bool × (Nat → Option Ob))
  | .z _ => some ([], true, H)
  | .d (.l sz' ys) => if sz' = sz then some (ys, ys.all (·.all scal), H) else none
  | .r k => match H k with
    | some (.row sz' xs dp fz _) => if sz' = sz then
        (if xs.all (·.all scal) = true then some (xs, true, H) else some (xs, dp && !fz, if fz then H else upd H k (some .dead))) else none
    | _ => none
  | _ => none

def opAppend (T : Tab) (H : Nat → Option Ob) (dst : Nat) (ty : TypeId) (x y : AV) : Option (AV × (Nat → Option Ob)) :=
  (T.ti ty).bind fun ti => match ti.kind with
  | .slice e => (T.ti e).bind fun te => (srcA H te.size y).bind fun m => match x with
    | .z _ => if m.1.length * te.bytes ≤ 140737488355328 ∧ m.1.length ≤ 140737488355328 ∧ 0 < te.size then match m.2.2 dst with
        | none => some (.r dst, upd m.2.2 dst (some (.row te.size m.1 m.2.1 false 0)))
        | _ => none else none
    | .r k => match m.2.2 k with
      | some (.row sz xs dp false _) =>
        if sz = te.size ∧ (xs.length + m.1.length) * te.bytes ≤ 140737488355328 ∧ xs.length + m.1.length ≤ 140737488355328 ∧ 0 < te.size then match m.2.2 dst with
        | none => some (.r dst, upd (upd m.2.2 k (some .dead)) dst (some (.row te.size (xs ++ m.1) (dp && m.2.1) false 0)))
        | _ => none else none
      | _ => none
    | _ => none
  | _ => none

section rel
variable {P : Program} {T : Tab} {B : Ctx} {G : Nat → GI} {s : St} {a : Act} {w w' : World}

theorem zeroOK_tr {own : Bool} : ∀ {vs : List Value} {avs : List AV}, zeroOK vs avs = true → TrL w own vs (avs.map zeroD) []
  | [], [], _ => .nil
  | v :: vs, av :: avs, h => by
    simp only [zeroOK, Bool.and_eq_true] at h
    obtain ⟨h1, h2⟩ := h
    have key : Tr w own v (zeroD av) [] := by
      split at h1
      · rename_i a b; have : a = b := by simpa using h1
        subst this; exact .b _
      · rename_i k n k' n'
        simp at h1
        obtain ⟨rfl, rfl⟩ := h1
        exact .i _ _
      · rename_i s s'
        simp at h1
        rw [h1.1, h1.2]; exact .s _
      · exact .z _ _ _ (fun _ => rfl)
      · exact .np
      · exact .nf
      · exact .ni
      · simp at h1
    exact .cons v _ [] vs _ [] key (zeroOK_tr h2)
  | [], _ :: _, h => by simp [zeroOK] at h
  | _ :: _, [], h => by simp [zeroOK] at h

theorem TrL.replicate {own : Bool} {vs : List Value} {ds : List D} (h : TrL w own vs ds []) : ∀ n, TrL w own (List.replicate n vs).flatten (List.replicate n ds).flatten []
  | 0 => .nil
  | n + 1 => by
    simp only [List.replicate_succ, List.flatten_cons]
    exact h.append (TrL.replicate h n)

theorem zeroOK_len : ∀ {vs : List Value} {avs : List AV}, zeroOK vs avs = true → vs.length = avs.length
  | [], [], _ => rfl
  | v :: vs, av :: avs, h => by
    simp only [zeroOK, Bool.and_eq_true] at h
    simp [zeroOK_len h.2]
  | [], _ :: _, h => by simp [zeroOK] at h
  | _ :: _, [], h => by simp [zeroOK] at h

theorem range_cells (z : Array Value) (n : Nat) (hz : 0 < z.size) : ((Array.range (n * z.size)).map (z[· % z.size]!)).toList = (List.replicate n z.toList).flatten := by
  apply List.ext_getElem?
  intro i
  by_cases hi : i < n * z.size
  · have h1 : i / z.size < n := Nat.div_lt_of_lt_mul (by rw [Nat.mul_comm]; exact hi)
    have h2 : i % z.size < z.size := Nat.mod_lt _ hz
    have h3 : i = i / z.size * z.size + i % z.size := by rw [Nat.mul_comm]; exact (Nat.div_add_mod ..).symm
    have hf := flat_get (xs := List.replicate n z.toList) (sz := z.size) (by intro x hx; rw [List.eq_of_mem_replicate hx]; simp) (i := i / z.size) (j := i % z.size) (x := z.toList) (by rw [List.getElem?_replicate, if_pos h1]) h2
    rw [← h3] at hf
    rw [hf]
    simp [hi, h2]
  · rw [List.getElem?_eq_none (by simp; omega), List.getElem?_eq_none]
    rw [flat_length (sz := z.size) (by intro x hx; rw [List.eq_of_mem_replicate hx]; simp)]
    simp
    omega

theorem opMake_ok (hT : T.ok P = true) (h : RelG B G s a w) {dst : Nat} {ty : TypeId} {len cap : AV} {lv cv : Value} (hl : AVR w G s.heap (Ban B.F G s.heap) lv len) (hc : AVR w G s.heap (Ban B.F G s.heap) cv cap)
    {av : AV} {H' : Nat → Option Ob} (hm : opMake T s.heap dst ty len cap = some (av, H')) :
    ∃ v w' G', (Instr.makeSlice ty lv cv).run P w = .ok v w' ∧ RelG B G' { s with heap := H' } a w' ∧ AVR w' G' H' (Ban B.F G' H') v av := by
  simp only [opMake, Option.bind_eq_some_iff] at hm
  obtain ⟨ti, hti, hm⟩ := hm
  have hok := tiok hT hti
  cases hk : ti.kind with
  | slice e =>
    rw [hk] at hm
    simp only [Option.bind_eq_some_iff] at hm
    obtain ⟨te, hte, hm⟩ := hm
    have hoke := tiok hT hte
    split at hm
    case h_2 => cases hm
    rename_i k1 n k2 m
    split at hm
    case isFalse => cases hm
    rename_i hcond
    obtain ⟨rfl, h0, hb, hle, hpos⟩ := hcond
    split at hm
    case h_2 => cases hm
    rename_i hd
    simp only [Option.some.injEq, Prod.mk.injEq] at hm
    obtain ⟨rfl, rfl⟩ := hm
    obtain rfl := hl.inv_int
    obtain rfl := hc.inv_int
    obtain ⟨i, z, hi, hs, hby, hz, hzz⟩ := hoke.info
    obtain ⟨n, rfl⟩ := Int.eq_ofNat_of_zero_le h0
    have hzl : z.cells.size = te.zero.length := by rw [← Array.length_toList]; exact zeroOK_len hzz
    have hzs : z.cells.size = te.size := hzl.trans hoke.zlen
    have hcells : (madeCells z.cells (n * te.size)).toList = (List.replicate n z.cells.toList).flatten := by
      unfold madeCells
      rw [← hzs]
      exact range_cells z.cells n (by omega)
    have hbn : (te.bytes : Int) * n ≤ 281474976710656 := by rw [Int.mul_comm]; omega
    have hrun := run_make (P := P) w ty e i z (hok.slice hk) hi hz k1 k2 n n (by omega) (Int.le_refl _) (by rw [hby]; exact hbn) (by omega)
    simp only [Int.toNat_natCast, hs] at hrun ⊢
    have hlr : ∀ x ∈ List.replicate n (te.zero.map zeroD), x.length = te.size := by
      intro x hx
      rw [List.eq_of_mem_replicate hx, List.length_map, hoke.zlen]
    have htr := (zeroOK_tr (w := w.alloc (.cells (madeCells z.cells (n * te.size)) e)) (own := true) hzz).replicate n
    have hone := (zeroOK_ok (w := w) (G := G) (H := s.heap) (Av := Ban B.F G s.heap) hzz).2
    have hsz : (madeCells z.cells (n * te.size)).size = n * te.size := size_madeCells ..
    let gi : GI := { blk := w.heap.size, off := 0, cap := n, vs := (List.replicate n z.cells.toList).flatten, sub := [] }
    refine ⟨_, _, upd G dst gi, hrun, ?_, ?_⟩
    · refine h.putRow (fun _ => .inl rfl) hd gi te.size (List.replicate n (te.zero.map zeroD)) true 0 (rest_alloc ..) (fun b hb _ => heap_alloc_old w _ b hb) ?_ ?_ ?_
      · intro b hb
        rcases (mem_ownRow hb).2 with rfl | ⟨_, hb2⟩
        · exact .inr (Nat.le_refl _)
        · simp [gi] at hb2
      · exact nodup_ownRow fun _ => ⟨by simp [gi], List.nodup_nil⟩
      · refine ⟨fun _ => ⟨_, e, heap_alloc_new w _, by simp only [gi, hsz]; omega, ?_⟩, by rw [List.length_replicate]; exact Nat.le_refl _, by simp only [gi, maxLen]; omega, ?_, ?_, hlr, htr, fun _ => List.nodup_nil, by simp [gi], by simp⟩
        · intro j v hj
          have : (madeCells z.cells (n * te.size)).toList[j]? = some v := by rw [hcells]; exact hj
          simpa [gi] using this
        · rw [List.length_replicate]
          show List.length _ = _
          rw [flat_length (sz := te.size) (by intro x hx; rw [List.eq_of_mem_replicate hx, Array.length_toList, hzs]), List.length_replicate]
        · intro v hv
          obtain ⟨x, hx, hvx⟩ := List.mem_flatten.1 hv
          rw [List.eq_of_mem_replicate hx] at hvx
          exact hone v hvx
    · have := AVR.r (w := w.alloc (.cells (madeCells z.cells (n * te.size)) e)) (G := upd G dst gi) (H := upd s.heap dst (some (.row te.size (List.replicate n (te.zero.map zeroD)) true false 0))) (Av := Ban B.F (upd G dst gi) (upd s.heap dst (some (.row te.size (List.replicate n (te.zero.map zeroD)) true false 0)))) dst te.size _ true false 0 (some ⟨w.heap.size, 0, none⟩) (upd_same ..) (fun _ => by simp [upd_same, gi])
      simpa [upd_same, gi] using this
  | _ => rw [hk] at hm; simp at hm
end rel
end Go.Fs
