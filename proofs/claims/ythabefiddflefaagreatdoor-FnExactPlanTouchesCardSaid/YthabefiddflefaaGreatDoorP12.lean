/- A part of the proof: an evaluator of the program's code over plain data, proved sound; the equations of its functions; what they compute. No conditions beyond those in the theorems. -/
import Derived.Test.YthabefiddflefaaGreatDoorProg
import Derived.WalkKit
import Derived.Tactics
import Derived.Tactics2
import Derived.Defers
import Derived.Recover
import Derived.Laws.Pointers
import Derived.WalkLawsBesides
import Derived.Test.YthabefiddflefaaGreatDoorP4
import Derived.Test.YthabefiddflefaaGreatDoorP5
set_option linter.unusedVariables false
set_option linter.unusedSimpArgs false
set_option linter.constructorNameAsVariable false
set_option linter.unusedSectionVars false
set_option linter.defProp false
namespace Go.Fs.Se
open Go.Proofs Go.RowKit
set_option maxHeartbeats 1000000 in
set_option maxRecDepth 100000 in
theorem catch_idle (p q : Addr) (w : World) :
 CallsD Tryz.prog 84 #[.pointer (some p), .pointer (some q)] .returning w fun e u' w' => e = .returned (.tuple #[]) ∧ u' = .returning ∧ w' = w := by
 refine callsD_of_wpS Tryz.func84 rfl fun c₀ cs hu => ?_
 apply wpS_seq
 apply wpS_region
 simp [wpOpsS, go_sem, recoverD, hu, Tryz.ntmps84, Exit.thenS]
 apply wpS_seq
 apply wpS_region
 simp [wpOpsS, go_sem, Exit.thenS]
 refine wpS_cond (t := false) (by simp [Act.eval, Array.replicate]) ?_
 simp only [Bool.false_eq_true, if_false]
 refine wpS_of_wp (wp_skip ?_)
 cases c₀
 simp_all [bodyPostS, results, Tryz.results84]
theorem run_assert (w : World) : (Instr.typeAssert (.iface 120 (.agg #[])) 20 120 true).run Tryz.prog w = .ok (.tuple #[.agg #[], .bool true]) w := by kernel_rfl
theorem run_st (w : World) (a : Addr) : (Instr.storeAt 120 (.pointer (some a)) (.agg #[])).run Tryz.prog w = .ok () w := by simp [go_sem]
theorem setC (w : World) (b o : Nat) (v : Value) (cur : Array Value) (t : TypeId) (hb : w.heap[b]? = some (.cells cur t (0, 0))) : (w.setCell ⟨b, o, none⟩ v).heap[b]? = some (.cells (cur.setIfInBounds o v) t (0, 0)) := heap_setCell_same w b o _ _ _ hb
def zsl : Value := .slice none 0 0
set_option maxHeartbeats 1000000 in
set_option maxRecDepth 100000 in
theorem catch_pan (bm bk : Nat) (c0 c1 c2 k0 : Value) (w : World) (hm : w.heap[bm]? = some (.cells #[c0, c1, c2] 50 (0, 0))) (hk : w.heap[bk]? = some (.cells #[k0] 4 (0, 0))) (hne : bm ≠ bk) (older : List PanicEntry) :
 CallsD Tryz.prog 84 #[.pointer (some ⟨bm, 0, none⟩), .pointer (some ⟨bk, 0, none⟩)] (.panicking ({ v := .iface 120 (.agg #[]), recovered := false } :: older)) w fun e u' w' =>
  e = .returned (.tuple #[]) ∧ u' = .panicking ({ v := .iface 120 (.agg #[]), recovered := true } :: older) ∧ Rest w w' ∧ w'.heap[bm]? = some (.cells #[zsl, zsl, zsl] 50 (0, 0)) ∧ w'.heap[bk]? = some (.cells #[.bool false] 4 (0, 0)) ∧
  ∀ b, b < w.heap.size → b ≠ bm → b ≠ bk → w'.heap[b]? = w.heap[b]? := by
 have hbm := (Array.getElem?_eq_some_iff.1 hm).1
 have hbk := (Array.getElem?_eq_some_iff.1 hk).1
 have m1 : (w.alloc (.cells #[] 120)).heap[bm]? = some (.cells #[c0, c1, c2] 50 (0, 0)) := (heap_alloc_old w _ hbm).trans hm
 have k1 : (w.alloc (.cells #[] 120)).heap[bk]? = some (.cells #[k0] 4 (0, 0)) := (heap_alloc_old w _ hbk).trans hk
 have m2 := setC _ bm 0 zsl _ _ m1
 have k2 := (heap_setCell_other (w.alloc (.cells #[] 120)) ⟨bm, 0, none⟩ bk zsl (fun e => hne e.symm)).trans k1
 have m3 := setC _ bm 1 zsl _ _ m2
 have k3 := (heap_setCell_other _ ⟨bm, 1, none⟩ bk zsl (fun e => hne e.symm)).trans k2
 have m4 := setC _ bm 2 zsl _ _ m3
 have k4 := (heap_setCell_other _ ⟨bm, 2, none⟩ bk zsl (fun e => hne e.symm)).trans k3
 have k5 := setC _ bk 0 (.bool false) _ _ k4
 have m5 := (heap_setCell_other _ ⟨bk, 0, none⟩ bm (.bool false) (fun e => hne e)).trans m4
 have f1 := Lib.frozen_of_heap m1 0
 have f2 := Lib.frozen_of_heap m2 1
 have f3 := Lib.frozen_of_heap m3 2
 have f4 := Lib.frozen_of_heap k4 0
 have e1 := Lib.cell_of_heap m1 0
 have e2 := Lib.cell_of_heap m2 1
 have e3 := Lib.cell_of_heap m3 2
 have e4 := Lib.cell_of_heap k4 0
 simp at e1 e2 e3 e4 f1 f2 f3 f4
 unfold zsl at *
 refine callsD_of_wpS Tryz.func84 rfl fun c₀ cs hu => ?_
 apply wpS_seq
 apply wpS_region
 simp [wpOpsS, go_sem, recoverD, hu, Tryz.ntmps84, Exit.thenS]
 apply wpS_seq
 apply wpS_region
 simp [wpOpsS, go_sem, Exit.thenS]
 refine wpS_cond (t := true) (by simp [Act.eval, Array.replicate]) ?_
 simp only [if_true]
 apply wpS_seq
 apply wpS_seq
 apply wpS_region
 simp [wpOpsS, go_sem, Exit.thenS, run_assert, run_st]
 apply wpS_seq
 apply wpS_region
 simp [wpOpsS, go_sem, Exit.thenS]
 refine wpS_cond (t := false) (by simp [Act.eval, Array.replicate]) ?_
 simp only [Bool.false_eq_true, if_false]
 refine wpS_of_wp (wp_skip ?_)
 show Code.wpS _ _ _ _ _ _
 apply wpS_region
 simp [wpOpsS, go_sem, Exit.thenS, e1, e2, e3, e4, f1, f2, f3, f4]
 refine ⟨rfl, _, rfl, .tuple #[], by simp [results, Tryz.results84], rfl, rfl, ⟨rfl, rfl, rfl, by simp [World.setCell]⟩, by simpa using m5, by simpa using k5, fun b h1 h2 h3 => ?_⟩
 rw [heap_setCell_other _ ⟨bk, 0, none⟩ b _ h3, heap_setCell_other _ ⟨bm, 2, none⟩ b _ h2, heap_setCell_other _ ⟨bm, 1, none⟩ b _ h2, heap_setCell_other _ ⟨bm, 0, none⟩ b _ h2]
 exact heap_alloc_old w _ h1
theorem facts {bm bk : Nat} {w : World} {c0 c1 c2 k0 x0 x1 x2 k : Value} (hm : w.heap[bm]? = some (.cells #[c0, c1, c2] 50 (0, 0))) (hk : w.heap[bk]? = some (.cells #[k0] 4 (0, 0))) (hne : bm ≠ bk) :
 (w.cell? ⟨bm, 0, none⟩ = some c0 ∧ w.frozen? ⟨bm, 0, none⟩ = false) ∧ ((w.setCell ⟨bm, 0, none⟩ x0).cell? ⟨bm, 1, none⟩ = some c1 ∧ (w.setCell ⟨bm, 0, none⟩ x0).frozen? ⟨bm, 1, none⟩ = false) ∧
 (((w.setCell ⟨bm, 0, none⟩ x0).setCell ⟨bm, 1, none⟩ x1).cell? ⟨bm, 2, none⟩ = some c2 ∧ ((w.setCell ⟨bm, 0, none⟩ x0).setCell ⟨bm, 1, none⟩ x1).frozen? ⟨bm, 2, none⟩ = false) ∧
 ((((w.setCell ⟨bm, 0, none⟩ x0).setCell ⟨bm, 1, none⟩ x1).setCell ⟨bm, 2, none⟩ x2).cell? ⟨bk, 0, none⟩ = some k0 ∧ (((w.setCell ⟨bm, 0, none⟩ x0).setCell ⟨bm, 1, none⟩ x1).setCell ⟨bm, 2, none⟩ x2).frozen? ⟨bk, 0, none⟩ = false) ∧
 ((((w.setCell ⟨bm, 0, none⟩ x0).setCell ⟨bm, 1, none⟩ x1).setCell ⟨bm, 2, none⟩ x2).setCell ⟨bk, 0, none⟩ k).heap[bm]? = some (.cells #[x0, x1, x2] 50 (0, 0)) ∧
 ((((w.setCell ⟨bm, 0, none⟩ x0).setCell ⟨bm, 1, none⟩ x1).setCell ⟨bm, 2, none⟩ x2).setCell ⟨bk, 0, none⟩ k).heap[bk]? = some (.cells #[k] 4 (0, 0)) := by
 have m2 := setC _ bm 0 x0 _ _ hm
 have k2 := (heap_setCell_other w ⟨bm, 0, none⟩ bk x0 (fun e => hne e.symm)).trans hk
 have m3 := setC _ bm 1 x1 _ _ m2
 have k3 := (heap_setCell_other _ ⟨bm, 1, none⟩ bk x1 (fun e => hne e.symm)).trans k2
 have m4 := setC _ bm 2 x2 _ _ m3
 have k4 := (heap_setCell_other _ ⟨bm, 2, none⟩ bk x2 (fun e => hne e.symm)).trans k3
 have k5 := setC _ bk 0 k _ _ k4
 have m5 := (heap_setCell_other _ ⟨bk, 0, none⟩ bm k (fun e => hne e)).trans m4
 exact ⟨⟨(Lib.cell_of_heap hm 0).trans rfl, Lib.frozen_of_heap hm 0⟩, ⟨(Lib.cell_of_heap m2 1).trans rfl, Lib.frozen_of_heap m2 1⟩, ⟨(Lib.cell_of_heap m3 2).trans rfl, Lib.frozen_of_heap m3 2⟩, ⟨(Lib.cell_of_heap k4 0).trans rfl, Lib.frozen_of_heap k4 0⟩, m5.trans rfl, k5.trans rfl⟩
def W3 (w : World) (v : Value) : World := ((w.alloc (.cells #[zsl, zsl, zsl] 50)).alloc (.cells #[.bool false] 4)).alloc (.cells #[v] 124)
set_option maxHeartbeats 1000000 in
set_option maxRecDepth 100000 in
theorem read_ok (ad : Option Addr) (ln cp : Nat) (w : World) (X : Value → Value → Value → World → Prop)
 (hc : Calls Tryz.prog 85 #[.pointer (some ⟨w.heap.size + 1 + 1, 0, none⟩)] (W3 w (.slice ad ln cp)) fun e w' => ∃ x0 x1 x2, e = .returned (.agg #[x0, x1, x2]) ∧ (x0.oneCell' = true ∧ x1.oneCell' = true ∧ x2.oneCell' = true) ∧
   w'.heap[w.heap.size]? = some (.cells #[zsl, zsl, zsl] 50 (0, 0)) ∧ w'.heap[w.heap.size + 1]? = some (.cells #[.bool false] 4 (0, 0)) ∧ X x0 x1 x2 w') :
 Calls Tryz.prog 66 #[.slice ad ln cp] w fun e w'' => ∃ x0 x1 x2 w', X x0 x1 x2 w' ∧ e = .returned (.tuple #[.agg #[x0, x1, x2], .bool true]) ∧ Rest w' w'' ∧ ∀ b, b < w'.heap.size → b ≠ w.heap.size → b ≠ w.heap.size + 1 → w''.heap[b]? = w'.heap[b]? := by
 have hmf : ∀ (fn : Fn) (first cap : Array Value) (w : World), (Instr.makeFunc fn first cap).run Tryz.prog w = .ok (.func fn first cap) w := fun _ _ _ _ => rfl
 unfold W3 zsl at hc
 go_enter_defers Tryz.func66, Tryz.ntmps66
 go_wp2_with (go_at_call 85; refine hc.mono ?_; rintro e w' ⟨x0, x1, x2, rfl, ⟨o0, o1, o2⟩, m1, k1, hX⟩; obtain ⟨⟨e1, f1⟩, ⟨e2, f2⟩, ⟨e3, f3⟩, ⟨e4, f4⟩, m5, k5⟩ := facts (x0 := x0) (x1 := x1) (x2 := x2) (k := .bool true) m1 k1 (by omega))
 simp only [run_store Tryz.prog _ _ x0 _ o0, run_store Tryz.prog _ _ x1 _ o1, run_store Tryz.prog _ _ x2 _ o2, e1, f1, Bool.false_eq_true, if_false, Result.andThen, e2, f2, e3, f3]
 rw [Oper.upon_skip]
 go_wp2
 refine leaves_cons (f := 84) (args := #[.pointer (some ⟨w.heap.size, 0, none⟩), .pointer (some ⟨w.heap.size + 1, 0, none⟩)]) (by simp) (by simp [go_sem]) ?_
 refine (catch_idle ⟨w.heap.size, 0, none⟩ ⟨w.heap.size + 1, 0, none⟩ _).mono ?_
 rintro e u' w'' ⟨rfl, rfl, rfl⟩
 have c0 := Lib.cell_of_heap m5 0
 have c1 := Lib.cell_of_heap m5 1
 have c2 := Lib.cell_of_heap m5 2
 have c3 := Lib.cell_of_heap k5 0
 simp at c0 c1 c2 c3
 refine ⟨.tuple #[.agg #[x0, x1, x2], .bool true], ?_, x0, x1, x2, w', hX, rfl, ⟨rfl, rfl, rfl, by simp [World.setCell]⟩, fun b h1 h2 h3 => ?_⟩
 ·simp [results, Tryz.results66, go_sem, c0, c1, c2, c3]
 ·rw [heap_setCell_other _ ⟨w.heap.size + 1, 0, none⟩ b _ h3, heap_setCell_other _ ⟨w.heap.size, 2, none⟩ b _ h2, heap_setCell_other _ ⟨w.heap.size, 1, none⟩ b _ h2, heap_setCell_other _ ⟨w.heap.size, 0, none⟩ b _ h2]
set_option maxHeartbeats 1000000 in
set_option maxRecDepth 100000 in
theorem read_pan (ad : Option Addr) (ln cp : Nat) (w : World) (X : World → Prop)
 (hc : Calls Tryz.prog 85 #[.pointer (some ⟨w.heap.size + 1 + 1, 0, none⟩)] (W3 w (.slice ad ln cp)) fun e w' => e = .panicked (panE 120 []) ∧
   w'.heap[w.heap.size]? = some (.cells #[zsl, zsl, zsl] 50 (0, 0)) ∧ w'.heap[w.heap.size + 1]? = some (.cells #[.bool false] 4 (0, 0)) ∧ X w') :
 Calls Tryz.prog 66 #[.slice ad ln cp] w fun e w'' => ∃ w', X w' ∧ e = .returned (.tuple #[.agg #[zsl, zsl, zsl], .bool false]) ∧ Rest w' w'' ∧ ∀ b, b < w'.heap.size → b ≠ w.heap.size → b ≠ w.heap.size + 1 → w''.heap[b]? = w'.heap[b]? := by
 have hmf : ∀ (fn : Fn) (first cap : Array Value) (w : World), (Instr.makeFunc fn first cap).run Tryz.prog w = .ok (.func fn first cap) w := fun _ _ _ _ => rfl
 unfold W3 at hc
 simp only [show zsl = .slice none 0 0 from rfl] at hc
 go_enter_defers Tryz.func66, Tryz.ntmps66
 go_wp2_with (go_at_call 85; refine hc.mono ?_; rintro e w' ⟨rfl, m1, k1, hX⟩)
 refine leaves_cons (f := 84) (args := #[.pointer (some ⟨w.heap.size, 0, none⟩), .pointer (some ⟨w.heap.size + 1, 0, none⟩)]) (by simp) (by simp [go_sem]) ?_
 refine (catch_pan w.heap.size (w.heap.size + 1) _ _ _ _ w' m1 k1 (by omega) []).mono ?_
 rintro e u' w'' ⟨rfl, rfl, hr, m5, k5, hk⟩
 have c0 := Lib.cell_of_heap m5 0
 have c1 := Lib.cell_of_heap m5 1
 have c2 := Lib.cell_of_heap m5 2
 have c3 := Lib.cell_of_heap k5 0
 simp at c0 c1 c2 c3
 refine ⟨.tuple #[.agg #[zsl, zsl, zsl], .bool false], ?_, w', hX, rfl, hr, hk⟩
 simp [results, Tryz.results66, go_sem, c0, c1, c2, c3]
theorem does_calls {P : Program} {f : FuncId} {args : Array Value} {w : World} {R : Value → World → Prop} (h : Does P f args w R) (he : (callFunc f args).run P w = .ok (.enter f args) w) : Calls P f args w fun | .returned v, w' => R v w' | _, _ => False := by
 rcases h with ⟨_, h⟩ | ⟨v, w', h, _⟩
 ·exact h
 ·rw [he] at h; cases h
theorem enter85 (args : Array Value) (w : World) : (callFunc 85 args).run Tryz.prog w = .ok (.enter 85 args) w := by kernel_rfl
theorem enter66 (args : Array Value) (w : World) : (callFunc 66 args).run Tryz.prog w = .ok (.enter 66 args) w := by kernel_rfl
theorem sza (w : World) (o : Obj) : (w.alloc o).heap.size = w.heap.size + 1 := by
 show (w.heap.push o).size = _
 simp
theorem trz (w : World) (sz : Nat) : Tr w true zsl (.l sz []) [] := .z none 0 sz (fun _ => rfl)
theorem rd_ok {S : Nat → Option Summ} (hS : SumOK Tryz.prog S) {ds : List D} {r : D} (h : gcE gd66 S ds = some r) : FnOK Tryz.prog 66 (inO 7 ds) { ret := r } := by
 unfold gcE at h
 split at h
 case h_2 => cases h
 rename_i F hF
 obtain ⟨cs, hbx, h⟩ := bind_inv h
 obtain ⟨y, hy, h⟩ := bind_inv h
 have hpb : PbOK Tryz.prog 85 (.io (.p cs) :: ([] : List D).map .d) y := hS 85 _ hF (.p cs) [] y hy
 have hbx : bx66 ds = some cs := hbx
 unfold bx66 at hbx
 split at hbx
 case h_2 => cases hbx
 rename_i sz xs _
 cases hbx
 intro w args Sd M hkn ha hM hd
 have ha : ArgsR w args [.io (.l sz xs)] Sd M := ha
 cases ha with
 | io v x S vs ins Sd' M' htr hf hs =>
 cases hs
 rw [List.append_nil] at hkn hM hd ⊢
 obtain ⟨ad, ln, cp, rfl⟩ : ∃ ad ln cp, v = .slice ad ln cp := by
  cases htr with
  | z a c _ _ => exact ⟨_, _, _, rfl⟩
  | l g o c _ cur e fr vs _ S2 hg hc hm hl hv h1 hx ho hs => exact ⟨_, _, _, rfl⟩
 -- the world in which the module is read
 have hlt := htr.lt
 have hsz : (W3 w (.slice ad ln cp)).heap.size = w.heap.size + 3 := by unfold W3; simp only [sza]
 have hold : ∀ b, b < w.heap.size → (W3 w (.slice ad ln cp)).heap[b]? = w.heap[b]? := fun b hb => by
  unfold W3
  rw [heap_alloc_old _ _ (by simp only [sza]; omega), heap_alloc_old _ _ (by simp only [sza]; omega), heap_alloc_old _ _ hb]
 have hm3 : (W3 w (.slice ad ln cp)).heap[w.heap.size]? = some (.cells #[zsl, zsl, zsl] 50 (0, 0)) := by
  unfold W3
  rw [heap_alloc_old _ _ (by simp only [sza]; omega), heap_alloc_old _ _ (by simp only [sza]; omega)]
  exact heap_alloc_new w _
 have hk3 : (W3 w (.slice ad ln cp)).heap[w.heap.size + 1]? = some (.cells #[.bool false] 4 (0, 0)) := by
  unfold W3
  rw [heap_alloc_old _ _ (by simp only [sza]; omega)]
  have := heap_alloc_new (w.alloc (.cells #[zsl, zsl, zsl] 50)) (.cells #[.bool false] 4)
  simp only [sza] at this
  exact this
 have hp3 : (W3 w (.slice ad ln cp)).heap[w.heap.size + 1 + 1]? = some (.cells #[.slice ad ln cp] 124 (0, 0)) := by
  unfold W3
  have := heap_alloc_new ((w.alloc (.cells #[zsl, zsl, zsl] 50)).alloc (.cells #[.bool false] 4)) (.cells #[.slice ad ln cp] 124)
  simp only [sza] at this
  exact this
 have hrest3 : Rest w (W3 w (.slice ad ln cp)) := ⟨rfl, rfl, rfl, by omega⟩
 have htr3 : Tr (W3 w (.slice ad ln cp)) true (.slice ad ln cp) (.l sz xs) S := htr.keep fun b hb => hold b (hlt b hb)
 have hTr : Tr (W3 w (.slice ad ln cp)) true (.pointer (some ⟨w.heap.size + 1 + 1, 0, none⟩)) (.p [.l sz xs]) ((w.heap.size + 1 + 1) :: (S ++ [])) :=
  .p (w.heap.size + 1 + 1) 0 #[.slice ad ln cp] 124 (0, 0) [.slice ad ln cp] [.l sz xs] (S ++ []) hp3 (fun j v hj => by simpa using hj) (fun v hv => by simp at hv; subst hv; rfl) (fun _ => ⟨rfl, rfl, rfl⟩) (.cons _ _ S _ _ [] htr3 .nil)
 have hA : ArgsR (W3 w (.slice ad ln cp)) [.pointer (some ⟨w.heap.size + 1 + 1, 0, none⟩)] (.io (.p [.l sz xs]) :: ([] : List D).map .d) [] (((w.heap.size + 1 + 1) :: (S ++ [])) ++ []) := .io _ _ _ [] _ [] [] hTr (flat_one rfl) .nil
 rw [List.append_nil, List.append_nil] at hA
 have hK : KnW (W3 w (.slice ad ln cp)) (· ∈ (w.heap.size + 1 + 1) :: S) := ⟨hkn.kn.keep fun b hb => hold b (Nat.lt_of_lt_of_le hb hkn.size), by have := hkn.size; omega, fun b hb => by
  have := hkn.size
  rcases List.mem_cons.1 hb with rfl | hb
  ·omega
  ·exact hkn.ge b hb⟩
 have hN : ((w.heap.size + 1 + 1) :: S).Nodup := List.nodup_cons.2 ⟨fun hm => by have := hlt _ hm; omega, hM⟩
 refine .inl ⟨enter66 _ w, ?_⟩
 obtain ⟨y1, y2⟩ := y
 unfold PbOK at hpb
 split at hpb
 case h_3 => exact hpb.elim
 ·-- it is one
  rename_i q eq
  have eq : y1 = .p [q] := eq
  subst eq
  have h : ok66 q = some r := h
  unfold ok66 at h
  split at h
  case h_2 => cases h
  rename_i a b c _
  cases h
  have hc := does_calls (hpb _ _ [] _ hK hA hN (by simp)) (enter85 _ _)
  have := read_ok ad ln cp w (fun x0 x1 x2 w' => ∃ S', TrL w' true [x0, x1, x2] [a, b, c] S' ∧ S'.Nodup ∧ (∀ b ∈ S', w.heap.size + 1 < b ∨ b ∈ S) ∧ (x0.oneCell' = true ∧ x1.oneCell' = true ∧ x2.oneCell' = true) ∧ Rest w w' ∧ (∀ b, b < w.heap.size → b ∉ S → w'.heap[b]? = w.heap[b]?) ∧ w.heap.size + 1 < w'.heap.size) (hc.mono fun e w' he => ?_)
  ·refine this.mono fun e w'' he => ?_
   obtain ⟨x0, x1, x2, w', ⟨S', t1, t2, t3, ⟨o0, o1, o2⟩, t4, t5, t6⟩, rfl, t7, t8⟩ := he
   have hin : ∀ b ∈ S', b < w'.heap.size := t1.lt
   have hne : ∀ b ∈ S', b ≠ w.heap.size ∧ b ≠ w.heap.size + 1 := fun b hb => by
    rcases t3 b hb with h1 | h1
    ·omega
    ·have := hlt b h1; omega
   have t1' : TrL w'' true [x0, x1, x2] [a, b, c] S' := t1.keep fun b hb => t8 b (hin b hb) (hne b hb).1 (hne b hb).2
   refine ⟨t4.trans t7, fun b hb hn => ?_, S' ++ ([] ++ []), [], ?_, ?_, rfl, List.nodup_nil, by simp, by simp, fun _ => ⟨by simpa using t2, fun b hb => ?_⟩, fun b hb => ?_⟩
   ·rw [t8 b (by omega) (by omega) (by omega)]
    exact t5 b hb hn
   ·exact .t _ _ _ (.cons _ _ S' _ _ _ (.g _ _ _ (by simpa using t1')) (.cons _ _ [] _ _ [] (.b true) .nil))
   ·refine .inr ⟨_, rfl, fun u hu => ?_⟩
    simp at hu
    rcases hu with rfl | rfl
    ·intro z hz
     simp [Value.cells] at hz
     rcases hz with rfl | rfl | rfl <;> assumption
    ·exact flat_one rfl
   ·have hb : b ∈ S' := by simpa using hb
    rcases t3 b hb with h1 | h1
    ·exact .inl (by omega)
    ·exact .inr h1
   ·have hb : b ∈ S' := by simpa using hb
    rcases t3 b hb with h1 | h1
    ·exact .inl (by omega)
    ·exact .inr (.inr (.inl h1))
  ·split at he
   case h_2 => exact he.elim
   rename_i v'
   obtain ⟨hr, hkeep, S', Si, r1, r2, r3, r4, r5, r6, r7, _⟩ := he
   obtain ⟨q7, q8⟩ := r7 rfl
   cases r1 with
   | g xs' _ _ hts =>
   obtain ⟨x0, x1, x2, e3⟩ : ∃ x0 x1 x2, xs'.toList = [x0, x1, x2] := by
    have := hts.length
    match hxs : xs'.toList, this with
    | [x0, x1, x2], _ => exact ⟨x0, x1, x2, rfl⟩
   obtain rfl : xs' = #[x0, x1, x2] := by
    apply Array.ext'
    exact e3
   have hone : ∀ u ∈ [x0, x1, x2], u.oneCell' = true := by
    rcases r2 with hfl | ⟨vs, e, _⟩
    ·intro u hu
     exact hfl u (by simpa [Value.cells] using hu)
    ·cases e
   have o3 : x0.oneCell' = true ∧ x1.oneCell' = true ∧ x2.oneCell' = true := ⟨hone _ (by simp), hone _ (by simp), hone _ (by simp)⟩
   have hkp : ∀ b, b < w.heap.size + 3 → b ∉ (w.heap.size + 1 + 1) :: S → w'.heap[b]? = (W3 w (.slice ad ln cp)).heap[b]? := fun b hb hn => hkeep b (by omega) hn
   have hnot : ∀ b, w.heap.size ≤ b → b ∉ S := fun b hb hm => by have := hlt b hm; omega
   have hsz' := hr.size
   refine ⟨x0, x1, x2, rfl, o3, ?_, ?_, S', by simpa using hts, q7, fun b hb => ?_, o3, hrest3.trans hr, fun b hb hn => ?_, by omega⟩
   ·rw [hkp _ (by omega) (by simp; exact ⟨by omega, hnot _ (Nat.le_refl _)⟩)]; exact hm3
   ·rw [hkp _ (by omega) (by simp; exact hnot _ (by omega))]; exact hk3
   ·rcases q8 b hb with h1 | h1
    ·exact .inl (by omega)
    ·rcases List.mem_cons.1 h1 with rfl | h1
     ·exact .inl (by omega)
     ·exact .inr h1
   ·rw [hkp b (by omega) (by simp; exact ⟨by omega, hn⟩)]
    exact hold b hb
 ·-- it is none
  rename_i te ns' eq
  have eq : y1 = .f te ns' := eq
  subst eq
  obtain ⟨ns, e1, hpn⟩ := hpb
  have h : (intsD ns').bind (pan66 te) = some r := h
  rw [e1, Option.bind_some] at h
  unfold pan66 at h
  obtain ⟨⟨rfl, rfl⟩, h⟩ := ite_inv h
  cases h
  have hc := (hpn _ _ [] _ hK hA hN (by simp)).2
  have := read_pan ad ln cp w (fun w' => Rest w w' ∧ (∀ b, b < w.heap.size → b ∉ S → w'.heap[b]? = w.heap[b]?) ∧ w.heap.size + 1 < w'.heap.size) (hc.mono fun e w' he => ?_)
  ·refine this.mono fun e w'' he => ?_
   obtain ⟨w', ⟨t4, t5, t6⟩, rfl, t7, t8⟩ := he
   refine ⟨t4.trans t7, fun b hb hn => ?_, [], [], ?_, ?_, rfl, List.nodup_nil, by simp, by simp, fun _ => ⟨List.nodup_nil, by simp⟩, by simp⟩
   ·rw [t8 b (by omega) (by omega) (by omega)]
    exact t5 b hb hn
   ·exact .t _ _ _ (.cons _ _ [] _ _ [] (.g _ _ [] (.cons _ _ [] _ _ [] (trz _ _) (.cons _ _ [] _ _ [] (trz _ _) (.cons _ _ [] _ _ [] (trz _ _) .nil)))) (.cons _ _ [] _ _ [] (.b false) .nil))
   ·refine .inr ⟨_, rfl, fun u hu => ?_⟩
    simp at hu
    rcases hu with rfl | rfl
    ·intro z hz
     simp [Value.cells] at hz
     subst hz
     rfl
    ·exact flat_one rfl
  ·obtain ⟨rfl, hr, hkeep⟩ := he
   have hkp : ∀ b, b < w.heap.size + 3 → b ∉ (w.heap.size + 1 + 1) :: S → w'.heap[b]? = (W3 w (.slice ad ln cp)).heap[b]? := fun b hb hn => hkeep b (by omega) hn
   have hnot : ∀ b, w.heap.size ≤ b → b ∉ S := fun b hb hm => by have := hlt b hm; omega
   have hsz' := hr.size
   refine ⟨rfl, ?_, ?_, hrest3.trans hr, fun b hb hn => ?_, by omega⟩
   ·rw [hkp _ (by omega) (by simp; exact ⟨by omega, hnot _ (Nat.le_refl _)⟩)]; exact hm3
   ·rw [hkp _ (by omega) (by simp; exact hnot _ (by omega))]; exact hk3
   ·rw [hkp b (by omega) (by simp; exact ⟨by omega, hn⟩)]
    exact hold b hb
end Go.Fs.Se
open Go.RowKit
namespace Go.Fs.Se
open Cel (cel unc)
open Dat (enc dec)
open Arg (ea da)
theorem n66_eq (a0 : List ByteArray) : n66 a0 = (n85 (Pt.mk (Reader.mk a0))).bind fun y => poE y.1 (fun m => some (m, true)) (fun te ns => if te = 120 ∧ ns = [] then some (TreeMod.mk [] [] [], false) else none) := by
 rw [n66, fnO_run h66]
 unfold oF
 rw [if_pos m66]
 have e1 : gdO M (mkS M (lastR M)) 66 (ea (a0, ())) = (gcE gd66 (mkS M (lastR M)) (ea (a0, ()))).bind fun r => if M.chk 66 r = true then some r else none := rfl
 have e2 : gcE gd66 (mkS M (lastR M)) (ea (a0, ())) = ((lastR M).i 85 (.p [enc a0]) []).bind (gdR gd66) := rfl
 have e3 : da (α := Pt Reader × Unit) (D.p [enc a0] :: []) = some (Pt.mk (Reader.mk a0), ()) := Arg.da_ea (α := Pt Reader × Unit) (Pt.mk (Reader.mk a0), ())
 rw [e1, e2, c85.1, e3, Option.bind_some, callI_eq, bindN_eq]
 cases n85 (Pt.mk (Reader.mk a0)) with
 | none => rfl
 | some y =>
  obtain ⟨x, r⟩ := y
  simp only [Option.bind_some]
  cases x with
  | ok m =>
   have e4 : gdR gd66 (enc (Po.ok m), enc r) = some (enc (m, true)) := rfl
   have e5 : M.chk 66 (enc (m, true)) = true := by
    rw [h66.r]
    have : dec (α := TreeMod × Bool) (enc (m, true)) = some (m, true) := Dat.dec_enc (m, true)
    rw [this]; rfl
   simp only [e4, Option.bind_some, e5, if_true, poE_ok]
   exact Dat.dec_enc (m, true)
  | pan te ns =>
   have e4 : gdR gd66 (enc (Po.pan (β := TreeMod) te ns), enc r) = pan66 te ns := by
    show (intsD (ns.map (D.i .i64))).bind (pan66 te) = _
    rw [intsD_map]; rfl
   simp only [e4, poE_pan]
   unfold pan66
   split
   ·rfl
   ·rfl
end Go.Fs.Se
