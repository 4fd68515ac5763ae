/- A part of the proof: an evaluator of the program's code over plain data, proved sound; the equations of its functions; what they compute. No conditions beyond those in the theorems. -/
import Derived.Test.YtkgkoolfobmfnaaGreatDoorProg
import Derived.WalkKit
import Derived.Lib.FrozenHead
import Derived.Shelf.RegionOpenPlain
import Derived.ProofKit
import Derived.OpenShut
import Derived.LaidMore
import Derived.Lay
import Derived.OpenVars
import Derived.HandedShaped
import Derived.SevenTiedAt
import Derived.Stop.Joined
import Derived.Shelf.Vars
import Derived.Test.YtkgkoolfobmfnaaGreatDoorTie
import Derived.Test.YtkgkoolfobmfnaaGreatDoorCards
import Derived.Test.YtkgkoolfobmfnaaGreatDoorP9
import Derived.Test.YtkgkoolfobmfnaaGreatDoorShelf
import Derived.Test.YtkgkoolfobmfnaaGreatDoorP4
import Derived.Test.YtkgkoolfobmfnaaGreatDoorP21
set_option linter.unusedVariables false
set_option linter.unusedSimpArgs false
set_option linter.constructorNameAsVariable false
set_option linter.unusedSectionVars false
set_option linter.defProp false
namespace Go.Fs.Se
open Go.Proofs Go.RowKit Go.Sort
theorem var_pow {w : World} (h : Kn w) : Lib.TabIs Tryz.prog w "internal/strconv.uint64pow10" .u64 Lib.pow10Tab := by
  obtain ⟨el, fr, e⟩ := h.pow
  have hg : Tryz.prog.globalNamed "internal/strconv.uint64pow10" = some 6 := by kernel_rfl
  unfold Lib.TabIs World.var?
  rw [hg]
  simp only [Option.bind_some, e]
theorem drewN_below (w : World) (n : Nat) : Below w.heap.size w (w.drewN n) := ⟨rfl, rfl, rfl, Nat.le_refl _, fun _ _ => rfl⟩
theorem grow_below (w : World) (n : Nat) (os : Array Obj) : Below w.heap.size w (grow (w.drewN n) os) :=
  ⟨rfl, rfl, rfl, by simp [grow, World.drewN], fun k hk => by
    have : k < (w.drewN n).heap.size := hk
    rw [heap_grow_old _ os this]; rfl⟩
theorem bytes_below (w : World) (e : TypeId) (t : ByteArray) : Below w.heap.size w (Lib.bytesWorld w e t) := by
  unfold Lib.bytesWorld
  refine ⟨rfl, rfl, rfl, ?_, fun k hk => ?_⟩
  · show w.heap.size ≤ ((w.heap.push _).modify _ _).size
    simp
  · show ((w.heap.push _).modify _ _)[k]? = _
    rw [Array.getElem?_modify, if_neg (by show ¬ w.heap.size = k; omega), Array.getElem?_push, if_neg (by omega)]
theorem enter47 (a : Array Value) (w : World) : (callFunc 47 a).run Tryz.prog w = .ok (.enter 47 a) w := enters_of Tryz.func47 (by kernel_rfl) rfl a w
theorem enter68 (a : Array Value) (w : World) : (callFunc 68 a).run Tryz.prog w = .ok (.enter 68 a) w := enters_of Tryz.func68 (by kernel_rfl) rfl a w
theorem gv47 : ∀ ds r, glCut ds = some r → FnOK Tryz.prog 47 (ds.map .d) { ret := r } := ok_cut enter47 fun s sep m w hs hm => (Tryz.strings_Cut s sep m w hs hm).mono fun e w' h => by
  obtain ⟨h1, n, rfl⟩ := h
  exact ⟨h1, drewN_below w n⟩
theorem gv68 : ∀ ds r, glItoa ds = some r → FnOK Tryz.prog 68 (ds.map .d) { ret := r } := ok_itoa enter68 fun n w h0 h1 hk => (Tryz.strconv_Itoa n h0 h1 w (var_pow hk)).mono fun e w' h => by
  obtain ⟨h1, k, os, rfl⟩ := h
  exact ⟨h1, grow_below w k os⟩
theorem enter81 (a : Array Value) (w : World) : (callFunc 81 a).run Tryz.prog w = .ok (.enter 81 a) w := enters_of Tryz.func81 (by kernel_rfl) rfl a w
theorem enter79 (a : Array Value) (w : World) : (callFunc 79 a).run Tryz.prog w = .ok (.enter 79 a) w := enters_of Tryz.func79 (by kernel_rfl) rfl a w
theorem enter163 (a : Array Value) (w : World) : (callFunc 163 a).run Tryz.prog w = .ok (.enter 163 a) w := enters_of Tryz.func163 (by kernel_rfl) rfl a w
theorem enter105 (a : Array Value) (w : World) : (callFunc 105 a).run Tryz.prog w = .ok (.enter 105 a) w := enters_of Tryz.func105 (by kernel_rfl) rfl a w
theorem gv79 : ∀ ds r, glSplit ds = some r → FnOK Tryz.prog 79 (ds.map .d) { ret := r } := ok_split enter79 fun s sep m w hs hm h1 => Tryz.strings_Split s sep m w hs hm h1
theorem gv163 : ∀ ds r, glJoin ds = some r → FnOK Tryz.prog 163 (ds.map .d) { ret := r } := ok_join enter163 Tryz.strings_Join_none fun bk o c xs sep w h1 h2 h3 h4 h5 => Tryz.strings_Join bk o c xs sep w h1 h2 h3 h4 h5
theorem gv105 : ∀ ds r, glClone ds = some r → FnOK Tryz.prog 105 (ds.map .d) { ret := r } := ok_clone enter105 Tryz.slices_Clone_string_nil
  (fun a c w => (Tryz.slices_Clone_string_zero a c w).mono fun e w' ⟨v, h1, h2, _, h3⟩ => ⟨v, h1, h2, h3⟩)
  fun b off n c zs w h1 h2 h3 => (Tryz.slices_Clone_string b off n c zs w h1 h2 h3).mono fun e w' ⟨v, h1, h2, _, h3⟩ => ⟨v, h1, h2, h3⟩
theorem gv81 : ∀ ds r, glAtoi ds = some r → FnOK Tryz.prog 81 (ds.map .d) { ret := r } := ok_atoi enter81 fun s w hs hk => by
  obtain ⟨v1, hv1, i1⟩ := hk.syn
  obtain ⟨v2, hv2, i2⟩ := hk.rng
  cases e : Lib.atoiAll s.data.toList
  case ok n =>
    refine (Tryz.strconv_Atoi_ok s (by omega) n e w).mono fun x w' h => ?_
    obtain ⟨h1, h2⟩ := h
    refine ⟨⟨n, .nilIface, h1, by simp [lAtoi, hs, e, erB], .inl rfl⟩, ?_⟩
    rcases h2 with rfl | ⟨t, rfl⟩
    · exact Below.refl _ _
    · exact bytes_below w _ t
  case range =>
    refine (Tryz.strconv_Atoi_range s hs e v2 w hv2 i2).mono fun x w' h => ?_
    obtain ⟨N, h1, _, _, h2⟩ := h
    exact ⟨⟨_, _, h1, by simp [lAtoi, hs, e, erB], .inr ⟨_, _, rfl⟩⟩, h2⟩
  refine (Tryz.strconv_Atoi_syntax s hs e v1 w hv1 i1).mono fun x w' h => ?_
  obtain ⟨N, h1, _, _, h2⟩ := h
  exact ⟨⟨0, _, h1, by simp [lAtoi, hs, e, erB], .inr ⟨_, _, rfl⟩⟩, h2⟩
end Go.Fs.Se
namespace Go.Fs.Se
open Go.Proofs Go.RowKit
theorem size36 : (Tryz.prog.info? 36).map (·.size) = some 2 := by kernel_rfl
theorem lies36 : liesAt Tryz.prog Tryz.prog.depth 36 (2 / Tryz.prog.cellsOf 36) 0 36 1 = true := by kernel_rfl
theorem info5 : (Tryz.prog.info? 5).map (fun i => (i.zero, i.size, i.bytes)) = some (some (.int .u8 0), 1, 1) := by kernel_rfl
theorem cells5 : Tryz.prog.cellsOf 5 = 1 := by kernel_rfl
set_option maxHeartbeats 1000000 in
set_option maxRecDepth 100000 in
theorem cc_used (b : Nat) (w : World) (h0 : w.cell? ⟨b, 0, none⟩ = some (.pointer (some ⟨b, 0, none⟩))) :
    Calls Tryz.prog 34 #[.pointer (some ⟨b, 0, none⟩)] w fun e w' => e = .returned (.tuple #[]) ∧ w' = w := by
  obtain ⟨j, hj, hjs⟩ := Option.map_eq_some_iff.1 size36
  go_enter Tryz.func34, Tryz.ntmps34
  go_wp2
  rw [Lib.run_neq_ptr_same w _ Tryz.underlying33 hj]
  go_wp2
  go_end0
  exact ⟨rfl, rfl⟩
set_option maxHeartbeats 1000000 in
set_option maxRecDepth 100000 in
theorem cc_fresh (b : Nat) (w : World) (h0 : w.cell? ⟨b, 0, none⟩ = some (.pointer none)) (hsh : w.shape? b = some (36, 2)) (hfz : w.frozen? ⟨b, 0, none⟩ = false) :
    Calls Tryz.prog 34 #[.pointer (some ⟨b, 0, none⟩)] w fun e w' => e = .returned (.tuple #[]) ∧ w' = w.setCell ⟨b, 0, none⟩ (.pointer (some ⟨b, 0, none⟩)) := by
  obtain ⟨j, hj, hjs⟩ := Option.map_eq_some_iff.1 size36
  go_enter Tryz.func34, Tryz.ntmps34
  go_wp2
  rw [Lib.run_to_unsafe w ⟨b, 0, none⟩ Tryz.underlying33 Tryz.underlying106 hj (by rw [hjs]; decide) hsh (Nat.zero_lt_succ 1)]
  simp only [Result.andThen]
  rw [Oper.upon_value]
  go_wp2
  rw [run_callFunc_extern Tryz.func61 (by kernel_rfl) (by kernel_rfl) (by kernel_rfl) (e := Extern.AbiNoEscape.same) (by kernel_rfl)]
  rw [Lib.run_noEscape]
  simp only [Result.andThen]
  rw [Oper.upon_value]
  go_wp2
  rw [Lib.run_from_unsafe w ⟨b, 0, none⟩ Tryz.underlying106 Tryz.underlying33 hj hsh lies36]
  simp only [Result.andThen]
  rw [Oper.upon_value]
  go_wp2
  go_end0
  exact ⟨rfl, rfl⟩
theorem grown_set (w : World) (b i : Nat) (v : Value) : w.grownBy (w.setCell ⟨b, i, none⟩ v) (some b) :=
  ⟨rfl, rfl, rfl, by simp [World.setCell], fun k _ hk => heap_setCell_other _ _ _ _ (fun e => hk (by rw [e]))⟩
theorem own_ne {v : Value} {g : GI} (hs : g.sub = v.ownBlock.toList) (hnd : (g.blk :: g.sub).Nodup) : v.ownBlock ≠ some g.blk := fun e => by
  rw [hs, e] at hnd
  simp at hnd
theorem cc (w : World) (g : GI) (s : ByteArray) (h : BldR w g s) (hnd : (g.blk :: g.sub).Nodup) :
    Calls Tryz.prog 34 #[.pointer (some ⟨g.blk, 0, none⟩)] w fun e w1 => e = .returned (.tuple #[]) ∧ ∃ v, w1.heap[g.blk]? = some (.cells #[.pointer (some ⟨g.blk, 0, none⟩), v] 36 (0, 0)) ∧
      w1.ownsRowF 0 5 1 v s.size (Lib.strCells s) ∧ g.sub = v.ownBlock.toList ∧ Rest w w1 ∧ w1.heap.size = w.heap.size ∧ ∀ k, k ≠ g.blk → w1.heap[k]? = w.heap[k]? := by
  obtain ⟨p, v, hp, hb, hv, hs⟩ := h
  rcases hp with rfl | rfl
  · have h0 : w.cell? ⟨g.blk, 0, none⟩ = some (.pointer none) := by rw [Lib.cell_of_heap hb]; rfl
    refine (cc_fresh g.blk w h0 (by simp [World.shape?, hb]; rfl) (Lib.frozen_of_heap hb 0)).mono ?_
    rintro e w' ⟨rfl, rfl⟩
    refine ⟨rfl, v, heap_setCell_same w g.blk 0 _ _ _ hb, hv.kept (grown_set _ _ _ _) (.inr (own_ne hs hnd)), hs, ⟨rfl, rfl, rfl, by simp [World.setCell]⟩, by simp [World.setCell], fun k hk => heap_setCell_other _ _ _ _ hk⟩
  · have h0 : w.cell? ⟨g.blk, 0, none⟩ = some (.pointer (some ⟨g.blk, 0, none⟩)) := by rw [Lib.cell_of_heap hb]; rfl
    refine (cc_used g.blk w h0).mono ?_
    rintro e w' ⟨rfl, rfl⟩
    exact ⟨rfl, v, hb, hv, hs, Rest.refl _, rfl, fun _ _ => rfl⟩
section app
variable {P : Program} (w : World)
open Lib
/-- An append to a row of one's own: the row, or a new block. -/
theorem app_own (t u ty e : TypeId) (i : TypeInfo) (ht : P.underlying t = some (.slice e)) (hu : P.underlying u = some .string) (hi : P.info? e = some i) (hz : i.zero = some (.int .u8 0))
    (hsize : i.size = 1) (hby : i.bytes = 1)
    (v : Value) (n : Nat) (xs : List Value) (hown : w.ownsRowF 0 e 1 v n xs) (s : ByteArray)
    (hbytes : n + s.size ≤ 140737488355328) :
    ∃ v' w', (Builtin.append_ #[t, u] ty #[v, .string s]).run P w = .ok v' w' ∧ w'.ownsRowF 0 e 1 v' (n + s.size) (xs ++ strCells s) ∧ w.grownBy w' v.ownBlock ∧
      ∀ k, v'.ownBlock = some k → w.heap.size ≤ k ∨ v.ownBlock = some k := by
  have h63 : n + s.size ≤ maxLen := by unfold maxLen; omega
  rcases hown.2 with ⟨rfl, rfl⟩ | ⟨g, cap, cur, fz, rfl, hbg, hg, hfz, hnc, hcm, hcs, htake⟩
  · obtain ⟨v', w', h1, h2, h3, h4⟩ := run_append_own_string (P := P) w w.heap.size t u ty e i ht hu hi hz hsize hby (.slice none 0 0) 0 xs ⟨hown.1, .inl ⟨rfl, rfl⟩⟩ s h63 hbytes (Nat.le_refl _)
    have h5 := World.ownsRowF_of h2
    refine ⟨v', w', h1, ⟨h5.1, ?_⟩, h3, fun k hk => .inl (h5.lt k hk).1⟩
    rcases h5.2 with hn | ⟨g, cap, cur, fz, a1, a2, rest⟩
    · exact .inl hn
    · exact .inr ⟨g, cap, cur, fz, a1, Nat.zero_le _, rest⟩
  · have hxl : xs.length = n := by simpa using hown.1
    have hlen : (xs ++ strCells s).length = (n + s.size) * 1 := by rw [List.length_append, hxl, strCells_length, Nat.mul_one]
    by_cases hroom : n + s.size ≤ cap
    · have hcs' : cur.size = cap := by simpa using hcs
      have hr := run_append_room_stringF (P := P) w t u ty e i ht hu hi hsize g n cap cur fz hg (by simpa using hfz) s hroom (by omega)
      refine ⟨_, _, hr, ⟨hlen, .inr ⟨g, cap, _, fz, rfl, hbg, setRow_heap w g cur _ e _ hg, by omega, hroom, hcm, ?_, ?_⟩⟩, ⟨rfl, rfl, rfl, by simp, fun k _ hk => setRow_other w g k _ (fun e => hk (by simp [Value.ownBlock, e]))⟩, fun k hk => .inr hk⟩
      · simp only [List.size_toArray, List.length_append, List.length_take, List.length_drop, Array.length_toList, strCells_length]
        omega
      · have ht' : cur.toList.take n = xs := by simpa using htake
        rw [ht', ← hlen]
        exact List.take_left
    · have holds : ∀ j u, xs[j]? = some u → w.cell? ((⟨g, 0, none⟩ : Addr).add j) = some u := hown.cells (g := g) rfl
      have hr := run_append_grow_string (P := P) w t u ty e i (.int .u8 0) ht hu hi hz ⟨g, 0, none⟩ n cap xs (by rw [hsize]; simpa using hxl) holds s (by omega) (by omega) (by rw [hby]; exact growslice_fits (by omega) (by omega))
      have hge := grownCap_ge w (n + s.size) cap e
      have hcm2 : grownCap w (n + s.size) cap e ≤ maxLen := grownCap_le_maxLen w (n + s.size) cap e h63
      refine ⟨_, _, hr, ⟨hlen, .inr ⟨w.heap.size, _, _, (0, 0), rfl, Nat.zero_le _, heap_alloc_new w.drew _, Nat.zero_le _, hge, hcm2, ?_, ?_⟩⟩, ⟨rfl, rfl, rfl, by simp, fun k hk _ => heap_alloc_old w.drew _ hk⟩, fun k hk => .inl ?_⟩
      · have hz1 : (Value.int IntKind.u8 0).cells.size = 1 := rfl
        simp only [Array.size_append, List.size_toArray, size_zeroCells, hz1, hxl, strCells_length]
        omega
      · simp only [Array.toList_append, List.append_assoc]
        rw [← List.append_assoc, ← hlen]
        exact List.take_left
      · simp [Value.ownBlock] at hk
        omega
theorem wp_app_own {ops : Array Oper} {rest : List Oper} {o : Oper} {a : Act} {Q : Exit → Act → World → Prop} (hgd : o.guard = none) (sl x : Operand) (t u : TypeId)
    (ho : o.op = .call { callee := .builtin .append, args := #[sl, x], argTypes := #[t, u] })
    (e : TypeId) (i : TypeInfo) (ht : P.underlying t = some (.slice e)) (hu : P.underlying u = some .string) (hi : P.info? e = some i) (hz : i.zero = some (.int .u8 0))
    (hsize : i.size = 1) (hby : i.bytes = 1)
    (v : Value) (n : Nat) (xs : List Value) (hs : a.eval sl = v) (hown : w.ownsRowF 0 e 1 v n xs) (s : ByteArray) (hx : a.eval x = .string s)
    (hbytes : n + s.size ≤ 140737488355328)
    (h : ∀ v' w', w'.ownsRowF 0 e 1 v' (n + s.size) (xs ++ strCells s) → w.grownBy w' v.ownBlock → (∀ k, v'.ownBlock = some k → w.heap.size ≤ k ∨ v.ownBlock = some k) → wpList P ops Q rest (a.put o.dst v') w') : wpList P ops Q (o :: rest) a w := by
  refine wpList_plain hgd fun K hK => ?_
  obtain ⟨v', w', hr, h2, h3, h4⟩ := app_own (P := P) w t u o.type e i ht hu hi hz hsize hby v n xs hown s hbytes
  unfold Oper.wp execOp
  simp only [ho, resolve, invoke, builtin, Sem.run_bind, Sem.run_pure, Result.andThen_ok, List.map_toArray, List.map_cons, List.map_nil, hs, hx, hr]
  exact hK _ _ (h v' w' h2 h3 h4)
end app
theorem strCells_app (s t : ByteArray) : Lib.strCells s ++ Lib.strCells t = Lib.strCells (s ++ t) := by simp [Lib.strCells]
set_option maxHeartbeats 2000000 in
set_option maxRecDepth 100000 in
theorem ws (w : World) (g : GI) (s t : ByteArray) (h : BldR w g s) (hnd : (g.blk :: g.sub).Nodup) (hlen : s.size + t.size ≤ 140737488355328) :
    Calls Tryz.prog 17 #[.pointer (some ⟨g.blk, 0, none⟩), .string t] w fun e w' => e = .returned (.tuple #[.int .i64 t.size, .nilIface]) ∧ Rest w w' ∧ (∀ k, k < w.heap.size → k ∉ g.blk :: g.sub → w'.heap[k]? = w.heap[k]?) ∧
      ∃ sub, BldR w' { g with sub := sub } (s ++ t) ∧ (g.blk :: sub).Nodup ∧ ∀ b ∈ sub, w.heap.size ≤ b ∨ b ∈ g.sub := by
  obtain ⟨i0, hi, hi2⟩ := Option.map_eq_some_iff.1 info5
  simp only [Prod.mk.injEq] at hi2
  obtain ⟨hz0, hz1, hz2⟩ := hi2
  go_enter Tryz.func17, Tryz.ntmps17
  go_wp2_with (go_at_call 34; refine (cc w g s h hnd).mono ?_)
  rintro e w1 ⟨rfl, v, hbk, hown, hsub, hr1, hsz, hk1⟩
  have c1 : w1.cell? ⟨g.blk, 1, none⟩ = some v := by rw [Lib.cell_of_heap hbk]; rfl
  have hne := own_ne hsub hnd
  go_wp2_with (at_builtin; refine wp_app_own _ rfl _ _ 34 9 rfl 5 i0 Tryz.underlying34 Tryz.underlying9 hi hz0 hz1 hz2 _ _ _ rfl hown t rfl hlen ?_)
  intro v' w2 hown' hgrow hnew
  have hlt : g.blk < w1.heap.size := (Array.getElem?_eq_some_iff.1 hbk).1
  have hb2 : w2.heap[g.blk]? = some (.cells #[.pointer (some ⟨g.blk, 0, none⟩), v] 36 (0, 0)) := by
    rw [hgrow.block g.blk hlt (fun e => hne e.symm)]
    exact hbk
  have d1 : w2.cell? ⟨g.blk, 1, none⟩ = some v := by rw [Lib.cell_of_heap hb2]; rfl
  have f1 : w2.frozen? ⟨g.blk, 1, none⟩ = false := Lib.frozen_of_heap hb2 1
  obtain ⟨ao, n', cap, rfl⟩ : ∃ ao n' cap, v' = .slice ao n' cap := by
    rcases hown'.2 with ⟨hv, _⟩ | ⟨g, cap, cur, fz, hv, _⟩
    · exact ⟨_, _, _, hv⟩
    · exact ⟨_, _, _, hv⟩
  go_wp2
  go_ret2
  have hne' : (Value.slice ao n' cap).ownBlock ≠ some g.blk := fun e => by
    rcases hnew _ e with h1 | h1
    · omega
    · exact hne h1
  refine ⟨rfl, ⟨?_, ?_, ?_, ?_⟩, ?_, (Value.slice ao n' cap).ownBlock.toList, ⟨.pointer (some ⟨g.blk, 0, none⟩), .slice ao n' cap, .inr rfl, heap_setCell_same w2 g.blk 1 _ _ _ hb2, ?_, rfl⟩, ?_, ?_⟩
  · exact hgrow.os.trans hr1.os
  · exact hgrow.tape.trans hr1.tape
  · exact hgrow.output.trans hr1.output
  · have := hgrow.size; simp [World.setCell]; omega
  · intro k hk hn
    simp only [List.mem_cons, not_or] at hn
    rw [heap_setCell_other _ _ _ _ hn.1, hgrow.block k (by omega) (fun e => hn.2 (by rw [hsub, ← e]; simp)), hk1 k hn.1]
  · have := hown'.kept (grown_set w2 g.blk 1 (.slice ao n' cap)) (.inr hne')
    rw [strCells_app] at this
    have e : (s ++ t).size = s.size + t.size := by simp
    rw [e]; exact this
  · cases e : (Value.slice ao n' cap).ownBlock with
    | none => simp
    | some k => 
      have : k ≠ g.blk := fun h => hne' (by rw [e, h])
      simp [Ne.symm this]
  · intro b hb
    have hb : (Value.slice ao n' cap).ownBlock = some b := by simpa using hb
    rcases hnew b hb with h1 | h1
    · exact .inl (by omega)
    · exact .inr (by rw [hsub, h1]; simp)
/-- What a reading of a builder leaves. -/
def Left (w w' : World) (g : GI) : Prop := Rest w w' ∧ ∀ k, k < w.heap.size → k ∉ g.blk :: g.sub → w'.heap[k]? = w.heap[k]?
theorem left_drew (w : World) (g : GI) : Left w w.drew g := ⟨⟨rfl, rfl, rfl, Nat.le_refl _⟩, fun _ _ _ => rfl⟩
theorem left_alloc (w : World) (g : GI) (o : Obj) : Left w (w.drew.alloc o) g := ⟨⟨rfl, rfl, rfl, by show w.heap.size ≤ (w.heap.push o).size; simp⟩, fun k hk _ => Lib.alloc_old w.drew o k hk⟩
theorem left_freeze (w : World) (g : GI) (k n : Nat) (hk : k ∈ g.sub) : Left w (w.drew.freeze ⟨k, 0, none⟩ n) g := by
  unfold World.freeze
  split
  · exact left_drew w g
  · refine ⟨⟨rfl, rfl, rfl, by show w.heap.size ≤ (w.heap.modify _ _).size; simp⟩, fun j hj hn => ?_⟩
    show (w.heap.modify _ _)[j]? = _
    simp only [Array.getElem?_modify]
    rw [if_neg (fun e => hn (by rw [← e]; simp [hk]))]
theorem mixed19 : Tryz.prog.follows .mixedOrders = true := by kernel_rfl
set_option maxHeartbeats 2000000 in
set_option maxRecDepth 100000 in
theorem st_nil (w : World) (g : GI) (p : Value) (hbk : w.heap[g.blk]? = some (.cells #[p, .slice none 0 0] 36 (0, 0))) :
    Calls Tryz.prog 19 #[.pointer (some ⟨g.blk, 0, none⟩)] w fun e w' => e = .returned (.string .empty) ∧ Left w w' g := by
  have hUS : ∀ (W : World) (q : Option Addr), (Builtin.unsafeString_ #[61, 3] 9 #[.pointer q, .int .i64 0]).run Tryz.prog W = .ok (.string .empty) W := fun W q => Lib.run_unsafeString_none W _ _ _ q
  have c1 : w.drew.cell? ⟨g.blk, 1, none⟩ = some (.slice none 0 0) := by
    have : w.drew.heap[g.blk]? = some (.cells #[p, .slice none 0 0] 36 (0, 0)) := hbk
    rw [Lib.cell_of_heap this]; rfl
  have hSD : (Builtin.unsafeSliceData_ #[34] 61 #[.slice none 0 0]).run Tryz.prog w.drew = .ok (.pointer none) w.drew := rfl
  have mixed := mixed19
  go_enter Tryz.func19, Tryz.ntmps19
  go_wp2
  go_region_o
  all_goals (go_wp2; go_ret; exact ⟨rfl, left_drew w g⟩)
set_option maxHeartbeats 2000000 in
set_option maxRecDepth 100000 in
theorem st_noroom (w : World) (g : GI) (p : Value) (k : Nat) (cur : Array Value) (fz : Nat × Nat) (hbk : w.heap[g.blk]? = some (.cells #[p, .slice (some ⟨k, 0, none⟩) 0 0] 36 (0, 0))) (hg : w.heap[k]? = some (.cells cur 5 fz)) :
    Calls Tryz.prog 19 #[.pointer (some ⟨g.blk, 0, none⟩)] w fun e w' => e = .returned (.string .empty) ∧ Left w w' g := by
  have hUS : ∀ (W : World) (q : Option Addr), (Builtin.unsafeString_ #[61, 3] 9 #[.pointer q, .int .i64 0]).run Tryz.prog W = .ok (.string .empty) W := fun W q => Lib.run_unsafeString_none W _ _ _ q
  have hlt : g.blk < w.heap.size := (Array.getElem?_eq_some_iff.1 hbk).1
  have c1 : w.drew.cell? ⟨g.blk, 1, none⟩ = some (.slice (some ⟨k, 0, none⟩) 0 0) := by
    have : w.drew.heap[g.blk]? = some (.cells #[p, .slice (some ⟨k, 0, none⟩) 0 0] 36 (0, 0)) := hbk
    rw [Lib.cell_of_heap this]; rfl
  have hSD : (Builtin.unsafeSliceData_ #[34] 61 #[.slice (some ⟨k, 0, none⟩) 0 0]).run Tryz.prog w.drew = .ok (.pointer (some ⟨w.drew.heap.size, 0, none⟩)) (w.drew.alloc (.view ⟨k, 0, none⟩ 5)) :=
    Lib.run_unsafeSliceData_zero w.drew _ _ 5 Tryz.underlying61 ⟨k, 0, none⟩ 0 (5, cur.size) (by have hg' : w.drew.heap[k]? = some (.cells cur 5 fz) := hg; simp [World.shape?, hg'])
  have c2 : (w.drew.alloc (.view ⟨k, 0, none⟩ 5)).cell? ⟨g.blk, 1, none⟩ = some (.slice (some ⟨k, 0, none⟩) 0 0) := by
    have : (w.drew.alloc (.view ⟨k, 0, none⟩ 5)).heap[g.blk]? = _ := (Lib.alloc_old w.drew _ g.blk hlt).trans hbk
    rw [Lib.cell_of_heap this]; rfl
  have c3 : (w.alloc (.view ⟨k, 0, none⟩ 5)).drew.cell? ⟨g.blk, 1, none⟩ = some (.slice (some ⟨k, 0, none⟩) 0 0) := c2
  have c0 : w.cell? ⟨g.blk, 1, none⟩ = some (.slice (some ⟨k, 0, none⟩) 0 0) := c1
  have mixed := mixed19
  go_enter Tryz.func19, Tryz.ntmps19
  go_wp2
  go_region_o
  all_goals (go_wp2; go_ret; exact ⟨rfl, left_alloc w g _⟩)
set_option maxHeartbeats 2000000 in
set_option maxRecDepth 100000 in
theorem st_room (w : World) (g : GI) (p : Value) (k cap : Nat) (hc0 : cap ≠ 0) (hbk : w.heap[g.blk]? = some (.cells #[p, .slice (some ⟨k, 0, none⟩) 0 cap] 36 (0, 0))) :
    Calls Tryz.prog 19 #[.pointer (some ⟨g.blk, 0, none⟩)] w fun e w' => e = .returned (.string .empty) ∧ Left w w' g := by
  have hUS : ∀ (W : World) (q : Option Addr), (Builtin.unsafeString_ #[61, 3] 9 #[.pointer q, .int .i64 0]).run Tryz.prog W = .ok (.string .empty) W := fun W q => Lib.run_unsafeString_none W _ _ _ q
  have c1 : w.drew.cell? ⟨g.blk, 1, none⟩ = some (.slice (some ⟨k, 0, none⟩) 0 cap) := by
    have : w.drew.heap[g.blk]? = some (.cells #[p, .slice (some ⟨k, 0, none⟩) 0 cap] 36 (0, 0)) := hbk
    rw [Lib.cell_of_heap this]; rfl
  have hSD : (Builtin.unsafeSliceData_ #[34] 61 #[.slice (some ⟨k, 0, none⟩) 0 cap]).run Tryz.prog w.drew = .ok (.pointer (some ⟨k, 0, none⟩)) w.drew :=
    Lib.run_unsafeSliceData_row _ _ _ _ _ _ hc0
  clear hc0
  have mixed := mixed19
  go_enter Tryz.func19, Tryz.ntmps19
  go_wp2
  go_region_o
  all_goals (go_wp2; go_ret; exact ⟨rfl, left_drew w g⟩)
set_option maxHeartbeats 2000000 in
set_option maxRecDepth 100000 in
theorem st_some (w : World) (g : GI) (p : Value) (k cap : Nat) (s : ByteArray) (cur : Array Value) (fz : Nat × Nat) (h0 : s.size ≠ 0) (hk : k ∈ g.sub) (hbk : w.heap[g.blk]? = some (.cells #[p, .slice (some ⟨k, 0, none⟩) s.size cap] 36 (0, 0)))
    (hg : w.heap[k]? = some (.cells cur 5 fz)) (hnc : s.size ≤ cap) (hcm : cap ≤ maxLen) (hcs : cur.size = cap * 1) (htake : cur.toList.take (s.size * 1) = Lib.strCells s) :
    Calls Tryz.prog 19 #[.pointer (some ⟨g.blk, 0, none⟩)] w fun e w' => e = .returned (.string s) ∧ Left w w' g := by
  have hsl : s.data.toList.length = s.size := rfl
  have c1 : w.drew.cell? ⟨g.blk, 1, none⟩ = some (.slice (some ⟨k, 0, none⟩) s.size cap) := by
    have : w.drew.heap[g.blk]? = some (.cells #[p, .slice (some ⟨k, 0, none⟩) s.size cap] 36 (0, 0)) := hbk
    rw [Lib.cell_of_heap this]; rfl
  have hSD : (Builtin.unsafeSliceData_ #[34] 61 #[.slice (some ⟨k, 0, none⟩) s.size cap]).run Tryz.prog w.drew = .ok (.pointer (some ⟨k, 0, none⟩)) w.drew :=
    Lib.run_unsafeSliceData_row _ _ _ _ _ _ (by omega)
  have hUS : (Builtin.unsafeString_ #[61, 3] 9 #[.pointer (some ⟨k, 0, none⟩), .int .i64 s.size]).run Tryz.prog w.drew = .ok (.string s) (w.drew.freeze ⟨k, 0, none⟩ s.size) := by
    have := Lib.run_unsafeString_row (P := Tryz.prog) (ty := 9) w.drew 61 3 5 Tryz.underlying61 cells5 k cur.size (by have hg' : w.drew.heap[k]? = some (.cells cur 5 fz) := hg; simp [World.shape?, hg']) s.data.toList (fun e => h0 (by rw [← hsl, e]; rfl)) (by omega) (by unfold maxLen at hcm; omega) (fun j x hx => by
      have hadd : (⟨k, 0, none⟩ : Addr).add j = ⟨k, j, none⟩ := by unfold Addr.add; split <;> simp_all
      have hj : j < s.size := by rw [← hsl]; exact (List.getElem?_eq_some_iff.1 hx).1
      have h1 : (Lib.strCells s)[j]? = some (.int .u8 x.toNat) := by simp [Lib.strCells, hx]
      rw [← htake, List.getElem?_take, if_pos (by omega)] at h1
      have hg' : w.drew.heap[k]? = some (.cells cur 5 fz) := hg
      rw [hadd, Lib.cell_of_heap hg']
      simpa using h1)
    rw [hsl] at this
    exact this
  have mixed := mixed19
  go_enter Tryz.func19, Tryz.ntmps19
  go_wp2
  go_region_o
  all_goals (go_wp2; go_ret; exact ⟨rfl, left_freeze w g k _ hk⟩)
theorem st (w : World) (g : GI) (s : ByteArray) (h : BldR w g s) :
    Calls Tryz.prog 19 #[.pointer (some ⟨g.blk, 0, none⟩)] w fun e w' => e = .returned (.string s) ∧ Left w w' g := by
  obtain ⟨p, v, hp, hb, hv, hs⟩ := h
  have he : s.size = 0 → s = ByteArray.empty := fun h => by
    apply ByteArray.ext
    apply Array.eq_empty_of_size_eq_zero
    exact h
  rcases hv.2 with ⟨rfl, h0⟩ | ⟨k, cap, cur, fz, rfl, _, hg, hfz, hnc, hcm, hcs, htake⟩
  · rw [he h0]; exact st_nil w g p hb
  · by_cases h0 : s.size = 0
    · rw [he h0]
      rw [h0] at hb
      by_cases hc0 : cap = 0
      · subst hc0; exact st_noroom w g p k cur fz hb hg
      · exact st_room w g p k cap hc0 hb
    · exact st_some w g p k cap s cur fz h0 (by rw [hs]; simp [Value.ownBlock]) hb hg hnc hcm hcs htake
theorem enter17 (a : Array Value) (w : World) : (callFunc 17 a).run Tryz.prog w = .ok (.enter 17 a) w := enters_of Tryz.func17 (by kernel_rfl) rfl a w
theorem enter19 (a : Array Value) (w : World) : (callFunc 19 a).run Tryz.prog w = .ok (.enter 19 a) w := enters_of Tryz.func19 (by kernel_rfl) rfl a w
theorem gv17 (s : ByteArray) (ds : List D) (r : D × Option ByteArray) (h : bW s ds = some r) : BdOK Tryz.prog 17 s ds r := by
  unfold bW at h
  split at h
  case h_2 => cases h
  rename_i t
  split at h
  case isFalse => cases h
  rename_i hlen
  cases h
  intro w g vs Sd hkn hn hB hnd ha
  obtain ⟨us, Sd', rfl, ha'⟩ := args_s (ds := []) ha
  obtain ⟨rfl, _⟩ := args_n ha'
  refine .inl ⟨enter17 _ _, (ws w g s t hB hnd hlen).mono fun e w' hp => ?_⟩
  obtain ⟨rfl, h1, h2, h3⟩ := hp
  exact ⟨h1, h2, ⟨.t _ _ _ (.cons _ _ _ _ _ _ (.i _ _) (.cons _ _ _ _ _ _ .ni .nil)), flat_tuple (vs := [.int .i64 t.size, .nilIface]) (by simp [Value.oneCell'])⟩, fun s' hs' => by cases hs'; exact h3⟩
theorem gv19 (s : ByteArray) (ds : List D) (r : D × Option ByteArray) (h : bS s ds = some r) : BdOK Tryz.prog 19 s ds r := by
  unfold bS at h
  split at h
  case h_2 => cases h
  cases h
  intro w g vs Sd hkn hn hB hnd ha
  obtain ⟨rfl, _⟩ := args_n ha
  refine .inl ⟨enter19 _ _, (st w g s hB).mono fun e w' hp => ?_⟩
  obtain ⟨rfl, h1, h2⟩ := hp
  exact ⟨h1, h2, ⟨.s _, .inl (flat_one rfl)⟩, fun s' hs' => by cases hs'⟩
end Go.Fs.Se
namespace Go.Fs.Se
theorem gv_ok : SumOK Go.Proofs.Tryz.prog gv := by
  intro f s h
  unfold gv at h
  split at h
  · cases h; exact gv17
  · cases h; exact gv19
  · cases h; exact gv47
  · cases h; exact gv68
  · cases h; intro ds r hr; exact (gv79 ds r hr).share
  · cases h; exact gv81
  · cases h; exact gv105
  · cases h; exact gv163
  · cases h
theorem mok : PrmOK M := ⟨tab_ok, mixed, gv_ok⟩
theorem log_row (s : ByteArray) : FnOK Go.Proofs.Tryz.prog 3 [.d (.s s)] { ret := .b true } := by
  have h := n3_true s
  unfold n3 fnO at h
  obtain ⟨r, hr, hd⟩ := Option.bind_eq_some_iff.1 h
  have e1 : r = .b true := Dat.enc_dec r true hd
  subst e1
  exact lastR_ok mok 3 (.own ((lastR M).o 3)) rfl [Dat.enc s] _ hr
theorem gain_row (s : ByteArray) : FnOK Go.Proofs.Tryz.prog 4 [.d (.s s)] { ret := .b true } := by
  have h := n4_true s
  unfold n4 fnO at h
  obtain ⟨r, hr, hd⟩ := Option.bind_eq_some_iff.1 h
  have e1 : r = .b true := Dat.enc_dec r true hd
  subst e1
  exact lastR_ok mok 4 (.own ((lastR M).o 4)) rfl [Dat.enc s] _ hr
end Go.Fs.Se
namespace Go.Fs
open Go.RowKit
/-- The last step of a law's row: from the function's contract to its calls. -/
theorem calls_of_fnOK {P : Program} {f : FuncId} {args : List Value} {ins : List In} {out : Ret} (h : FnOK P f ins out) (hc : ∀ (a : Array Value) (w : World), (callFunc f a).run P w = .ok (.enter f a) w) {w : World} {Sd : List Nat} (hk : KnW w (· ∈ ([] : List Nat))) (ha : ArgsR w args ins Sd []) :
    Calls P f args.toArray w fun e w' => ∃ v, e = .returned v ∧ Post w args Sd [] out v w' := by
  rcases h w args Sd [] hk ha List.nodup_nil (by simp) with ⟨_, h2⟩ | ⟨v, w', h1, _⟩
  · refine h2.mono fun e w' he => ?_
    cases e with
    | returned v => exact ⟨v, rfl, he⟩
    | panicked c => exact he.elim
    | outgrown => exact he.elim
  · rw [hc] at h1; cases h1
theorem Post.below {w w' : World} {args : List Value} {Sd : List Nat} {out : Ret} {v : Value} (h : Post w args Sd [] out v w') : Below w.heap.size w w' :=
  ⟨h.rest.os, h.rest.tape, h.rest.output, h.rest.size, fun k hk => h.keep k hk (by simp)⟩
theorem Post.bool {w w' : World} {args : List Value} {Sd : List Nat} {b : Bool} {v : Value} (h : Post w args Sd [] { ret := .b b } v w') : v = .bool b := by
  obtain ⟨S, Si, h1, _⟩ := h.res
  exact h1.inv_b.1
section arr
variable {P : Program} {w : World} {t e : TypeId} {cs : List Value} {fuel : Nat} {p : List MemPlace}
theorem arr_cells {n : Nat} (ht : P.underlying t = some (.array n e)) (hc : P.cellsOf e = 1) (hn : P.cellsOf t = n) {ds : List (DataW Unit)} (h : DataW.trod (fun _ => ()) P w 0 (fun _ => true) false fuel t cs = some (.agg ds, p)) :
    cs.length = n ∧ ds.length = n ∧ ∀ i, i < n → ∃ m q d v, ds[i]? = some d ∧ cs[i]? = some v ∧ DataW.trod (fun _ => ()) P w 0 (fun _ => true) false m e [v] = some (d, q) := by
  obtain ⟨xs, m, _, ex, hl, hx, hel⟩ := DataW.trod_array ht h
  have e1 : ds = xs.map (·.1) := by
    have := (Prod.mk.inj ex).1
    exact DataW.agg.inj this
  refine ⟨by omega, by rw [e1, List.length_map]; exact hx, fun i hi => ?_⟩
  have hE := hel i hi
  rw [hc, Nat.mul_one, List.getElem?_eq_getElem (by omega)] at hE
  have hv : (cs.drop i).take 1 = [cs[i]'(by omega)] := by
    rw [List.drop_eq_getElem_cons (by omega)]; rfl
  rw [hv] at hE
  exact ⟨m, (xs[i]'(by omega)).2, (xs[i]'(by omega)).1, cs[i]'(by omega), by rw [e1, List.getElem?_map, List.getElem?_eq_getElem (by omega)]; rfl, List.getElem?_eq_getElem (by omega), hE⟩
theorem arr_strs {n : Nat} (ht : P.underlying t = some (.array n e)) (he : P.underlying e = some .string) (hc : P.cellsOf e = 1) (hn : P.cellsOf t = n) {ws : List ByteArray} (h : DataW.trod (fun _ => ()) P w 0 (fun _ => true) false fuel t cs = some (.agg (ws.map fun s => .lit (.string s.data.toList)), p)) :
    cs = ws.map Value.string := by
  obtain ⟨h1, h2, h3⟩ := arr_cells ht hc hn h
  rw [List.length_map] at h2
  apply List.ext_getElem?
  intro i
  by_cases hi : i < n
  · obtain ⟨m, q, d, v, h4, h5, h6⟩ := h3 i hi
    obtain ⟨s, e1, e2, _⟩ := DataW.trod_string he h6
    rw [h5]
    rw [List.getElem?_map] at h4 ⊢
    rw [List.getElem?_eq_getElem (by omega)] at h4 ⊢
    simp only [Option.map_some, Option.some.injEq] at h4 ⊢
    have e3 : d = .lit (.string s.data.toList) := (Prod.mk.inj e2).1
    rw [e3] at h4
    have e4 : (ws[i]'(by omega)).data.toList = s.data.toList := by
      injection h4 with h4
      injection h4
    have e5 : ws[i]'(by omega) = s := Pl.un_inj.1 e4
    rw [e5]
    injection e1 with e1 _
  · rw [List.getElem?_eq_none (by omega), List.getElem?_eq_none (by rw [List.length_map]; omega)]
theorem arr_ints {n : Nat} {k : IntKind} (ht : P.underlying t = some (.array n e)) (he : P.underlying e = some (.int k)) (hc : P.cellsOf e = 1) (hn : P.cellsOf t = n) {zs : List Int} (h : DataW.trod (fun _ => ()) P w 0 (fun _ => true) false fuel t cs = some (.agg (zs.map fun z => .lit (.int k z)), p)) :
    cs = zs.map (Value.int k) := by
  obtain ⟨h1, h2, h3⟩ := arr_cells ht hc hn h
  rw [List.length_map] at h2
  apply List.ext_getElem?
  intro i
  by_cases hi : i < n
  · obtain ⟨m, q, d, v, h4, h5, h6⟩ := h3 i hi
    obtain ⟨s, e1, e2, _⟩ := DataW.trod_int he h6
    rw [h5]
    rw [List.getElem?_map] at h4 ⊢
    rw [List.getElem?_eq_getElem (by omega)] at h4 ⊢
    simp only [Option.map_some, Option.some.injEq] at h4 ⊢
    have e3 : d = .lit (.int k s) := (Prod.mk.inj e2).1
    rw [e3] at h4
    injection h4 with h4
    injection h4 with _ h4
    rw [h4]
    injection e1 with e1 _
  · rw [List.getElem?_eq_none (by omega), List.getElem?_eq_none (by rw [List.length_map]; omega)]
theorem if_cell {ms : Array (String × TypeId)} (ht : P.underlying t = some (.interface ms)) {d : DataW Unit} (h : DataW.trod (fun _ => ()) P w 0 (fun _ => true) false fuel t cs = some (d, p)) : ∃ v, cs = [v] ∧ ifV v := by
  cases fuel with
  | zero => simp [DataW.trod] at h
  | succ m =>
    unfold DataW.trod at h
    rw [ht] at h
    split at h <;> simp_all [ifV]
theorem heap_var {n : String} {g : Nat} {cs : Array Value} (hg : P.globalNamed n = some g) (hv : w.var? P n = some cs) : ∃ el fr, w.heap[g]? = some (.cells cs el fr) := by
  unfold World.var? at hv
  rw [hg] at hv
  simp only [Option.bind_some] at hv
  split at hv
  · next el fr h => cases hv; exact ⟨_, _, h⟩
  · cases hv
end arr
end Go.Fs
namespace Go.Proofs.YtkgkoolfobmfnaaGreatDoor.LawT
open Go.ChangeShapes Go.WideShapes Go.ChangeAt Go.RowKit Go.Fs Go.Fs.Se
theorem own : ownKnob Tryz.prog.godebug = none := by kernel_rfl
theorem laidOut : laidOutB Tryz.prog = true := by kernel_rfl
theorem d_op : (Rows.laid_loop_example_smithy_impl_opWords : DataW Unit) = .agg (opW.map fun s => .lit (.string s.data.toList)) := by kernel_rfl
theorem d_ty : (Rows.laid_loop_example_smithy_impl_typeWords : DataW Unit) = .agg (tyW.map fun s => .lit (.string s.data.toList)) := by kernel_rfl
theorem d_pow : (Rows.laid_internal_strconv_uint64pow10 : DataW Unit) = .agg (Lib.pow10Tab.map fun z => .lit (.int .u64 z)) := by kernel_rfl
theorem kn_laid {W : World} (h : laidMetH Tryz.prog Rows.fnExactTrimLogRow.laid W) (hs : W.ShapedOpen Tryz.prog) : KnW W (· ∈ ([] : List Nat)) := by
  rw [MakeChecks.laidMetH_plain _ _ _ (by kernel_rfl)] at h
  obtain ⟨ps, ⟨g1, t1, c1, f1, p1, q1, hg1, ht1, hv1, hd1, ⟨g2, t2, c2, f2, p2, q2, hg2, ht2, hv2, hd2, ⟨g3, t3, c3, f3, p3, q3, hg3, ht3, hv3, hd3, ⟨g4, t4, c4, f4, p4, q4, hg4, ht4, hv4, hd4, ⟨g5, t5, c5, f5, p5, q5, hg5, ht5, hv5, hd5, ⟨g6, t6, c6, f6, p6, q6, hg6, ht6, hv6, hd6, ⟨g7, t7, c7, f7, p7, q7, hg7, ht7, hv7, hd7, ⟨g8, t8, c8, f8, p8, q8, hg8, ht8, hv8, hd8, _⟩, _⟩, _⟩, _⟩, _⟩, _⟩, _⟩, _⟩, _, _⟩ := h
  have n2 : Tryz.prog.globalNamed "math/bits.deBruijn64tab" = some 10 := by kernel_rfl
  have n3 : Tryz.prog.globalNamed "internal/strconv.uint64pow10" = some 6 := by kernel_rfl
  have n5 : Tryz.prog.globalNamed "strconv.ErrRange" = some 5 := by kernel_rfl
  have n6 : Tryz.prog.globalNamed "strconv.ErrSyntax" = some 4 := by kernel_rfl
  have n7 : Tryz.prog.globalNamed "loop.example/smithy/impl.typeWords" = some 1 := by kernel_rfl
  have n8 : Tryz.prog.globalNamed "loop.example/smithy/impl.opWords" = some 0 := by kernel_rfl
  have k3 : (Tryz.prog.globals[6]?).map (·.type) = some 221 := by kernel_rfl
  have k5 : (Tryz.prog.globals[5]?).map (·.type) = some 38 := by kernel_rfl
  have k6 : (Tryz.prog.globals[4]?).map (·.type) = some 38 := by kernel_rfl
  have k7 : (Tryz.prog.globals[1]?).map (·.type) = some 156 := by kernel_rfl
  have k8 : (Tryz.prog.globals[0]?).map (·.type) = some 121 := by kernel_rfl
  obtain rfl := Option.some.inj (n2.symm.trans hg2)
  obtain rfl := Option.some.inj (n3.symm.trans hg3)
  obtain rfl := Option.some.inj (n5.symm.trans hg5)
  obtain rfl := Option.some.inj (n6.symm.trans hg6)
  obtain rfl := Option.some.inj (n7.symm.trans hg7)
  obtain rfl := Option.some.inj (n8.symm.trans hg8)
  obtain rfl := Option.some.inj (k3.symm.trans ht3)
  obtain rfl := Option.some.inj (k5.symm.trans ht5)
  obtain rfl := Option.some.inj (k6.symm.trans ht6)
  obtain rfl := Option.some.inj (k7.symm.trans ht7)
  obtain rfl := Option.some.inj (k8.symm.trans ht8)
  rw [d_pow] at hd3
  rw [d_ty] at hd7
  rw [d_op] at hd8
  have e3 := arr_ints (k := .u64) Tryz.underlying221 Tryz.underlying198 (by kernel_rfl) (by kernel_rfl) hd3
  have e7 := arr_strs Tryz.underlying156 Tryz.underlying9 (by kernel_rfl) (by kernel_rfl) hd7
  have e8 := arr_strs Tryz.underlying121 Tryz.underlying9 (by kernel_rfl) (by kernel_rfl) hd8
  obtain ⟨v5, e5, i5⟩ := if_cell Tryz.underlying38 hd5
  obtain ⟨v6, e6, i6⟩ := if_cell Tryz.underlying38 hd6
  obtain ⟨l2, r2, h2⟩ := heap_var n2 hv2
  obtain ⟨l3, r3, h3⟩ := heap_var n3 hv3
  obtain ⟨l7, r7, h7⟩ := heap_var n7 hv7
  obtain ⟨l8, r8, h8⟩ := heap_var n8 hv8
  refine ⟨⟨fun g ws hg => ?_, ?_, ⟨v6, ?_, i6⟩, ⟨v5, ?_, i5⟩, ⟨l3, r3, ?_⟩⟩, ?_, fun b hb => by cases hb⟩
  · unfold gT at hg
    split at hg
    · cases hg
      exact ⟨c8, l8, r8, h8, fun j v hj => by rw [← e8] at hj; simpa using hj⟩
    · cases hg
      exact ⟨c7, l7, r7, h7, fun j v hj => by rw [← e7] at hj; simpa using hj⟩
    · cases hg
  · exact cell_of_shapedOpen_int (t := 3) (zero := #[.int .i64 0]) hs (of_decide_eq_true (by kernel_rfl)) (by kernel_rfl) rfl (by kernel_rfl) (by kernel_rfl) Tryz.underlying3
  · rw [World.var?_cell n6 hv6 0, ← Array.getElem?_toList, e6]; rfl
  · rw [World.var?_cell n5 hv5 0, ← Array.getElem?_toList, e5]; rfl
  · rw [h3]
    have : c3 = (Lib.pow10Tab.map fun z => Value.int .u64 z).toArray := by
      rw [← e3]
    rw [this]
  · have := (Array.getElem?_eq_some_iff.1 h2).1
    show 11 ≤ W.heap.size
    omega
end Go.Proofs.YtkgkoolfobmfnaaGreatDoor.LawT
