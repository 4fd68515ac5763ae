/- A part of the proof: an evaluator of the program's code over plain data, proved sound; the equations of its functions; what they compute. No conditions beyond those in the theorems. -/
import Derived.WalkKit
import Derived.ProofKit
import Derived.OpenShut
import Derived.LaidMore
import Derived.Lay
import Derived.OpenVars
import Derived.HandedShaped
import Derived.SizedLaws
import Derived.LaidLaws
import Derived.SevenTiedAt
import Derived.Stop.Joined
import Derived.Shelf.Vars
import Derived.Test.YthabefiddflefaaGreatDoorTie
import Derived.Test.YthabefiddflefaaGreatDoorCards
import Derived.Test.YthabefiddflefaaGreatDoorP4
import Derived.Test.YthabefiddflefaaGreatDoorShelf
import Derived.Test.YthabefiddflefaaGreatDoorP12
import Derived.Test.YthabefiddflefaaGreatDoorP13
set_option linter.unusedVariables false
set_option linter.unusedSimpArgs false
set_option linter.constructorNameAsVariable false
set_option linter.unusedSectionVars false
set_option linter.defProp false
namespace Go.Fs.Se
open Go.Proofs Go.RowKit Go.Sort
theorem var_pow {w : World} (h : Kn w) : Lib.TabIs Tryz.prog w "internal/strconv.uint64pow10" .u64 Lib.pow10Tab := by
 obtain ⟨el, fr, e⟩ := h.pow
 have hg : Tryz.prog.globalNamed "internal/strconv.uint64pow10" = some 4 := by kernel_rfl
 unfold Lib.TabIs World.var?
 rw [hg]
 simp only [Option.bind_some, e]
theorem drewN_below (w : World) (n : Nat) : Below w.heap.size w (w.drewN n) := ⟨rfl, rfl, rfl, Nat.le_refl _, fun _ _ => rfl⟩
theorem grow_below (w : World) (n : Nat) (os : Array Obj) : Below w.heap.size w (grow (w.drewN n) os) :=
 ⟨rfl, rfl, rfl, by simp [grow, World.drewN], fun k hk => by
  have : k < (w.drewN n).heap.size := hk
  rw [heap_grow_old _ os this]; rfl⟩
theorem bytes_below (w : World) (e : TypeId) (t : ByteArray) : Below w.heap.size w (Lib.bytesWorld w e t) := by
 unfold Lib.bytesWorld
 refine ⟨rfl, rfl, rfl, ?_, fun k hk => ?_⟩
 ·show w.heap.size ≤ ((w.heap.push _).modify _ _).size
  simp
 ·show ((w.heap.push _).modify _ _)[k]? = _
  rw [Array.getElem?_modify, if_neg (by show ¬ w.heap.size = k; omega), Array.getElem?_push, if_neg (by omega)]
theorem enter160 (a : Array Value) (w : World) : (callFunc 160 a).run Tryz.prog w = .ok (.enter 160 a) w := enters_of Tryz.func160 (by kernel_rfl) rfl a w
theorem enter159 (a : Array Value) (w : World) : (callFunc 159 a).run Tryz.prog w = .ok (.enter 159 a) w := enters_of Tryz.func159 (by kernel_rfl) rfl a w
theorem gv160 : ∀ ds r, glCut ds = some r → FnOK Tryz.prog 160 (ds.map .d) { ret := r } := ok_cut enter160 fun s sep m w hs hm => (Tryz.strings_Cut s sep m w hs hm).mono fun e w' h => by
 obtain ⟨h1, n, rfl⟩ := h
 exact ⟨h1, drewN_below w n⟩
theorem gv159 : ∀ ds r, glItoa ds = some r → FnOK Tryz.prog 159 (ds.map .d) { ret := r } := ok_itoa enter159 fun n w h0 h1 hk => (Tryz.strconv_Itoa n h0 h1 w (var_pow hk)).mono fun e w' h => by
 obtain ⟨h1, k, os, rfl⟩ := h
 exact ⟨h1, grow_below w k os⟩
theorem enter158 (a : Array Value) (w : World) : (callFunc 158 a).run Tryz.prog w = .ok (.enter 158 a) w := enters_of Tryz.func158 (by kernel_rfl) rfl a w
theorem enter49 (a : Array Value) (w : World) : (callFunc 49 a).run Tryz.prog w = .ok (.enter 49 a) w := enters_of Tryz.func49 (by kernel_rfl) rfl a w
theorem gv49 : ∀ ds r, glClone ds = some r → FnOK Tryz.prog 49 (ds.map .d) { ret := r } := ok_clone enter49 Tryz.slices_Clone_string_nil
 (fun a c w => (Tryz.slices_Clone_string_zero a c w).mono fun e w' ⟨v, h1, h2, _, h3⟩ => ⟨v, h1, h2, h3⟩)
 fun b off n c zs w h1 h2 h3 => (Tryz.slices_Clone_string b off n c zs w h1 h2 h3).mono fun e w' ⟨v, h1, h2, _, h3⟩ => ⟨v, h1, h2, h3⟩
theorem gv158 : ∀ ds r, glAtoi ds = some r → FnOK Tryz.prog 158 (ds.map .d) { ret := r } := ok_atoi enter158 fun s w hs hk => by
 obtain ⟨v1, hv1, i1⟩ := hk.syn
 obtain ⟨v2, hv2, i2⟩ := hk.rng
 cases e : Lib.atoiAll s.data.toList
 case ok n =>
  refine (Tryz.strconv_Atoi_ok s (by omega) n e w).mono fun x w' h => ?_
  obtain ⟨h1, h2⟩ := h
  refine ⟨⟨n, .nilIface, h1, by simp [lAtoi, hs, e, erB], .inl rfl⟩, ?_⟩
  rcases h2 with rfl | ⟨t, rfl⟩
  ·exact Below.refl _ _
  ·exact bytes_below w _ t
 case range =>
  refine (Tryz.strconv_Atoi_range s hs e v2 w hv2 i2).mono fun x w' h => ?_
  obtain ⟨N, h1, _, _, h2⟩ := h
  exact ⟨⟨_, _, h1, by simp [lAtoi, hs, e, erB], .inr ⟨_, _, rfl⟩⟩, h2⟩
 refine (Tryz.strconv_Atoi_syntax s hs e v1 w hv1 i1).mono fun x w' h => ?_
 obtain ⟨N, h1, _, _, h2⟩ := h
 exact ⟨⟨0, _, h1, by simp [lAtoi, hs, e, erB], .inr ⟨_, _, rfl⟩⟩, h2⟩
end Go.Fs.Se
namespace Go.Fs.Se
theorem gv_ok : SumOK Go.Proofs.Tryz.prog gv := by
 intro f s h
 unfold gv at h
 split at h
 ·cases h; exact gv49
 ·cases h; exact gv158
 ·cases h; exact gv159
 ·cases h; exact gv160
 ·cases h
theorem gd_ok : ∀ f g, gdT f = some g → ∀ S, SumOK Go.Proofs.Tryz.prog S → ∀ ds r, gcE g S ds = some r → FnOK Go.Proofs.Tryz.prog f (inO 7 ds) { ret := r } := by
 intro f g h S hS ds r hr
 unfold gdT at h
 split at h
 ·cases h; exact rd_ok hS hr
 ·cases h
theorem mok : PrmOK M := ⟨tab_ok, mixed, gv_ok, gd_ok⟩
theorem touches_row (l : List WholeSrc) (s : ByteArray) (hs : ∀ s ∈ l, s.name.size ≤ 140737488355328 ∧ s.text.size ≤ 140737488355328) (hl : l.length ≤ 140737488355328) : FnOK Go.Proofs.Tryz.prog 3 [.d (Dat.enc l), .d (.s s)] { ret := .b true } := by
 have h := n3_true s hs hl
 unfold n3 fnO at h
 obtain ⟨r, hr, hd⟩ := Option.bind_eq_some_iff.1 h
 have e1 : r = .b true := Dat.enc_dec r true hd
 subst e1
 exact lastR_ok mok 3 (.own ((lastR M).o 3)) rfl [Dat.enc l, Dat.enc s] _ hr
end Go.Fs.Se
namespace Go.Fs
open Go.RowKit
theorem calls_of_fnOK {P : Program} {f : FuncId} {args : List Value} {ins : List In} {out : Ret} (h : FnOK P f ins out) (hc : ∀ (a : Array Value) (w : World), (callFunc f a).run P w = .ok (.enter f a) w) {w : World} {Sd : List Nat} (hk : KnW w (· ∈ ([] : List Nat))) (ha : ArgsR w args ins Sd []) :
 Calls P f args.toArray w fun e w' => ∃ v, e = .returned v ∧ Post w args Sd [] out v w' := by
 rcases h w args Sd [] hk ha List.nodup_nil (by simp) with ⟨_, h2⟩ | ⟨v, w', h1, _⟩
 ·refine h2.mono fun e w' he => ?_
  cases e with
  | returned v => exact ⟨v, rfl, he⟩
  | panicked c => exact he.elim
  | outgrown => exact he.elim
 ·rw [hc] at h1; cases h1
theorem Post.below {w w' : World} {args : List Value} {Sd : List Nat} {out : Ret} {v : Value} (h : Post w args Sd [] out v w') : Below w.heap.size w w' :=
 ⟨h.rest.os, h.rest.tape, h.rest.output, h.rest.size, fun k hk => h.keep k hk (by simp)⟩
theorem Post.bool {w w' : World} {args : List Value} {Sd : List Nat} {b : Bool} {v : Value} (h : Post w args Sd [] { ret := .b b } v w') : v = .bool b := by
 obtain ⟨S, Si, h1, _⟩ := h.res
 exact h1.inv_b.1
theorem arg_slice {H : Type} {enc : TypeId × Value → H} {P : Program} {w : World} {t : TypeId} {css : List Sh} (hs : HS P t [.l css]) {v : Value} (hv : ∃ a len cap, v = .slice a len cap) {d : DataW H} {p : List MemPlace} (h : DataW.Trod enc P w 0 (fun _ => true) true t v d p) (hw : (d.weights P t).all (· ≤ reachBytes) = true) :
 ∃ xs S, Tr w false v (.l css.length xs) S ∧ Flat v ∧ shLL css xs = true ∧ okLL xs = true ∧ xs.length ≤ 140737488355328 := by
 obtain ⟨a, len, cap, rfl⟩ := hv
 obtain ⟨n, hn⟩ := h
 obtain ⟨ds, S, h1, h2, h3, h4⟩ := trod_rd n hs _ _ hn hw
 obtain ⟨c, q, rfl, e1, e2⟩ := shL_cons h3
 obtain rfl := shL_nil e2
 obtain ⟨xs, rfl, e3⟩ := shD_l e1
 rw [okL_cons, okD_l] at h4
 have hc : (Value.slice a len cap).cells.toList = [.slice a len cap] := rfl
 rw [hc] at h1 h2
 cases h1 with
 | cons _ _ S1 _ _ S2 ht hts =>
  cases hts
  exact ⟨xs, S1, ht, fun u hu => h2 u (by simpa [Value.cells] using hu), e3, h4.1.2, h4.1.1⟩
section arr
variable {P : Program} {w : World} {t e : TypeId} {cs : List Value} {fuel : Nat} {p : List MemPlace}
theorem arr_cells {n : Nat} (ht : P.underlying t = some (.array n e)) (hc : P.cellsOf e = 1) (hn : P.cellsOf t = n) {ds : List (DataW Unit)} (h : DataW.trod (fun _ => ()) P w 0 (fun _ => true) false fuel t cs = some (.agg ds, p)) :
 cs.length = n ∧ ds.length = n ∧ ∀ i, i < n → ∃ m q d v, ds[i]? = some d ∧ cs[i]? = some v ∧ DataW.trod (fun _ => ()) P w 0 (fun _ => true) false m e [v] = some (d, q) := by
 obtain ⟨xs, m, _, ex, hl, hx, hel⟩ := DataW.trod_array ht h
 have e1 : ds = xs.map (·.1) := by
  have := (Prod.mk.inj ex).1
  exact DataW.agg.inj this
 refine ⟨by omega, by rw [e1, List.length_map]; exact hx, fun i hi => ?_⟩
 have hE := hel i hi
 rw [hc, Nat.mul_one, List.getElem?_eq_getElem (by omega)] at hE
 have hv : (cs.drop i).take 1 = [cs[i]'(by omega)] := by
  rw [List.drop_eq_getElem_cons (by omega)]; rfl
 rw [hv] at hE
 exact ⟨m, (xs[i]'(by omega)).2, (xs[i]'(by omega)).1, cs[i]'(by omega), by rw [e1, List.getElem?_map, List.getElem?_eq_getElem (by omega)]; rfl, List.getElem?_eq_getElem (by omega), hE⟩
theorem arr_strs {n : Nat} (ht : P.underlying t = some (.array n e)) (he : P.underlying e = some .string) (hc : P.cellsOf e = 1) (hn : P.cellsOf t = n) {ws : List ByteArray} (h : DataW.trod (fun _ => ()) P w 0 (fun _ => true) false fuel t cs = some (.agg (ws.map fun s => .lit (.string s.data.toList)), p)) :
 cs = ws.map Value.string := by
 obtain ⟨h1, h2, h3⟩ := arr_cells ht hc hn h
 rw [List.length_map] at h2
 apply List.ext_getElem?
 intro i
 by_cases hi : i < n
 ·obtain ⟨m, q, d, v, h4, h5, h6⟩ := h3 i hi
  obtain ⟨s, e1, e2, _⟩ := DataW.trod_string he h6
  rw [h5]
  rw [List.getElem?_map] at h4 ⊢
  rw [List.getElem?_eq_getElem (by omega)] at h4 ⊢
  simp only [Option.map_some, Option.some.injEq] at h4 ⊢
  have e3 : d = .lit (.string s.data.toList) := (Prod.mk.inj e2).1
  rw [e3] at h4
  have e4 : (ws[i]'(by omega)).data.toList = s.data.toList := by
   injection h4 with h4
   injection h4
  have e5 : ws[i]'(by omega) = s := Pl.un_inj.1 e4
  rw [e5]
  injection e1 with e1 _
 ·rw [List.getElem?_eq_none (by omega), List.getElem?_eq_none (by rw [List.length_map]; omega)]
theorem arr_ints {n : Nat} {k : IntKind} (ht : P.underlying t = some (.array n e)) (he : P.underlying e = some (.int k)) (hc : P.cellsOf e = 1) (hn : P.cellsOf t = n) {zs : List Int} (h : DataW.trod (fun _ => ()) P w 0 (fun _ => true) false fuel t cs = some (.agg (zs.map fun z => .lit (.int k z)), p)) :
 cs = zs.map (Value.int k) := by
 obtain ⟨h1, h2, h3⟩ := arr_cells ht hc hn h
 rw [List.length_map] at h2
 apply List.ext_getElem?
 intro i
 by_cases hi : i < n
 ·obtain ⟨m, q, d, v, h4, h5, h6⟩ := h3 i hi
  obtain ⟨s, e1, e2, _⟩ := DataW.trod_int he h6
  rw [h5]
  rw [List.getElem?_map] at h4 ⊢
  rw [List.getElem?_eq_getElem (by omega)] at h4 ⊢
  simp only [Option.map_some, Option.some.injEq] at h4 ⊢
  have e3 : d = .lit (.int k s) := (Prod.mk.inj e2).1
  rw [e3] at h4
  injection h4 with h4
  injection h4 with _ h4
  rw [h4]
  injection e1 with e1 _
 ·rw [List.getElem?_eq_none (by omega), List.getElem?_eq_none (by rw [List.length_map]; omega)]
theorem if_cell {ms : Array (String × TypeId)} (ht : P.underlying t = some (.interface ms)) {d : DataW Unit} (h : DataW.trod (fun _ => ()) P w 0 (fun _ => true) false fuel t cs = some (d, p)) : ∃ v, cs = [v] ∧ ifV v := by
 cases fuel with
 | zero => simp [DataW.trod] at h
 | succ m =>
  unfold DataW.trod at h
  rw [ht] at h
  split at h <;> simp_all [ifV]
theorem heap_var {n : String} {g : Nat} {cs : Array Value} (hg : P.globalNamed n = some g) (hv : w.var? P n = some cs) : ∃ el fr, w.heap[g]? = some (.cells cs el fr) := by
 unfold World.var? at hv
 rw [hg] at hv
 simp only [Option.bind_some] at hv
 split at hv
 ·next el fr h => cases hv; exact ⟨_, _, h⟩
 ·cases hv
end arr
end Go.Fs
namespace Go.Proofs.YthabefiddflefaaGreatDoor.LawT
open Go.ChangeShapes Go.WideShapes Go.ChangeAt Go.RowKit Go.Fs Go.Fs.Se
theorem own : ownKnob Tryz.prog.godebug = none := by kernel_rfl
theorem laidOut : laidOutB Tryz.prog = true := by kernel_rfl
theorem d_ty : (Rows.laid_loop_example_smithy_impl_typeWords : DataW Unit) = .agg (tyW.map fun s => .lit (.string s.data.toList)) := by kernel_rfl
theorem d_pow : (Rows.laid_internal_strconv_uint64pow10 : DataW Unit) = .agg (Lib.pow10Tab.map fun z => .lit (.int .u64 z)) := by kernel_rfl
theorem kn_laid {W : World} (h : laidMetH Tryz.prog Rows.fnExactPlanTouchesRow.laid W) (hs : W.ShapedOpen Tryz.prog) : KnW W (· ∈ ([] : List Nat)) := by
 rw [MakeChecks.laidMetH_plain _ _ _ (by kernel_rfl)] at h
 obtain ⟨ps, ⟨g1, t1, c1, f1, p1, q1, hg1, ht1, hv1, hd1, ⟨g2, t2, c2, f2, p2, q2, hg2, ht2, hv2, hd2, ⟨g3, t3, c3, f3, p3, q3, hg3, ht3, hv3, hd3, ⟨g4, t4, c4, f4, p4, q4, hg4, ht4, hv4, hd4, ⟨g5, t5, c5, f5, p5, q5, hg5, ht5, hv5, hd5, ⟨g6, t6, c6, f6, p6, q6, hg6, ht6, hv6, hd6, _⟩, _⟩, _⟩, _⟩, _⟩, _⟩, _, _⟩ := h
 have n2 : Tryz.prog.globalNamed "math/bits.deBruijn64tab" = some 6 := by kernel_rfl
 have n3 : Tryz.prog.globalNamed "internal/strconv.uint64pow10" = some 4 := by kernel_rfl
 have n4 : Tryz.prog.globalNamed "strconv.ErrRange" = some 3 := by kernel_rfl
 have n5 : Tryz.prog.globalNamed "strconv.ErrSyntax" = some 2 := by kernel_rfl
 have n6 : Tryz.prog.globalNamed "loop.example/smithy/impl.typeWords" = some 0 := by kernel_rfl
 have k3 : (Tryz.prog.globals[4]?).map (·.type) = some 203 := by kernel_rfl
 have k4 : (Tryz.prog.globals[3]?).map (·.type) = some 111 := by kernel_rfl
 have k5 : (Tryz.prog.globals[2]?).map (·.type) = some 111 := by kernel_rfl
 have k6 : (Tryz.prog.globals[0]?).map (·.type) = some 136 := by kernel_rfl
 obtain rfl := Option.some.inj (n2.symm.trans hg2)
 obtain rfl := Option.some.inj (n3.symm.trans hg3)
 obtain rfl := Option.some.inj (n4.symm.trans hg4)
 obtain rfl := Option.some.inj (n5.symm.trans hg5)
 obtain rfl := Option.some.inj (n6.symm.trans hg6)
 obtain rfl := Option.some.inj (k3.symm.trans ht3)
 obtain rfl := Option.some.inj (k4.symm.trans ht4)
 obtain rfl := Option.some.inj (k5.symm.trans ht5)
 obtain rfl := Option.some.inj (k6.symm.trans ht6)
 rw [d_pow] at hd3
 rw [d_ty] at hd6
 have e3 := arr_ints (k := .u64) Tryz.underlying203 Tryz.underlying166 (by kernel_rfl) (by kernel_rfl) hd3
 have e6 := arr_strs Tryz.underlying136 Tryz.underlying9 (by kernel_rfl) (by kernel_rfl) hd6
 obtain ⟨v4, e4, i4⟩ := if_cell Tryz.underlying111 hd4
 obtain ⟨v5, e5, i5⟩ := if_cell Tryz.underlying111 hd5
 obtain ⟨l2, r2, h2⟩ := heap_var n2 hv2
 obtain ⟨l3, r3, h3⟩ := heap_var n3 hv3
 obtain ⟨l6, r6, h6⟩ := heap_var n6 hv6
 refine ⟨⟨fun g ws hg => ?_, ?_, ⟨v5, ?_, i5⟩, ⟨v4, ?_, i4⟩, ⟨l3, r3, ?_⟩⟩, ?_, fun b hb => by cases hb⟩
 ·unfold gT at hg
  split at hg
  ·cases hg
   exact ⟨c6, l6, r6, h6, fun j v hj => by rw [← e6] at hj; simpa using hj⟩
  ·cases hg
 ·exact cell_of_shapedOpen_int (t := 3) (zero := #[.int .i64 0]) hs (of_decide_eq_true (by kernel_rfl)) (by kernel_rfl) rfl (by kernel_rfl) (by kernel_rfl) Tryz.underlying3
 ·rw [World.var?_cell n5 hv5 0, ← Array.getElem?_toList, e5]; rfl
 ·rw [World.var?_cell n4 hv4 0, ← Array.getElem?_toList, e4]; rfl
 ·rw [h3]
  have : c3 = (Lib.pow10Tab.map fun z => Value.int .u64 z).toArray := by
   rw [← e3]
  rw [this]
 ·have := (Array.getElem?_eq_some_iff.1 h2).1
  show 7 ≤ W.heap.size
  omega
end Go.Proofs.YthabefiddflefaaGreatDoor.LawT
