/- A part of the proof: an evaluator of the program's code over plain data, proved sound, and walks of the program's functions by it. No conditions beyond those in the theorems. -/
import Derived.Test.YtbgbnmghhmfihaaLawIp8
import Derived.Test.YtbgbnmghhmfihaaLawIp12
import Derived.Test.YtbgbnmghhmfihaaLawIp14
import Derived.Test.YtbgbnmghhmfihaaLawIp9
set_option linter.unusedVariables false
set_option linter.unusedSimpArgs false
set_option maxRecDepth 20000
set_option maxHeartbeats 2000000
namespace Go.Fs.Sr
open Go.Proofs.Try

theorem f54_ok {S : Nat → Option Summ} (hS : SumOK prog S) (s95 : S 95 = some (.own (toP [.i]))) (s59 : S 59 = some (.own F59)) (ds : List D) (r : D) (hr : F54 ds = some r) : FnOK prog 54 (ds.map .d) { ret := r } := by
  unfold F54 at hr
  split at hr
  case h_2 => cases hr
  rename_i fs ns
  split at hr
  case isFalse => cases hr
  rename_i hc
  obtain ⟨h1, h2, h3, h4, h5⟩ := hc
  simp only [Option.some.injEq] at hr
  subst hr
  have hlen := img_len h5
  have hnw : ns.length + wtLL ns ≤ 1048576 := by rw [wt0 h3 (by decide)]; omega
  refine fnOK_awp (A := ⟨tab, S, .x⟩) tab_ok hS mixed func54 rfl rfl rfl rfl (by show 1 ≤ 76; decide) rfl ?_
  refine seqK fun K hK => ?_
  simp only [bW, ↓splitB_true, ↓splitB_false, nilCmp, opConv, eq_self, if_true, if_false, Nat.reduceEqDiff, reduceCtorEq, ↓reduceIte, Nat.reduceLT, Nat.reduceAdd, Nat.reduceMul, Nat.reduceSub, Nat.reduceLeDiff, Nat.reduceBEq, Int.reduceEq, Int.reduceNeg, tk, ntmps54, results54, s59, F59, zeroD, List.map_cons, List.map_nil, sr_len, bnd, List.drop_succ_cons, Nat.add_sub_cancel, Int.toNat_one, Nat.le_add_left, List.take_length, Int.reduceSub, Int.reduceAdd, Int.reduceToNat, Int.reduceLE, Int.reduceLT, Int.toNat_zero, Int.reduceNeg, mCells, mCell, s95]
  refine hK _ ?_; clear hK K
  refine seqK fun K hK => ?_
  simp only [bW, ↓splitB_true, ↓splitB_false, nilCmp, opConv, eq_self, if_true, if_false, Nat.reduceEqDiff, reduceCtorEq, ↓reduceIte, Nat.reduceLT, Nat.reduceAdd, Nat.reduceMul, Nat.reduceSub, Nat.reduceLeDiff, Nat.reduceBEq, Int.reduceEq, Int.reduceNeg, tk, ntmps54, results54, s59, F59, zeroD, List.map_cons, List.map_nil, sr_len, bnd, List.drop_succ_cons, Nat.add_sub_cancel, Int.toNat_one, Nat.le_add_left, List.take_length, Int.reduceSub, Int.reduceAdd, Int.reduceToNat, Int.reduceLE, Int.reduceLT, Int.toNat_zero, Int.reduceNeg, mCells, mCell, s95]
  refine ⟨⟨by omega, by omega, by omega⟩, ?_⟩
  refine hK _ ?_; clear hK K
  refine seqK fun K hK => ?_
  simp only [bW, ↓splitB_true, ↓splitB_false, nilCmp, opConv, eq_self, if_true, if_false, Nat.reduceEqDiff, reduceCtorEq, ↓reduceIte, Nat.reduceLT, Nat.reduceAdd, Nat.reduceMul, Nat.reduceSub, Nat.reduceLeDiff, Nat.reduceBEq, Int.reduceEq, Int.reduceNeg, tk, ntmps54, results54, s59, F59, zeroD, List.map_cons, List.map_nil, sr_len, bnd, List.drop_succ_cons, Nat.add_sub_cancel, Int.toNat_one, Nat.le_add_left, List.take_length, Int.reduceSub, Int.reduceAdd, Int.reduceToNat, Int.reduceLE, Int.reduceLT, Int.toNat_zero, Int.reduceNeg, mCells, mCell, s95]
  refine OkO_toP rfl h3 h4 hnw ?_
  simp only [bW, ↓splitB_true, ↓splitB_false, nilCmp, opConv, eq_self, if_true, if_false, Nat.reduceEqDiff, reduceCtorEq, ↓reduceIte, Nat.reduceLT, Nat.reduceAdd, Nat.reduceMul, Nat.reduceSub, Nat.reduceLeDiff, Nat.reduceBEq, Int.reduceEq, Int.reduceNeg, tk, ntmps54, results54, s59, F59, zeroD, List.map_cons, List.map_nil, sr_len, bnd, List.drop_succ_cons, Nat.add_sub_cancel, Int.toNat_one, Nat.le_add_left, List.take_length, Int.reduceSub, Int.reduceAdd, Int.reduceToNat, Int.reduceLE, Int.reduceLT, Int.toNat_zero, Int.reduceNeg, mCells, mCell, s95]
  refine hK _ ?_; clear hK K
  refine seqK fun K hK => ?_
  rw [awp_block]
  refine loopW [1, 3, 4] (fun x : (Nat → Bool) × List (List D) × Nat => stL 76 [(1, .a 500000 0), (3, .r 500001), (4, .r 500002)] [(500000, some (.box [.d (.l 6 fs), .d (.l 1 ns)])), (500001, some (.row 1 (sr fs.length x.1) true false x.2.2)), (500002, some (.row 1 x.2.1 true false 0))]) (fun x => WInv fs ns x.1 x.2.1) (fun x => x.2.1.length + 461 * un x.1 fs.length) ?_ ?_
  · refine ⟨?_, (fun _ => false, ns, 0), ?_, winv_init h5 h3⟩
    · simp only [bK, Nat.reduceEqDiff, reduceCtorEq, ↓reduceIte, Nat.reduceBEq, Nat.reduceLeDiff, Nat.reduceAdd, if_true, if_false]
    · simp only [bK, Nat.reduceEqDiff, reduceCtorEq, ↓reduceIte, Nat.reduceBEq, Nat.reduceLeDiff, Nat.reduceAdd, if_true, if_false]
      refine stL_eq ?_ ?_
      · simp only [Option.some.injEq, Ret.mk.injEq, List.cons.injEq, Prod.mk.injEq, AV.d.injEq, D.i.injEq, D.b.injEq, D.s.injEq, true_and, and_true]
        try rfl
      · simp only [sr_false]
        try rfl
  rintro ⟨seen, todo, ve⟩ hw
  simp only at hw ⊢
  refine seqK fun K3 hK3 => ?_
  simp only [bW, ↓splitB_true, ↓splitB_false, nilCmp, opConv, eq_self, if_true, if_false, Nat.reduceEqDiff, reduceCtorEq, ↓reduceIte, Nat.reduceLT, Nat.reduceAdd, Nat.reduceMul, Nat.reduceSub, Nat.reduceLeDiff, Nat.reduceBEq, Int.reduceEq, Int.reduceNeg, tk, ntmps54, results54, s59, F59, zeroD, List.map_cons, List.map_nil, sr_len, bnd, List.drop_succ_cons, Nat.add_sub_cancel, Int.toNat_one, Nat.le_add_left, List.take_length, Int.reduceSub, Int.reduceAdd, Int.reduceToNat, Int.reduceLE, Int.reduceLT, Int.toNat_zero, Int.reduceNeg, mCells, mCell, s95]
  refine splitB_intro (fun hb => hK3 _ ?_) (fun hb => hK _ ?_) <;> clear hK3 K3
  · have hb := of_decide_eq_true hb
    obtain ⟨x, todo, rfl⟩ : ∃ y ys, todo = y :: ys := by
      cases todo with
      | nil => simp at hb
      | cons y ys => exact ⟨y, ys, rfl⟩
    clear hb
    obtain ⟨a, rfl, hal, hra⟩ := hw.good _ (.head _)
    rw [awp_block]
    refine seqK fun K4 hK4 => ?_
    simp only [bW, ↓splitB_true, ↓splitB_false, nilCmp, opConv, eq_self, if_true, if_false, Nat.reduceEqDiff, reduceCtorEq, ↓reduceIte, Nat.reduceLT, Nat.reduceAdd, Nat.reduceMul, Nat.reduceSub, Nat.reduceLeDiff, Nat.reduceBEq, Int.reduceEq, Int.reduceNeg, tk, ntmps54, results54, s59, F59, zeroD, List.map_cons, List.map_nil, sr_len, bnd, List.drop_succ_cons, Nat.add_sub_cancel, Int.toNat_one, Nat.le_add_left, List.take_length, Int.reduceSub, Int.reduceAdd, Int.reduceToNat, Int.reduceLE, Int.reduceLT, Int.toNat_zero, Int.reduceNeg, mCells, mCell, s95]
    refine ⟨by simp, ?_⟩
    refine hK4 _ ?_; clear hK4 K4
    refine seqK fun K4 hK4 => ?_
    simp only [bW, ↓splitB_true, ↓splitB_false, nilCmp, opConv, eq_self, if_true, if_false, Nat.reduceEqDiff, reduceCtorEq, ↓reduceIte, Nat.reduceLT, Nat.reduceAdd, Nat.reduceMul, Nat.reduceSub, Nat.reduceLeDiff, Nat.reduceBEq, Int.reduceEq, Int.reduceNeg, tk, ntmps54, results54, s59, F59, zeroD, List.map_cons, List.map_nil, sr_len, bnd, List.drop_succ_cons, Nat.add_sub_cancel, Int.toNat_one, Nat.le_add_left, List.take_length, Int.reduceSub, Int.reduceAdd, Int.reduceToNat, Int.reduceLE, Int.reduceLT, Int.toNat_zero, Int.reduceNeg, mCells, mCell, s95]
    refine hK4 _ ?_; clear hK4 K4
    refine seqK fun K4 hK4 => ?_
    simp only [bW, ↓splitB_true, ↓splitB_false, nilCmp, opConv, eq_self, if_true, if_false, Nat.reduceEqDiff, reduceCtorEq, ↓reduceIte, Nat.reduceLT, Nat.reduceAdd, Nat.reduceMul, Nat.reduceSub, Nat.reduceLeDiff, Nat.reduceBEq, Int.reduceEq, Int.reduceNeg, tk, ntmps54, results54, s59, F59, zeroD, List.map_cons, List.map_nil, sr_len, bnd, List.drop_succ_cons, Nat.add_sub_cancel, Int.toNat_one, Nat.le_add_left, List.take_length, Int.reduceSub, Int.reduceAdd, Int.reduceToNat, Int.reduceLE, Int.reduceLT, Int.toNat_zero, Int.reduceNeg, mCells, mCell, s95]
    refine ⟨⟨by omega, by omega⟩, ?_⟩
    rw [sr_get hal]
    simp only [bW, ↓splitB_true, ↓splitB_false, nilCmp, opConv, eq_self, if_true, if_false, Nat.reduceEqDiff, reduceCtorEq, ↓reduceIte, Nat.reduceLT, Nat.reduceAdd, Nat.reduceMul, Nat.reduceSub, Nat.reduceLeDiff, Nat.reduceBEq, Int.reduceEq, Int.reduceNeg, tk, ntmps54, results54, s59, F59, zeroD, List.map_cons, List.map_nil, sr_len, bnd, List.drop_succ_cons, Nat.add_sub_cancel, Int.toNat_one, Nat.le_add_left, List.take_length, Int.reduceSub, Int.reduceAdd, Int.reduceToNat, Int.reduceLE, Int.reduceLT, Int.toNat_zero, Int.reduceNeg, mCells, mCell, s95]
    refine splitB_intro (fun hs => ?_) (fun hs => hK4 _ ?_) <;> clear hK4 K4
    · refine ⟨?_, (seen, todo, ve), ?_, winv_skip hw hs, ?_⟩
      · simp only [bK, Nat.reduceEqDiff, reduceCtorEq, ↓reduceIte, Nat.reduceBEq, Nat.reduceLeDiff, Nat.reduceAdd, if_true, if_false]
      · simp only [bK, Nat.reduceEqDiff, reduceCtorEq, ↓reduceIte, Nat.reduceBEq, Nat.reduceLeDiff, Nat.reduceAdd, if_true, if_false]
      · simp only
        omega
    have hw2 := winv_take h5 hw hs
    have hun := un_set hs hal
    have hcl := (img_code h5 hal).1
    have hrow := shLL_get h1 hal
    have hok := okLL_get h2 hal
    have hcd : calls fs a = (codeL (fs.getD a [])).flatMap (callOf fs.length) := rfl
    have hsm := hw.small
    simp only [List.length_cons] at hsm
    have hu72 := un_le seen fs.length
    rw [hcd] at hw2
    generalize hrw : fs.getD a [] = row at hrow hok hcl hw2
    obtain ⟨cm, qm, rfl, em, hrow⟩ := shL_cons hrow
    obtain ⟨cw, qw, rfl, ew, hrow⟩ := shL_cons hrow
    obtain ⟨ca, qa, rfl, ea, hrow⟩ := shL_cons hrow
    obtain ⟨cy, qy, rfl, ey, hrow⟩ := shL_cons hrow
    obtain ⟨cl, ql, rfl, el, hrow⟩ := shL_cons hrow
    obtain ⟨cc, qc, rfl, ec, hrow⟩ := shL_cons hrow
    obtain rfl := shL_nil hrow
    obtain ⟨m, rfl⟩ := shD_s em
    obtain ⟨w, rfl⟩ := shD_s ew
    obtain ⟨za, ps, rfl, hza, ha⟩ := shD_l2 ea
    obtain rfl : za = 1 := hza
    obtain ⟨ty, rfl⟩ := shD_i ey
    obtain ⟨sl, rfl⟩ := shD_i el
    obtain ⟨zc, cs, rfl, hzc, hc⟩ := shD_l2 ec
    obtain rfl : zc = 2 := hzc
    simp only [okL_cons, okL_nil, okD_s, okD_l, okD_i, okD_b, and_true, true_and] at hok
    obtain ⟨k1, k2, ⟨k3, k3'⟩, k4, k5, ⟨k6, k6'⟩⟩ := hok
    simp only [codeL] at hcl hw2
    refine seqK fun K4 hK4 => ?_
    simp only [bW, ↓splitB_true, ↓splitB_false, nilCmp, opConv, eq_self, if_true, if_false, Nat.reduceEqDiff, reduceCtorEq, ↓reduceIte, Nat.reduceLT, Nat.reduceAdd, Nat.reduceMul, Nat.reduceSub, Nat.reduceLeDiff, Nat.reduceBEq, Int.reduceEq, Int.reduceNeg, tk, ntmps54, results54, s59, F59, zeroD, List.map_cons, List.map_nil, sr_len, bnd, List.drop_succ_cons, Nat.add_sub_cancel, Int.toNat_one, Nat.le_add_left, List.take_length, Int.reduceSub, Int.reduceAdd, Int.reduceToNat, Int.reduceLE, Int.reduceLT, Int.toNat_zero, Int.reduceNeg, mCells, mCell, s95]
    refine ⟨⟨by omega, by omega⟩, ?_⟩
    have hset : (sr fs.length seen).set a (D.b true :: List.drop 1 ((sr fs.length seen).getD a [])) = sr fs.length (upd seen a true) := by
      rw [sr_get hal]
      exact sr_set
    rw [hset]
    refine hK4 _ ?_; clear hK4 K4
    refine seqK fun K4 hK4 => ?_
    simp only [bW, ↓splitB_true, ↓splitB_false, nilCmp, opConv, eq_self, if_true, if_false, Nat.reduceEqDiff, reduceCtorEq, ↓reduceIte, Nat.reduceLT, Nat.reduceAdd, Nat.reduceMul, Nat.reduceSub, Nat.reduceLeDiff, Nat.reduceBEq, Int.reduceEq, Int.reduceNeg, tk, ntmps54, results54, s59, F59, zeroD, List.map_cons, List.map_nil, sr_len, bnd, List.drop_succ_cons, Nat.add_sub_cancel, Int.toNat_one, Nat.le_add_left, List.take_length, Int.reduceSub, Int.reduceAdd, Int.reduceToNat, Int.reduceLE, Int.reduceLT, Int.toNat_zero, Int.reduceNeg, mCells, mCell, s95]
    refine ⟨⟨by omega, by omega⟩, ?_⟩
    rw [hrw]
    simp only [bW, ↓splitB_true, ↓splitB_false, nilCmp, opConv, eq_self, if_true, if_false, Nat.reduceEqDiff, reduceCtorEq, ↓reduceIte, Nat.reduceLT, Nat.reduceAdd, Nat.reduceMul, Nat.reduceSub, Nat.reduceLeDiff, Nat.reduceBEq, Int.reduceEq, Int.reduceNeg, tk, ntmps54, results54, s59, F59, zeroD, List.map_cons, List.map_nil, sr_len, bnd, List.drop_succ_cons, Nat.add_sub_cancel, Int.toNat_one, Nat.le_add_left, List.take_length, Int.reduceSub, Int.reduceAdd, Int.reduceToNat, Int.reduceLE, Int.reduceLT, Int.toNat_zero, Int.reduceNeg, mCells, mCell, s95]
    refine hK4 _ ?_; clear hK4 K4
    rw [awp_block]
    refine loopW [1, 3, 4, 38, 39, 40] (fun x : Nat × List (List D) => stL 76 [(1, .a 500000 0), (3, .r 500001), (4, .r 500002), (38, .d (.l 2 cs)), (39, .d (.i .i64 cs.length)), (40, .d (.i .i64 x.1))] [(500000, some (.box [.d (.l 6 fs), .d (.l 1 ns)])), (500001, some (.row 1 (sr fs.length (upd seen a true)) true false (ve + 1))), (500002, some (.row 1 x.2 true false 0))]) (fun x => x.1 ≤ cs.length ∧ x.2 ++ (cs.drop x.1).flatMap (callOf fs.length) = todo ++ cs.flatMap (callOf fs.length) ∧ x.2.length ≤ todo.length + x.1) (fun x => cs.length - x.1) ?_ ?_
    · refine ⟨?_, (0, todo), ?_, ?_, ?_, ?_⟩
      · simp only [bK, Nat.reduceEqDiff, reduceCtorEq, ↓reduceIte, Nat.reduceBEq, Nat.reduceLeDiff, Nat.reduceAdd, if_true, if_false]
      · simp only [bK, Nat.reduceEqDiff, reduceCtorEq, ↓reduceIte, Nat.reduceBEq, Nat.reduceLeDiff, Nat.reduceAdd, if_true, if_false]
        try rfl
      · simp
      · rfl
      · simp
    rintro ⟨k, td⟩ ⟨hk1, hk2, hk3⟩
    simp only at hk1 hk2 hk3 ⊢
    refine seqK fun K5 hK5 => ?_
    simp only [bW, ↓splitB_true, ↓splitB_false, nilCmp, opConv, eq_self, if_true, if_false, Nat.reduceEqDiff, reduceCtorEq, ↓reduceIte, Nat.reduceLT, Nat.reduceAdd, Nat.reduceMul, Nat.reduceSub, Nat.reduceLeDiff, Nat.reduceBEq, Int.reduceEq, Int.reduceNeg, tk, ntmps54, results54, s59, F59, zeroD, List.map_cons, List.map_nil, sr_len, bnd, List.drop_succ_cons, Nat.add_sub_cancel, Int.toNat_one, Nat.le_add_left, List.take_length, Int.reduceSub, Int.reduceAdd, Int.reduceToNat, Int.reduceLE, Int.reduceLT, Int.toNat_zero, Int.reduceNeg, mCells, mCell, s95]
    refine hK5 _ ?_; clear hK5 K5
    refine seqK fun K5 hK5 => ?_
    simp only [bW, ↓splitB_true, ↓splitB_false, nilCmp, opConv, eq_self, if_true, if_false, Nat.reduceEqDiff, reduceCtorEq, ↓reduceIte, Nat.reduceLT, Nat.reduceAdd, Nat.reduceMul, Nat.reduceSub, Nat.reduceLeDiff, Nat.reduceBEq, Int.reduceEq, Int.reduceNeg, tk, ntmps54, results54, s59, F59, zeroD, List.map_cons, List.map_nil, sr_len, bnd, List.drop_succ_cons, Nat.add_sub_cancel, Int.toNat_one, Nat.le_add_left, List.take_length, Int.reduceSub, Int.reduceAdd, Int.reduceToNat, Int.reduceLE, Int.reduceLT, Int.toNat_zero, Int.reduceNeg, mCells, mCell, s95]
    refine splitB_intro (fun hb => hK5 _ ?_) (fun hb => ?_)
    · clear hK5 K5
      have hlt := of_decide_eq_true hb
      clear hb
      have hlt : k < cs.length := by omega
      have hrow := shLL_get hc hlt
      have hst : (cs.drop k).flatMap (callOf fs.length) = callOf fs.length (cs.getD k []) ++ (cs.drop (k + 1)).flatMap (callOf fs.length) := by rw [drop_get hlt, List.flatMap_cons]
      generalize hrw2 : cs.getD k [] = row2 at hrow hst
      obtain ⟨c1, q1, rfl, e1, hrow⟩ := shL_cons hrow
      obtain ⟨c2, q2, rfl, e2, hrow⟩ := shL_cons hrow
      obtain rfl := shL_nil hrow
      obtain ⟨op, rfl⟩ := shD_i e1
      obtain ⟨b, rfl⟩ := shD_i e2
      have hcc : callOf fs.length [.i .i64 op, .i .i64 b] = if op = 8 ∧ 0 ≤ b ∧ b < (fs.length : Int) then [[.i .i64 b]] else [] := rfl
      rw [hcc] at hst
      rw [hst] at hk2
      refine seqK fun K6 hK6 => ?_
      rw [awp_block]
      refine seqK fun K7 hK7 => ?_
      simp only [bW, ↓splitB_true, ↓splitB_false, nilCmp, opConv, eq_self, if_true, if_false, Nat.reduceEqDiff, reduceCtorEq, ↓reduceIte, Nat.reduceLT, Nat.reduceAdd, Nat.reduceMul, Nat.reduceSub, Nat.reduceLeDiff, Nat.reduceBEq, Int.reduceEq, Int.reduceNeg, tk, ntmps54, results54, s59, F59, zeroD, List.map_cons, List.map_nil, sr_len, bnd, List.drop_succ_cons, Nat.add_sub_cancel, Int.toNat_one, Nat.le_add_left, List.take_length, Int.reduceSub, Int.reduceAdd, Int.reduceToNat, Int.reduceLE, Int.reduceLT, Int.toNat_zero, Int.reduceNeg, mCells, mCell, s95]
      refine ⟨⟨by omega, by omega⟩, ?_⟩
      rw [hrw2]
      simp only [bW, ↓splitB_true, ↓splitB_false, nilCmp, opConv, eq_self, if_true, if_false, Nat.reduceEqDiff, reduceCtorEq, ↓reduceIte, Nat.reduceLT, Nat.reduceAdd, Nat.reduceMul, Nat.reduceSub, Nat.reduceLeDiff, Nat.reduceBEq, Int.reduceEq, Int.reduceNeg, tk, ntmps54, results54, s59, F59, zeroD, List.map_cons, List.map_nil, sr_len, bnd, List.drop_succ_cons, Nat.add_sub_cancel, Int.toNat_one, Nat.le_add_left, List.take_length, Int.reduceSub, Int.reduceAdd, Int.reduceToNat, Int.reduceLE, Int.reduceLT, Int.toNat_zero, Int.reduceNeg, mCells, mCell, s95]
      refine hK7 _ ?_; clear hK7 K7
      simp only [bW, ↓splitB_true, ↓splitB_false, nilCmp, opConv, eq_self, if_true, if_false, Nat.reduceEqDiff, reduceCtorEq, ↓reduceIte, Nat.reduceLT, Nat.reduceAdd, Nat.reduceMul, Nat.reduceSub, Nat.reduceLeDiff, Nat.reduceBEq, Int.reduceEq, Int.reduceNeg, tk, ntmps54, results54, s59, F59, zeroD, List.map_cons, List.map_nil, sr_len, bnd, List.drop_succ_cons, Nat.add_sub_cancel, Int.toNat_one, Nat.le_add_left, List.take_length, Int.reduceSub, Int.reduceAdd, Int.reduceToNat, Int.reduceLE, Int.reduceLT, Int.toNat_zero, Int.reduceNeg, mCells, mCell, s95]
      have back : ∀ (td' : List (List D)), td' ++ (cs.drop (k + 1)).flatMap (callOf fs.length) = todo ++ cs.flatMap (callOf fs.length) → td'.length ≤ todo.length + (k + 1) → (k + 1 ≤ cs.length ∧ td' ++ (cs.drop (k + 1)).flatMap (callOf fs.length) = todo ++ cs.flatMap (callOf fs.length) ∧ td'.length ≤ todo.length + (k + 1)) ∧ cs.length - (k + 1) < cs.length - k := fun td' e1 e2 => ⟨⟨by omega, e1, e2⟩, by omega⟩
      refine splitB_intro (fun hb => ?_) (fun hb => hK6 _ ?_)
      · have hb := of_decide_eq_true hb
        refine ⟨⟨by omega, by omega⟩, ?_⟩
        refine splitB_intro (fun hb2 => ?_) (fun hb2 => hK6 _ ?_)
        · have hb2 := of_decide_eq_true hb2
          rw [if_pos ⟨hb, hb2⟩, ← List.append_assoc] at hk2
          refine ⟨⟨by omega, by omega⟩, hK6 _ ?_⟩
          clear hK6 K6
          simp only [bW, ↓splitB_true, ↓splitB_false, nilCmp, opConv, eq_self, if_true, if_false, Nat.reduceEqDiff, reduceCtorEq, ↓reduceIte, Nat.reduceLT, Nat.reduceAdd, Nat.reduceMul, Nat.reduceSub, Nat.reduceLeDiff, Nat.reduceBEq, Int.reduceEq, Int.reduceNeg, tk, ntmps54, results54, s59, F59, zeroD, List.map_cons, List.map_nil, sr_len, bnd, List.drop_succ_cons, Nat.add_sub_cancel, Int.toNat_one, Nat.le_add_left, List.take_length, Int.reduceSub, Int.reduceAdd, Int.reduceToNat, Int.reduceLE, Int.reduceLT, Int.toNat_zero, Int.reduceNeg, mCells, mCell, s95]
          simp (disch := omega) only [wrap64]
          refine ⟨?_, (k + 1, td ++ [[.i .i64 b]]), ?_, back _ hk2 (by simp; omega)⟩
          · simp only [bK, Nat.reduceEqDiff, reduceCtorEq, ↓reduceIte, Nat.reduceBEq, Nat.reduceLeDiff, Nat.reduceAdd, if_true, if_false]
          · simp only [bK, Nat.reduceEqDiff, reduceCtorEq, ↓reduceIte, Nat.reduceBEq, Nat.reduceLeDiff, Nat.reduceAdd, if_true, if_false]
            refine stL_eq ?_ ?_
            · simp only [Option.some.injEq, Ret.mk.injEq, List.cons.injEq, Prod.mk.injEq, AV.d.injEq, D.i.injEq, D.b.injEq, D.s.injEq, true_and, and_true]
              try omega
            · try rfl
        · have hb2 := of_decide_eq_false hb2
          rw [if_neg (fun h => hb2 h.2), List.nil_append] at hk2
          clear hK6 K6
          simp only [bW, ↓splitB_true, ↓splitB_false, nilCmp, opConv, eq_self, if_true, if_false, Nat.reduceEqDiff, reduceCtorEq, ↓reduceIte, Nat.reduceLT, Nat.reduceAdd, Nat.reduceMul, Nat.reduceSub, Nat.reduceLeDiff, Nat.reduceBEq, Int.reduceEq, Int.reduceNeg, tk, ntmps54, results54, s59, F59, zeroD, List.map_cons, List.map_nil, sr_len, bnd, List.drop_succ_cons, Nat.add_sub_cancel, Int.toNat_one, Nat.le_add_left, List.take_length, Int.reduceSub, Int.reduceAdd, Int.reduceToNat, Int.reduceLE, Int.reduceLT, Int.toNat_zero, Int.reduceNeg, mCells, mCell, s95]
          simp (disch := omega) only [wrap64]
          refine ⟨?_, (k + 1, td), ?_, back _ hk2 (by show td.length ≤ _; omega)⟩
          · simp only [bK, Nat.reduceEqDiff, reduceCtorEq, ↓reduceIte, Nat.reduceBEq, Nat.reduceLeDiff, Nat.reduceAdd, if_true, if_false]
          · simp only [bK, Nat.reduceEqDiff, reduceCtorEq, ↓reduceIte, Nat.reduceBEq, Nat.reduceLeDiff, Nat.reduceAdd, if_true, if_false]
            refine stL_eq ?_ ?_
            · simp only [Option.some.injEq, Ret.mk.injEq, List.cons.injEq, Prod.mk.injEq, AV.d.injEq, D.i.injEq, D.b.injEq, D.s.injEq, true_and, and_true]
              try omega
            · try rfl
      · have hb := of_decide_eq_false hb
        rw [if_neg (fun h => hb h.1), List.nil_append] at hk2
        clear hK6 K6
        simp only [bW, ↓splitB_true, ↓splitB_false, nilCmp, opConv, eq_self, if_true, if_false, Nat.reduceEqDiff, reduceCtorEq, ↓reduceIte, Nat.reduceLT, Nat.reduceAdd, Nat.reduceMul, Nat.reduceSub, Nat.reduceLeDiff, Nat.reduceBEq, Int.reduceEq, Int.reduceNeg, tk, ntmps54, results54, s59, F59, zeroD, List.map_cons, List.map_nil, sr_len, bnd, List.drop_succ_cons, Nat.add_sub_cancel, Int.toNat_one, Nat.le_add_left, List.take_length, Int.reduceSub, Int.reduceAdd, Int.reduceToNat, Int.reduceLE, Int.reduceLT, Int.toNat_zero, Int.reduceNeg, mCells, mCell, s95]
        simp (disch := omega) only [wrap64]
        refine ⟨?_, (k + 1, td), ?_, back _ hk2 (by show td.length ≤ _; omega)⟩
        · simp only [bK, Nat.reduceEqDiff, reduceCtorEq, ↓reduceIte, Nat.reduceBEq, Nat.reduceLeDiff, Nat.reduceAdd, if_true, if_false]
        · simp only [bK, Nat.reduceEqDiff, reduceCtorEq, ↓reduceIte, Nat.reduceBEq, Nat.reduceLeDiff, Nat.reduceAdd, if_true, if_false]
          refine stL_eq ?_ ?_
          · simp only [Option.some.injEq, Ret.mk.injEq, List.cons.injEq, Prod.mk.injEq, AV.d.injEq, D.i.injEq, D.b.injEq, D.s.injEq, true_and, and_true]
            try omega
          · try rfl
    · clear hK5 K5
      have hge := of_decide_eq_false hb
      have e : k = cs.length := by omega
      subst e
      clear hb hge
      rw [List.drop_length, List.flatMap_nil, List.append_nil] at hk2
      subst hk2
      refine ⟨?_, (upd seen a true, todo ++ cs.flatMap (callOf fs.length), ve + 1), ?_, hw2, ?_⟩
      · simp only [bK, Nat.reduceEqDiff, reduceCtorEq, ↓reduceIte, Nat.reduceBEq, Nat.reduceLeDiff, Nat.reduceAdd, if_true, if_false]
      · simp only [bK, Nat.reduceEqDiff, reduceCtorEq, ↓reduceIte, Nat.reduceBEq, Nat.reduceLeDiff, Nat.reduceAdd, if_true, if_false]
      · simp only [List.length_append]
        have := flat_len fs.length cs
        omega
  · have hge := of_decide_eq_false hb
    obtain rfl : todo = [] := by
      cases todo with
      | nil => rfl
      | cons y ys => simp at hge
    have hend := winv_end h5 h3 hw
    rw [sr_congr hend]
    clear hb hge hw
    refine seqK fun K hK => ?_
    simp only [bW, ↓splitB_true, ↓splitB_false, nilCmp, opConv, eq_self, if_true, if_false, Nat.reduceEqDiff, reduceCtorEq, ↓reduceIte, Nat.reduceLT, Nat.reduceAdd, Nat.reduceMul, Nat.reduceSub, Nat.reduceLeDiff, Nat.reduceBEq, Int.reduceEq, Int.reduceNeg, tk, ntmps54, results54, s59, F59, zeroD, List.map_cons, List.map_nil, sr_len, bnd, List.drop_succ_cons, Nat.add_sub_cancel, Int.toNat_one, Nat.le_add_left, List.take_length, Int.reduceSub, Int.reduceAdd, Int.reduceToNat, Int.reduceLE, Int.reduceLT, Int.toNat_zero, Int.reduceNeg, mCells, mCell, s95]
    refine hK _ ?_; clear hK K
    refine seqK fun K hK => ?_
    refine seqK fun K2 hK2 => ?_
    simp only [bW, ↓splitB_true, ↓splitB_false, nilCmp, opConv, eq_self, if_true, if_false, Nat.reduceEqDiff, reduceCtorEq, ↓reduceIte, Nat.reduceLT, Nat.reduceAdd, Nat.reduceMul, Nat.reduceSub, Nat.reduceLeDiff, Nat.reduceBEq, Int.reduceEq, Int.reduceNeg, tk, ntmps54, results54, s59, F59, zeroD, List.map_cons, List.map_nil, sr_len, bnd, List.drop_succ_cons, Nat.add_sub_cancel, Int.toNat_one, Nat.le_add_left, List.take_length, Int.reduceSub, Int.reduceAdd, Int.reduceToNat, Int.reduceLE, Int.reduceLT, Int.toNat_zero, Int.reduceNeg, mCells, mCell, s95]
    refine hK2 _ ?_; clear hK2 K2
    rw [awp_block]
    refine loopW [8, 62, 63, 64] (fun i : Nat => stL 76 [(8, .r 500000), (62, .r 500001), (63, .d (.i .i64 fs.length)), (64, .d (.i .i64 i))] [(500000, some (.row 1 (pick1 i (reachB fs ns)) true false 0)), (500001, some (.row 1 (sr fs.length (reachB fs ns)) true false ve))]) (fun i => i ≤ fs.length) (fun i => fs.length - i) ?_ ?_
    · refine ⟨?_, 0, ?_, by omega⟩
      · simp only [bK, Nat.reduceEqDiff, reduceCtorEq, ↓reduceIte, Nat.reduceBEq, Nat.reduceLeDiff, Nat.reduceAdd, if_true, if_false]
      · simp only [bK, Nat.reduceEqDiff, reduceCtorEq, ↓reduceIte, Nat.reduceBEq, Nat.reduceLeDiff, Nat.reduceAdd, if_true, if_false]
        try rfl
    rintro i hi
    refine seqK fun K3 hK3 => ?_
    simp only [bW, ↓splitB_true, ↓splitB_false, nilCmp, opConv, eq_self, if_true, if_false, Nat.reduceEqDiff, reduceCtorEq, ↓reduceIte, Nat.reduceLT, Nat.reduceAdd, Nat.reduceMul, Nat.reduceSub, Nat.reduceLeDiff, Nat.reduceBEq, Int.reduceEq, Int.reduceNeg, tk, ntmps54, results54, s59, F59, zeroD, List.map_cons, List.map_nil, sr_len, bnd, List.drop_succ_cons, Nat.add_sub_cancel, Int.toNat_one, Nat.le_add_left, List.take_length, Int.reduceSub, Int.reduceAdd, Int.reduceToNat, Int.reduceLE, Int.reduceLT, Int.toNat_zero, Int.reduceNeg, mCells, mCell, s95]
    refine hK3 _ ?_; clear hK3 K3
    refine seqK fun K3 hK3 => ?_
    simp only [bW, ↓splitB_true, ↓splitB_false, nilCmp, opConv, eq_self, if_true, if_false, Nat.reduceEqDiff, reduceCtorEq, ↓reduceIte, Nat.reduceLT, Nat.reduceAdd, Nat.reduceMul, Nat.reduceSub, Nat.reduceLeDiff, Nat.reduceBEq, Int.reduceEq, Int.reduceNeg, tk, ntmps54, results54, s59, F59, zeroD, List.map_cons, List.map_nil, sr_len, bnd, List.drop_succ_cons, Nat.add_sub_cancel, Int.toNat_one, Nat.le_add_left, List.take_length, Int.reduceSub, Int.reduceAdd, Int.reduceToNat, Int.reduceLE, Int.reduceLT, Int.toNat_zero, Int.reduceNeg, mCells, mCell, s95]
    refine splitB_intro (fun hb => hK3 _ ?_) (fun hb => hK _ ?_) <;> clear hK3 K3
    · have hlt := of_decide_eq_true hb
      clear hb
      have hlt : i < fs.length := by omega
      have hst := pick1_step (n := i) (f := reachB fs ns)
      have hpl := pick1_len i (reachB fs ns)
      refine seqK fun K4 hK4 => ?_
      rw [awp_block]
      refine seqK fun K5 hK5 => ?_
      simp only [bW, ↓splitB_true, ↓splitB_false, nilCmp, opConv, eq_self, if_true, if_false, Nat.reduceEqDiff, reduceCtorEq, ↓reduceIte, Nat.reduceLT, Nat.reduceAdd, Nat.reduceMul, Nat.reduceSub, Nat.reduceLeDiff, Nat.reduceBEq, Int.reduceEq, Int.reduceNeg, tk, ntmps54, results54, s59, F59, zeroD, List.map_cons, List.map_nil, sr_len, bnd, List.drop_succ_cons, Nat.add_sub_cancel, Int.toNat_one, Nat.le_add_left, List.take_length, Int.reduceSub, Int.reduceAdd, Int.reduceToNat, Int.reduceLE, Int.reduceLT, Int.toNat_zero, Int.reduceNeg, mCells, mCell, s95]
      refine ⟨⟨by omega, by omega⟩, ?_⟩
      rw [sr_get hlt]
      simp only [bW, ↓splitB_true, ↓splitB_false, nilCmp, opConv, eq_self, if_true, if_false, Nat.reduceEqDiff, reduceCtorEq, ↓reduceIte, Nat.reduceLT, Nat.reduceAdd, Nat.reduceMul, Nat.reduceSub, Nat.reduceLeDiff, Nat.reduceBEq, Int.reduceEq, Int.reduceNeg, tk, ntmps54, results54, s59, F59, zeroD, List.map_cons, List.map_nil, sr_len, bnd, List.drop_succ_cons, Nat.add_sub_cancel, Int.toNat_one, Nat.le_add_left, List.take_length, Int.reduceSub, Int.reduceAdd, Int.reduceToNat, Int.reduceLE, Int.reduceLT, Int.toNat_zero, Int.reduceNeg, mCells, mCell, s95]
      refine hK5 _ ?_; clear hK5 K5
      simp only [bW, ↓splitB_true, ↓splitB_false, nilCmp, opConv, eq_self, if_true, if_false, Nat.reduceEqDiff, reduceCtorEq, ↓reduceIte, Nat.reduceLT, Nat.reduceAdd, Nat.reduceMul, Nat.reduceSub, Nat.reduceLeDiff, Nat.reduceBEq, Int.reduceEq, Int.reduceNeg, tk, ntmps54, results54, s59, F59, zeroD, List.map_cons, List.map_nil, sr_len, bnd, List.drop_succ_cons, Nat.add_sub_cancel, Int.toNat_one, Nat.le_add_left, List.take_length, Int.reduceSub, Int.reduceAdd, Int.reduceToNat, Int.reduceLE, Int.reduceLT, Int.toNat_zero, Int.reduceNeg, mCells, mCell, s95]
      refine splitB_intro (fun hb => ?_) (fun hb => hK4 _ ?_)
      · rw [if_pos hb] at hst
        refine ⟨⟨by omega, by omega⟩, hK4 _ ?_⟩
        clear hK4 K4
        simp only [bW, ↓splitB_true, ↓splitB_false, nilCmp, opConv, eq_self, if_true, if_false, Nat.reduceEqDiff, reduceCtorEq, ↓reduceIte, Nat.reduceLT, Nat.reduceAdd, Nat.reduceMul, Nat.reduceSub, Nat.reduceLeDiff, Nat.reduceBEq, Int.reduceEq, Int.reduceNeg, tk, ntmps54, results54, s59, F59, zeroD, List.map_cons, List.map_nil, sr_len, bnd, List.drop_succ_cons, Nat.add_sub_cancel, Int.toNat_one, Nat.le_add_left, List.take_length, Int.reduceSub, Int.reduceAdd, Int.reduceToNat, Int.reduceLE, Int.reduceLT, Int.toNat_zero, Int.reduceNeg, mCells, mCell, s95]
        simp (disch := omega) only [wrap64]
        refine ⟨?_, i + 1, ?_, ?_, ?_⟩
        · simp only [bK, Nat.reduceEqDiff, reduceCtorEq, ↓reduceIte, Nat.reduceBEq, Nat.reduceLeDiff, Nat.reduceAdd, if_true, if_false]
        · simp only [bK, Nat.reduceEqDiff, reduceCtorEq, ↓reduceIte, Nat.reduceBEq, Nat.reduceLeDiff, Nat.reduceAdd, if_true, if_false]
          rw [hst]
          refine stL_eq ?_ ?_
          · simp only [Option.some.injEq, Ret.mk.injEq, List.cons.injEq, Prod.mk.injEq, AV.d.injEq, D.i.injEq, D.b.injEq, D.s.injEq, true_and, and_true]
            try omega
          · try rfl
        · omega
        · omega
      · rw [hb, if_neg (by simp)] at hst
        clear hK4 K4
        simp only [bW, ↓splitB_true, ↓splitB_false, nilCmp, opConv, eq_self, if_true, if_false, Nat.reduceEqDiff, reduceCtorEq, ↓reduceIte, Nat.reduceLT, Nat.reduceAdd, Nat.reduceMul, Nat.reduceSub, Nat.reduceLeDiff, Nat.reduceBEq, Int.reduceEq, Int.reduceNeg, tk, ntmps54, results54, s59, F59, zeroD, List.map_cons, List.map_nil, sr_len, bnd, List.drop_succ_cons, Nat.add_sub_cancel, Int.toNat_one, Nat.le_add_left, List.take_length, Int.reduceSub, Int.reduceAdd, Int.reduceToNat, Int.reduceLE, Int.reduceLT, Int.toNat_zero, Int.reduceNeg, mCells, mCell, s95]
        simp (disch := omega) only [wrap64]
        refine ⟨?_, i + 1, ?_, ?_, ?_⟩
        · simp only [bK, Nat.reduceEqDiff, reduceCtorEq, ↓reduceIte, Nat.reduceBEq, Nat.reduceLeDiff, Nat.reduceAdd, if_true, if_false]
        · simp only [bK, Nat.reduceEqDiff, reduceCtorEq, ↓reduceIte, Nat.reduceBEq, Nat.reduceLeDiff, Nat.reduceAdd, if_true, if_false]
          rw [hst]
          refine stL_eq ?_ ?_
          · simp only [Option.some.injEq, Ret.mk.injEq, List.cons.injEq, Prod.mk.injEq, AV.d.injEq, D.i.injEq, D.b.injEq, D.s.injEq, true_and, and_true]
            try omega
          · try rfl
        · omega
        · omega
    · have hge := of_decide_eq_false hb
      have e : i = fs.length := by omega
      subst e
      clear hb hge
      simp only [bW, ↓splitB_true, ↓splitB_false, nilCmp, opConv, eq_self, if_true, if_false, Nat.reduceEqDiff, reduceCtorEq, ↓reduceIte, Nat.reduceLT, Nat.reduceAdd, Nat.reduceMul, Nat.reduceSub, Nat.reduceLeDiff, Nat.reduceBEq, Int.reduceEq, Int.reduceNeg, tk, ntmps54, results54, s59, F59, zeroD, List.map_cons, List.map_nil, sr_len, bnd, List.drop_succ_cons, Nat.add_sub_cancel, Int.toNat_one, Nat.le_add_left, List.take_length, Int.reduceSub, Int.reduceAdd, Int.reduceToNat, Int.reduceLE, Int.reduceLT, Int.toNat_zero, Int.reduceNeg, mCells, mCell, s95]
      rfl

end Go.Fs.Sr

set_option linter.unusedVariables false
namespace Go.Fs.Sr
/-- What is seen is reached, and what begins is seen. -/
structure PInv (fs ns : List (List D)) (seen : Nat → Bool) : Prop where
  sound : ∀ i, i < fs.length → seen i = true → Reach fs ns i
  mains : ∀ a : Nat, [.i .i64 (a : Int)] ∈ ns → seen a = true
def clo (fs : List (List D)) (seen : Nat → Bool) (j : Nat) : Prop := seen j = true → ∀ a : Nat, [.i .i64 (a : Int)] ∈ calls fs j → seen a = true
structure MInv (fs ns : List (List D)) (seen : Nat → Bool) (i : Nat) : Prop where
  sound : ∀ i, i < fs.length → seen i = true → Reach fs ns i
  mains : ∀ a : Nat, [.i .i64 (a : Int)] ∈ ns → seen a = true ∨ [.i .i64 (a : Int)] ∈ ns.drop i
theorem minv_init (fs ns : List (List D)) : MInv fs ns (fun _ => false) 0 where
  sound i _ h := by cases h
  mains a h := .inr h
theorem minv_step {fs ns : List (List D)} {seen : Nat → Bool} {i a : Nat} (h : MInv fs ns seen i) (hi : i < ns.length) (ha : ns.getD i [] = [.i .i64 (a : Int)]) : MInv fs ns (upd seen a true) (i + 1) where
  sound j hj hs := by
    simp only [upd] at hs
    split at hs
    · rename_i e
      subst e
      refine .main j ?_
      rw [← ha, List.getD_eq_getElem?_getD, List.getElem?_eq_getElem hi]
      exact List.getElem_mem hi
    · exact h.sound j hj hs
  mains b hb := by
    by_cases e : b = a
    · subst e; left; simp [upd]
    · rcases h.mains b hb with h1 | h1
      · left; simp only [upd]; rw [if_neg e]; exact h1
      · rw [drop_get hi, ha] at h1
        cases h1 with
        | head => exact absurd rfl e
        | tail _ h1 => exact .inr h1
theorem minv_end {fs ns : List (List D)} {seen : Nat → Bool} (h : MInv fs ns seen ns.length) : PInv fs ns seen where
  sound := h.sound
  mains a ha := by
    rcases h.mains a ha with h1 | h1
    · exact h1
    · rw [List.drop_length] at h1; cases h1
theorem pinv_set {fs ns : List (List D)} {seen : Nat → Bool} {i a : Nat} (h : PInv fs ns seen) (hi : i < fs.length) (hs : seen i = true) (ha : [.i .i64 (a : Int)] ∈ calls fs i) : PInv fs ns (upd seen a true) where
  sound j hj hsj := by
    simp only [upd] at hsj
    split at hsj
    · rename_i e; subst e; exact .call i j (h.sound i hi hs) ha
    · exact h.sound j hj hsj
  mains b hb := by
    simp only [upd]
    split
    · rfl
    · exact h.mains b hb
theorem pinv_end {fs ns : List (List D)} {seen : Nat → Bool} (hi : imgB fs ns = true) (hs : shLL [.i] ns = true) (h : PInv fs ns seen) (hc : ∀ j, j < fs.length → clo fs seen j) : ∀ i, i < fs.length → seen i = reachB fs ns i := by
  intro i hlt
  rw [Bool.eq_iff_iff, reachB_true]
  refine ⟨h.sound i hlt, fun hr => ?_⟩
  have : ∀ i, Reach fs ns i → i < fs.length ∧ seen i = true := by
    intro i hr
    induction hr with
    | main a ha =>
      obtain ⟨b, e, hb⟩ := img_mains hi hs _ ha
      have hab : a = b := Int.ofNat_inj.1 (by simpa using e)
      subst hab
      exact ⟨hb, h.mains a ha⟩
    | call i a _ hca ih =>
      obtain ⟨b, e, hb⟩ := calls_good _ hca
      have hab : a = b := Int.ofNat_inj.1 (by simpa using e)
      subst hab
      exact ⟨hb, hc i ih.1 ih.2 a hca⟩
  exact (this i hr).2
/-- Within one function's code. -/
structure KInv (fs ns : List (List D)) (cs : List (List D)) (i : Nat) (u0 : Nat) (more : Bool) (seen : Nat → Bool) (k : Nat) : Prop where
  p : PInv fs ns seen
  done : more = false → (∀ j, j < i → clo fs seen j) ∧ ∀ a : Nat, [.i .i64 (a : Int)] ∈ cs.flatMap (callOf fs.length) → seen a = true ∨ [.i .i64 (a : Int)] ∈ (cs.drop k).flatMap (callOf fs.length)
  le : un seen fs.length ≤ u0
  lt : more = true → un seen fs.length < u0
structure JInv (fs ns : List (List D)) (u0 : Nat) (more : Bool) (seen : Nat → Bool) (i : Nat) : Prop where
  p : PInv fs ns seen
  done : more = false → ∀ j, j < i → clo fs seen j
  le : un seen fs.length ≤ u0
  lt : more = true → un seen fs.length < u0
theorem kinv_init {fs ns cs : List (List D)} {i u0 : Nat} {more : Bool} {seen : Nat → Bool} (h : JInv fs ns u0 more seen i) : KInv fs ns cs i u0 more seen 0 where
  p := h.p
  done e := ⟨h.done e, fun a ha => .inr ha⟩
  le := h.le
  lt := h.lt
theorem kinv_set {fs ns cs : List (List D)} {i u0 k a : Nat} {more : Bool} {seen : Nat → Bool} (h : KInv fs ns cs i u0 more seen k) (hi : i < fs.length) (hs : seen i = true) (ha : [.i .i64 (a : Int)] ∈ calls fs i) (hal : a < fs.length) (hn : seen a = false) : KInv fs ns cs i u0 true (upd seen a true) (k + 1) where
  p := pinv_set h.p hi hs ha
  done e := by cases e
  le := by have := un_set hn hal; have := h.le; omega
  lt _ := by have := un_set hn hal; have := h.le; omega
theorem kinv_pass {fs ns cs : List (List D)} {i u0 k : Nat} {more : Bool} {seen : Nat → Bool} (h : KInv fs ns cs i u0 more seen k) (hk : k < cs.length) (hr : ∀ a : Nat, [.i .i64 (a : Int)] ∈ callOf fs.length (cs.getD k []) → seen a = true) : KInv fs ns cs i u0 more seen (k + 1) where
  p := h.p
  done e := by
    refine ⟨(h.done e).1, fun a ha => ?_⟩
    rcases (h.done e).2 a ha with h1 | h1
    · exact .inl h1
    · rw [drop_get hk, List.flatMap_cons] at h1
      rcases List.mem_append.1 h1 with h1 | h1
      · exact .inl (hr a h1)
      · exact .inr h1
  le := h.le
  lt := h.lt
theorem kinv_end {fs ns cs : List (List D)} {i u0 k : Nat} {more : Bool} {seen : Nat → Bool} (h : KInv fs ns cs i u0 more seen k) (hcs : calls fs i = cs.flatMap (callOf fs.length)) (hk : k = cs.length ∨ seen i = false) : JInv fs ns u0 more seen (i + 1) where
  p := h.p
  done e j hj := by
    by_cases ej : j = i
    · subst ej
      intro hs a ha
      rcases hk with hk | hk
      · rw [hcs] at ha
        rcases (h.done e).2 a ha with h1 | h1
        · exact h1
        · rw [hk, List.drop_length] at h1; cases h1
      · rw [hk] at hs; cases hs
    · exact (h.done e).1 j (by omega)
  le := h.le
  lt := h.lt
theorem img_ins {fs ns : List (List D)} (h : imgB fs ns = true) {i k : Nat} (hi : i < fs.length) (hk : k < (codeL (fs.getD i [])).length) : insB ((codeL (fs.getD i [])).getD k []) = true := by
  have h1 := (img_code h hi).2
  rw [List.all_eq_true] at h1
  apply h1
  generalize codeL (fs.getD i []) = cs at hk
  rw [List.getD_eq_getElem?_getD, List.getElem?_eq_getElem hk]
  exact List.getElem_mem hk
end Go.Fs.Sr
