/- A part of the proof: an evaluator of the program's code over plain data, proved sound, and walks of the program's functions by it. No conditions beyond those in the theorems. -/
import Derived.Test.YtbgbnmghhmfihaaLawIp8
import Derived.Test.YtbgbnmghhmfihaaLawIp9
set_option linter.unusedVariables false
set_option linter.unusedSimpArgs false
set_option maxRecDepth 20000
set_option maxHeartbeats 2000000
namespace Go.Fs.Sr
open Go.Proofs.Try

theorem f52_ok {S : Nat → Option Summ} (hS : SumOK prog S) (ds : List D) (r : D) (hr : toP [.i] ds = some r) : FnOK prog 52 (ds.map .d) { ret := r } := by
  obtain ⟨xs, rfl, h1, h2, h3, rfl⟩ := toP_inv hr
  clear hr
  refine fnOK_awp (A := ⟨tab, S, .x⟩) tab_ok hS mixed func52 rfl rfl rfl rfl (by show 1 ≤ 22; decide) rfl ?_
  refine seqK fun K hK => ?_
  simp only [bW, ↓splitB_true, ↓splitB_false, nilCmp, opConv, eq_self, if_true, if_false, Nat.reduceEqDiff, reduceCtorEq, ↓reduceIte, Nat.reduceLT, Nat.reduceAdd, Nat.reduceMul, Nat.reduceSub, Nat.reduceLeDiff, Nat.reduceBEq, Int.reduceEq, Int.reduceNeg, tk, ntmps52, results52, zeroD, List.map_cons, List.map_nil]
  refine hK _ ?_; clear hK K
  refine seqK fun K hK => ?_
  simp only [bW, ↓splitB_true, ↓splitB_false, nilCmp, opConv, eq_self, if_true, if_false, Nat.reduceEqDiff, reduceCtorEq, ↓reduceIte, Nat.reduceLT, Nat.reduceAdd, Nat.reduceMul, Nat.reduceSub, Nat.reduceLeDiff, Nat.reduceBEq, Int.reduceEq, Int.reduceNeg, tk, ntmps52, results52, zeroD, List.map_cons, List.map_nil]
  refine ⟨⟨by omega, by omega, by omega⟩, ?_⟩
  refine hK _ ?_; clear hK K
  refine seqK fun K hK => ?_
  refine seqK fun K2 hK2 => ?_
  simp only [bW, ↓splitB_true, ↓splitB_false, nilCmp, opConv, eq_self, if_true, if_false, Nat.reduceEqDiff, reduceCtorEq, ↓reduceIte, Nat.reduceLT, Nat.reduceAdd, Nat.reduceMul, Nat.reduceSub, Nat.reduceLeDiff, Nat.reduceBEq, Int.reduceEq, Int.reduceNeg, tk, ntmps52, results52, zeroD, List.map_cons, List.map_nil]
  refine hK2 _ ?_; clear hK2 K2
  rw [awp_block]
  refine loopW [0, 3, 4] (fun i : Nat => stL 22 [(0, .d (.l 1 xs)), (3, .r 500000), (4, .d (.i .i64 i))] [(500000, some (.row 1 (xs.take i ++ List.replicate (xs.length - i) [.i .i64 0]) true false i))]) (fun i => i ≤ xs.length) (fun i => xs.length - i) ?_ ?_
  · refine ⟨?_, 0, ?_, ?_⟩
    · simp only [bK, Nat.reduceEqDiff, reduceCtorEq, ↓reduceIte, Nat.reduceBEq, Nat.reduceLeDiff, Nat.reduceAdd, if_true, if_false]
    · simp only [bK, Nat.reduceEqDiff, reduceCtorEq, ↓reduceIte, Nat.reduceBEq, Nat.reduceLeDiff, Nat.reduceAdd, if_true, if_false]
      refine stL_eq ?_ ?_
      · simp only [Option.some.injEq, Ret.mk.injEq, List.cons.injEq, Prod.mk.injEq, AV.d.injEq, D.i.injEq, D.b.injEq, D.s.injEq, true_and, and_true]
        try rfl
      · simp only [fill_zero]
        try rfl
    · omega
  rintro i hi
  refine seqK fun K3 hK3 => ?_
  simp only [bW, ↓splitB_true, ↓splitB_false, nilCmp, opConv, eq_self, if_true, if_false, Nat.reduceEqDiff, reduceCtorEq, ↓reduceIte, Nat.reduceLT, Nat.reduceAdd, Nat.reduceMul, Nat.reduceSub, Nat.reduceLeDiff, Nat.reduceBEq, Int.reduceEq, Int.reduceNeg, tk, ntmps52, results52, zeroD, List.map_cons, List.map_nil]
  refine splitB_intro (fun hb => hK3 _ ?_) (fun hb => hK _ ?_) <;> clear hK3 K3
  · have hlt := of_decide_eq_true hb
    clear hb
    have hlt : i < xs.length := by omega
    have hrow := shLL_get h1 hlt
    generalize hrw : xs.getD i [] = row at hrow
    obtain ⟨c1, q1, rfl, e1, hrow⟩ := shL_cons hrow
    obtain rfl := shL_nil hrow
    obtain ⟨t, rfl⟩ := shD_i e1
    refine seqK fun K4 hK4 => ?_
    rw [awp_block]
    simp only [bW, ↓splitB_true, ↓splitB_false, nilCmp, opConv, eq_self, if_true, if_false, Nat.reduceEqDiff, reduceCtorEq, ↓reduceIte, Nat.reduceLT, Nat.reduceAdd, Nat.reduceMul, Nat.reduceSub, Nat.reduceLeDiff, Nat.reduceBEq, Int.reduceEq, Int.reduceNeg, tk, ntmps52, results52, zeroD, List.map_cons, List.map_nil]
    refine ⟨⟨by omega, by omega⟩, ?_⟩
    simp only [hrw]
    simp only [bW, ↓splitB_true, ↓splitB_false, nilCmp, opConv, eq_self, if_true, if_false, Nat.reduceEqDiff, reduceCtorEq, ↓reduceIte, Nat.reduceLT, Nat.reduceAdd, Nat.reduceMul, Nat.reduceSub, Nat.reduceLeDiff, Nat.reduceBEq, Int.reduceEq, Int.reduceNeg, tk, ntmps52, results52, zeroD, List.map_cons, List.map_nil]
    simp only [fill_len hi]
    refine ⟨⟨by omega, by omega⟩, ?_⟩
    simp only [fill_get hlt]
    simp only [bW, ↓splitB_true, ↓splitB_false, nilCmp, opConv, eq_self, if_true, if_false, Nat.reduceEqDiff, reduceCtorEq, ↓reduceIte, Nat.reduceLT, Nat.reduceAdd, Nat.reduceMul, Nat.reduceSub, Nat.reduceLeDiff, Nat.reduceBEq, Int.reduceEq, Int.reduceNeg, tk, ntmps52, results52, zeroD, List.map_cons, List.map_nil]
    refine hK4 _ ?_; clear hK4 K4
    rw [← hrw, fill_set hlt]
    simp only [bW, ↓splitB_true, ↓splitB_false, nilCmp, opConv, eq_self, if_true, if_false, Nat.reduceEqDiff, reduceCtorEq, ↓reduceIte, Nat.reduceLT, Nat.reduceAdd, Nat.reduceMul, Nat.reduceSub, Nat.reduceLeDiff, Nat.reduceBEq, Int.reduceEq, Int.reduceNeg, tk, ntmps52, results52, zeroD, List.map_cons, List.map_nil]
    simp (disch := omega) only [wrap64]
    refine ⟨?_, i + 1, ?_, ?_, ?_⟩
    · simp only [bK, Nat.reduceEqDiff, reduceCtorEq, ↓reduceIte, Nat.reduceBEq, Nat.reduceLeDiff, Nat.reduceAdd, if_true, if_false]
    · simp only [bK, Nat.reduceEqDiff, reduceCtorEq, ↓reduceIte, Nat.reduceBEq, Nat.reduceLeDiff, Nat.reduceAdd, if_true, if_false]
      refine stL_eq ?_ rfl
      simp only [Option.some.injEq, Ret.mk.injEq, List.cons.injEq, Prod.mk.injEq, AV.d.injEq, D.i.injEq, D.b.injEq, D.s.injEq, true_and, and_true]
      omega
    · omega
    · omega
  · have hge := of_decide_eq_false hb
    have e : i = xs.length := by omega
    subst e
    simp only [fill_all]
    simp only [bW, ↓splitB_true, ↓splitB_false, nilCmp, opConv, eq_self, if_true, if_false, Nat.reduceEqDiff, reduceCtorEq, ↓reduceIte, Nat.reduceLT, Nat.reduceAdd, Nat.reduceMul, Nat.reduceSub, Nat.reduceLeDiff, Nat.reduceBEq, Int.reduceEq, Int.reduceNeg, tk, ntmps52, results52, zeroD, List.map_cons, List.map_nil]
    try simp only [Option.some.injEq, Ret.mk.injEq, List.cons.injEq, Prod.mk.injEq, AV.d.injEq, D.i.injEq, D.b.injEq, D.s.injEq, true_and, and_true]

theorem f151_ok {S : Nat → Option Summ} (hS : SumOK prog S) (ds : List D) (r : D) (hr : toG ins2 ds = some r) : FnOK prog 151 (ds.map .d) { ret := r } := by
  obtain ⟨xs, rfl, h1, h2, h3, rfl⟩ := toG_inv hr
  clear hr
  obtain ⟨ct1, qt1, rfl, et1, h1⟩ := shL_cons h1
  obtain ⟨ct2, qt2, rfl, et2, h1⟩ := shL_cons h1
  obtain rfl := shL_nil h1
  obtain ⟨t1, rfl⟩ := shD_i et1
  obtain ⟨t2, rfl⟩ := shD_i et2
  simp only [okL_cons, okL_nil, okD_s, okD_l, okD_i, okD_b, and_true, true_and] at h2
  obtain ⟨kt1, kt2⟩ := h2
  simp only [wtL, wt, wt_i, wt_b] at h3
  refine fnOK_awp (A := ⟨tab, S, .x⟩) tab_ok hS mixed func151 rfl rfl rfl rfl (by show 1 ≤ 11; decide) rfl ?_
  refine seqK fun K hK => ?_
  simp only [bW, ↓splitB_true, ↓splitB_false, nilCmp, opConv, eq_self, if_true, if_false, Nat.reduceEqDiff, reduceCtorEq, ↓reduceIte, Nat.reduceLT, Nat.reduceAdd, Nat.reduceMul, Nat.reduceSub, Nat.reduceLeDiff, Nat.reduceBEq, Int.reduceEq, Int.reduceNeg, tk, ntmps151, results151]
  refine hK _ ?_; clear hK K
  refine seqK fun K hK => ?_
  simp only [bW, ↓splitB_true, ↓splitB_false, nilCmp, opConv, eq_self, if_true, if_false, Nat.reduceEqDiff, reduceCtorEq, ↓reduceIte, Nat.reduceLT, Nat.reduceAdd, Nat.reduceMul, Nat.reduceSub, Nat.reduceLeDiff, Nat.reduceBEq, Int.reduceEq, Int.reduceNeg, tk, ntmps151, results151]
  refine hK _ ?_; clear hK K
  refine seqK fun K hK => ?_
  simp only [bW, ↓splitB_true, ↓splitB_false, nilCmp, opConv, eq_self, if_true, if_false, Nat.reduceEqDiff, reduceCtorEq, ↓reduceIte, Nat.reduceLT, Nat.reduceAdd, Nat.reduceMul, Nat.reduceSub, Nat.reduceLeDiff, Nat.reduceBEq, Int.reduceEq, Int.reduceNeg, tk, ntmps151, results151]
  refine hK _ ?_; clear hK K
  refine seqK fun K hK => ?_
  simp only [bW, ↓splitB_true, ↓splitB_false, nilCmp, opConv, eq_self, if_true, if_false, Nat.reduceEqDiff, reduceCtorEq, ↓reduceIte, Nat.reduceLT, Nat.reduceAdd, Nat.reduceMul, Nat.reduceSub, Nat.reduceLeDiff, Nat.reduceBEq, Int.reduceEq, Int.reduceNeg, tk, ntmps151, results151]
  refine hK _ ?_; clear hK K
  simp only [bW, ↓splitB_true, ↓splitB_false, nilCmp, opConv, eq_self, if_true, if_false, Nat.reduceEqDiff, reduceCtorEq, ↓reduceIte, Nat.reduceLT, Nat.reduceAdd, Nat.reduceMul, Nat.reduceSub, Nat.reduceLeDiff, Nat.reduceBEq, Int.reduceEq, Int.reduceNeg, tk, ntmps151, results151]
  try rfl

theorem f128_ok {S : Nat → Option Summ} (hS : SumOK prog S) (s151 : S 151 = some (.own (toG ins2))) (ds : List D) (r : D) (hr : toP ins2 ds = some r) : FnOK prog 128 (ds.map .d) { ret := r } := by
  obtain ⟨xs, rfl, h1, h2, h3, rfl⟩ := toP_inv hr
  clear hr
  have hsz : (ins2 : List Sh).length = 2 := rfl
  rw [hsz]
  refine fnOK_awp (A := ⟨tab, S, .x⟩) tab_ok hS mixed func128 rfl rfl rfl rfl (by show 1 ≤ 23; decide) rfl ?_
  refine seqK fun K hK => ?_
  simp only [bW, ↓splitB_true, ↓splitB_false, nilCmp, opConv, eq_self, if_true, if_false, Nat.reduceEqDiff, reduceCtorEq, ↓reduceIte, Nat.reduceLT, Nat.reduceAdd, Nat.reduceMul, Nat.reduceSub, Nat.reduceLeDiff, Nat.reduceBEq, Int.reduceEq, Int.reduceNeg, tk, ntmps128, results128, zeroD, s151]
  refine hK _ ?_; clear hK K
  refine seqK fun K hK => ?_
  simp only [bW, ↓splitB_true, ↓splitB_false, nilCmp, opConv, eq_self, if_true, if_false, Nat.reduceEqDiff, reduceCtorEq, ↓reduceIte, Nat.reduceLT, Nat.reduceAdd, Nat.reduceMul, Nat.reduceSub, Nat.reduceLeDiff, Nat.reduceBEq, Int.reduceEq, Int.reduceNeg, tk, ntmps128, results128, zeroD, s151]
  refine ⟨⟨by omega, by omega, by omega⟩, ?_⟩
  refine hK _ ?_; clear hK K
  refine seqK fun K hK => ?_
  refine seqK fun K2 hK2 => ?_
  simp only [bW, ↓splitB_true, ↓splitB_false, nilCmp, opConv, eq_self, if_true, if_false, Nat.reduceEqDiff, reduceCtorEq, ↓reduceIte, Nat.reduceLT, Nat.reduceAdd, Nat.reduceMul, Nat.reduceSub, Nat.reduceLeDiff, Nat.reduceBEq, Int.reduceEq, Int.reduceNeg, tk, ntmps128, results128, zeroD, s151]
  refine hK2 _ ?_; clear hK2 K2
  rw [awp_block]
  refine loopW [0, 3, 4] (fun i : Nat => stL 23 [(0, .d (.l 2 xs)), (3, .r 500000), (4, .d (.i .i64 i))] [(500000, some (.row 2 (xs.take i ++ List.replicate (xs.length - i) [.i .i64 0, .i .i64 0]) true false i))]) (fun i => i ≤ xs.length) (fun i => xs.length - i) ?_ ?_
  · refine ⟨?_, 0, ?_, ?_⟩
    · simp only [bK, Nat.reduceEqDiff, reduceCtorEq, ↓reduceIte, Nat.reduceBEq, Nat.reduceLeDiff, Nat.reduceAdd, if_true, if_false]
    · simp only [bK, Nat.reduceEqDiff, reduceCtorEq, ↓reduceIte, Nat.reduceBEq, Nat.reduceLeDiff, Nat.reduceAdd, if_true, if_false]
      refine stL_eq ?_ ?_
      · simp only [Option.some.injEq, Ret.mk.injEq, List.cons.injEq, Prod.mk.injEq, AV.d.injEq, D.i.injEq, D.b.injEq, D.s.injEq, true_and, and_true]
        try rfl
      · simp only [fill_zero]
        try rfl
    · omega
  rintro i hi
  refine seqK fun K3 hK3 => ?_
  simp only [bW, ↓splitB_true, ↓splitB_false, nilCmp, opConv, eq_self, if_true, if_false, Nat.reduceEqDiff, reduceCtorEq, ↓reduceIte, Nat.reduceLT, Nat.reduceAdd, Nat.reduceMul, Nat.reduceSub, Nat.reduceLeDiff, Nat.reduceBEq, Int.reduceEq, Int.reduceNeg, tk, ntmps128, results128, zeroD, s151]
  refine splitB_intro (fun hb => hK3 _ ?_) (fun hb => hK _ ?_) <;> clear hK3 K3
  · have hlt := of_decide_eq_true hb
    clear hb
    have hlt : i < xs.length := by omega
    have hrow := shLL_get h1 hlt
    have hok := okLL_get h2 hlt
    have hm := wtLL_mono hlt
    generalize hrw : xs.getD i [] = row at hrow hok hm
    have hrow2 := hrow
    obtain ⟨ct1, qt1, rfl, et1, hrow2⟩ := shL_cons hrow2
    obtain ⟨ct2, qt2, rfl, et2, hrow2⟩ := shL_cons hrow2
    obtain rfl := shL_nil hrow2
    obtain ⟨t1, rfl⟩ := shD_i et1
    obtain ⟨t2, rfl⟩ := shD_i et2
    refine seqK fun K4 hK4 => ?_
    rw [awp_block]
    simp only [bW, ↓splitB_true, ↓splitB_false, nilCmp, opConv, eq_self, if_true, if_false, Nat.reduceEqDiff, reduceCtorEq, ↓reduceIte, Nat.reduceLT, Nat.reduceAdd, Nat.reduceMul, Nat.reduceSub, Nat.reduceLeDiff, Nat.reduceBEq, Int.reduceEq, Int.reduceNeg, tk, ntmps128, results128, zeroD, s151]
    refine ⟨⟨by omega, by omega⟩, ?_⟩
    rw [hrw]
    simp only [bW, ↓splitB_true, ↓splitB_false, nilCmp, opConv, eq_self, if_true, if_false, Nat.reduceEqDiff, reduceCtorEq, ↓reduceIte, Nat.reduceLT, Nat.reduceAdd, Nat.reduceMul, Nat.reduceSub, Nat.reduceLeDiff, Nat.reduceBEq, Int.reduceEq, Int.reduceNeg, tk, ntmps128, results128, zeroD, s151]
    refine OkO_toG hrow hok (by omega) ?_
    simp only [bW, ↓splitB_true, ↓splitB_false, nilCmp, opConv, eq_self, if_true, if_false, Nat.reduceEqDiff, reduceCtorEq, ↓reduceIte, Nat.reduceLT, Nat.reduceAdd, Nat.reduceMul, Nat.reduceSub, Nat.reduceLeDiff, Nat.reduceBEq, Int.reduceEq, Int.reduceNeg, tk, ntmps128, results128, zeroD, s151]
    simp only [fill_len hi]
    refine ⟨⟨by omega, by omega⟩, ?_⟩
    simp only [fill_get hlt]
    simp only [bW, ↓splitB_true, ↓splitB_false, nilCmp, opConv, eq_self, if_true, if_false, Nat.reduceEqDiff, reduceCtorEq, ↓reduceIte, Nat.reduceLT, Nat.reduceAdd, Nat.reduceMul, Nat.reduceSub, Nat.reduceLeDiff, Nat.reduceBEq, Int.reduceEq, Int.reduceNeg, tk, ntmps128, results128, zeroD, s151]
    refine hK4 _ ?_; clear hK4 K4
    rw [← hrw, fill_set hlt]
    simp only [bW, ↓splitB_true, ↓splitB_false, nilCmp, opConv, eq_self, if_true, if_false, Nat.reduceEqDiff, reduceCtorEq, ↓reduceIte, Nat.reduceLT, Nat.reduceAdd, Nat.reduceMul, Nat.reduceSub, Nat.reduceLeDiff, Nat.reduceBEq, Int.reduceEq, Int.reduceNeg, tk, ntmps128, results128, zeroD, s151]
    simp (disch := omega) only [wrap64]
    refine ⟨?_, i + 1, ?_, ?_, ?_⟩
    · simp only [bK, Nat.reduceEqDiff, reduceCtorEq, ↓reduceIte, Nat.reduceBEq, Nat.reduceLeDiff, Nat.reduceAdd, if_true, if_false]
    · simp only [bK, Nat.reduceEqDiff, reduceCtorEq, ↓reduceIte, Nat.reduceBEq, Nat.reduceLeDiff, Nat.reduceAdd, if_true, if_false]
      refine stL_eq ?_ rfl
      simp only [Option.some.injEq, Ret.mk.injEq, List.cons.injEq, Prod.mk.injEq, AV.d.injEq, D.i.injEq, D.b.injEq, D.s.injEq, true_and, and_true]
      omega
    · omega
    · omega
  · have hge := of_decide_eq_false hb
    have e : i = xs.length := by omega
    subst e
    simp only [fill_all]
    simp only [bW, ↓splitB_true, ↓splitB_false, nilCmp, opConv, eq_self, if_true, if_false, Nat.reduceEqDiff, reduceCtorEq, ↓reduceIte, Nat.reduceLT, Nat.reduceAdd, Nat.reduceMul, Nat.reduceSub, Nat.reduceLeDiff, Nat.reduceBEq, Int.reduceEq, Int.reduceNeg, tk, ntmps128, results128, zeroD, s151]
    try simp only [Option.some.injEq, Ret.mk.injEq, List.cons.injEq, Prod.mk.injEq, AV.d.injEq, D.i.injEq, D.b.injEq, D.s.injEq, true_and, and_true]

theorem f87_ok {S : Nat → Option Summ} (hS : SumOK prog S) (s52 : S 52 = some (.own (toP [.i]))) (s128 : S 128 = some (.own (toP ins2))) (ds : List D) (r : D) (hr : toG lfun ds = some r) : FnOK prog 87 (ds.map .d) { ret := r } := by
  obtain ⟨xs, rfl, h1, h2, h3, rfl⟩ := toG_inv hr
  clear hr
  obtain ⟨ct1, qt1, rfl, et1, h1⟩ := shL_cons h1
  obtain ⟨ct2, qt2, rfl, et2, h1⟩ := shL_cons h1
  obtain ⟨ct3, qt3, rfl, et3, h1⟩ := shL_cons h1
  obtain ⟨ct4, qt4, rfl, et4, h1⟩ := shL_cons h1
  obtain ⟨ct5, qt5, rfl, et5, h1⟩ := shL_cons h1
  obtain ⟨ct6, qt6, rfl, et6, h1⟩ := shL_cons h1
  obtain rfl := shL_nil h1
  obtain ⟨t1, rfl⟩ := shD_s et1
  obtain ⟨t2, rfl⟩ := shD_s et2
  obtain ⟨zt3, t3, rfl, hzt3, et3⟩ := shD_l2 et3
  obtain rfl : zt3 = 1 := hzt3
  obtain ⟨t4, rfl⟩ := shD_i et4
  obtain ⟨t5, rfl⟩ := shD_i et5
  obtain ⟨zt6, t6, rfl, hzt6, et6⟩ := shD_l2 et6
  obtain rfl : zt6 = 2 := hzt6
  simp only [okL_cons, okL_nil, okD_s, okD_l, okD_i, okD_b, and_true, true_and] at h2
  obtain ⟨kt1, kt2, ⟨kt3, kt3'⟩, kt4, kt5, ⟨kt6, kt6'⟩⟩ := h2
  simp only [wtL, wt, wt_i, wt_b] at h3
  refine fnOK_awp (A := ⟨tab, S, .x⟩) tab_ok hS mixed func87 rfl rfl rfl rfl (by show 1 ≤ 25; decide) rfl ?_
  refine seqK fun K hK => ?_
  simp only [bW, ↓splitB_true, ↓splitB_false, nilCmp, opConv, eq_self, if_true, if_false, Nat.reduceEqDiff, reduceCtorEq, ↓reduceIte, Nat.reduceLT, Nat.reduceAdd, Nat.reduceMul, Nat.reduceSub, Nat.reduceLeDiff, Nat.reduceBEq, Int.reduceEq, Int.reduceNeg, tk, ntmps87, results87, s128, s52]
  refine hK _ ?_; clear hK K
  refine seqK fun K hK => ?_
  simp only [bW, ↓splitB_true, ↓splitB_false, nilCmp, opConv, eq_self, if_true, if_false, Nat.reduceEqDiff, reduceCtorEq, ↓reduceIte, Nat.reduceLT, Nat.reduceAdd, Nat.reduceMul, Nat.reduceSub, Nat.reduceLeDiff, Nat.reduceBEq, Int.reduceEq, Int.reduceNeg, tk, ntmps87, results87, s128, s52]
  refine hK _ ?_; clear hK K
  refine seqK fun K hK => ?_
  simp only [bW, ↓splitB_true, ↓splitB_false, nilCmp, opConv, eq_self, if_true, if_false, Nat.reduceEqDiff, reduceCtorEq, ↓reduceIte, Nat.reduceLT, Nat.reduceAdd, Nat.reduceMul, Nat.reduceSub, Nat.reduceLeDiff, Nat.reduceBEq, Int.reduceEq, Int.reduceNeg, tk, ntmps87, results87, s128, s52]
  refine hK _ ?_; clear hK K
  refine seqK fun K hK => ?_
  simp only [bW, ↓splitB_true, ↓splitB_false, nilCmp, opConv, eq_self, if_true, if_false, Nat.reduceEqDiff, reduceCtorEq, ↓reduceIte, Nat.reduceLT, Nat.reduceAdd, Nat.reduceMul, Nat.reduceSub, Nat.reduceLeDiff, Nat.reduceBEq, Int.reduceEq, Int.reduceNeg, tk, ntmps87, results87, s128, s52]
  refine hK _ ?_; clear hK K
  refine seqK fun K hK => ?_
  simp only [bW, ↓splitB_true, ↓splitB_false, nilCmp, opConv, eq_self, if_true, if_false, Nat.reduceEqDiff, reduceCtorEq, ↓reduceIte, Nat.reduceLT, Nat.reduceAdd, Nat.reduceMul, Nat.reduceSub, Nat.reduceLeDiff, Nat.reduceBEq, Int.reduceEq, Int.reduceNeg, tk, ntmps87, results87, s128, s52]
  refine OkO_toP rfl et3 kt3' (by omega) ?_
  simp only [bW, ↓splitB_true, ↓splitB_false, nilCmp, opConv, eq_self, if_true, if_false, Nat.reduceEqDiff, reduceCtorEq, ↓reduceIte, Nat.reduceLT, Nat.reduceAdd, Nat.reduceMul, Nat.reduceSub, Nat.reduceLeDiff, Nat.reduceBEq, Int.reduceEq, Int.reduceNeg, tk, ntmps87, results87, s128, s52]
  refine hK _ ?_; clear hK K
  refine seqK fun K hK => ?_
  simp only [bW, ↓splitB_true, ↓splitB_false, nilCmp, opConv, eq_self, if_true, if_false, Nat.reduceEqDiff, reduceCtorEq, ↓reduceIte, Nat.reduceLT, Nat.reduceAdd, Nat.reduceMul, Nat.reduceSub, Nat.reduceLeDiff, Nat.reduceBEq, Int.reduceEq, Int.reduceNeg, tk, ntmps87, results87, s128, s52]
  refine hK _ ?_; clear hK K
  refine seqK fun K hK => ?_
  simp only [bW, ↓splitB_true, ↓splitB_false, nilCmp, opConv, eq_self, if_true, if_false, Nat.reduceEqDiff, reduceCtorEq, ↓reduceIte, Nat.reduceLT, Nat.reduceAdd, Nat.reduceMul, Nat.reduceSub, Nat.reduceLeDiff, Nat.reduceBEq, Int.reduceEq, Int.reduceNeg, tk, ntmps87, results87, s128, s52]
  refine hK _ ?_; clear hK K
  refine seqK fun K hK => ?_
  simp only [bW, ↓splitB_true, ↓splitB_false, nilCmp, opConv, eq_self, if_true, if_false, Nat.reduceEqDiff, reduceCtorEq, ↓reduceIte, Nat.reduceLT, Nat.reduceAdd, Nat.reduceMul, Nat.reduceSub, Nat.reduceLeDiff, Nat.reduceBEq, Int.reduceEq, Int.reduceNeg, tk, ntmps87, results87, s128, s52]
  refine OkO_toP rfl et6 kt6' (by omega) ?_
  simp only [bW, ↓splitB_true, ↓splitB_false, nilCmp, opConv, eq_self, if_true, if_false, Nat.reduceEqDiff, reduceCtorEq, ↓reduceIte, Nat.reduceLT, Nat.reduceAdd, Nat.reduceMul, Nat.reduceSub, Nat.reduceLeDiff, Nat.reduceBEq, Int.reduceEq, Int.reduceNeg, tk, ntmps87, results87, s128, s52]
  refine hK _ ?_; clear hK K
  simp only [bW, ↓splitB_true, ↓splitB_false, nilCmp, opConv, eq_self, if_true, if_false, Nat.reduceEqDiff, reduceCtorEq, ↓reduceIte, Nat.reduceLT, Nat.reduceAdd, Nat.reduceMul, Nat.reduceSub, Nat.reduceLeDiff, Nat.reduceBEq, Int.reduceEq, Int.reduceNeg, tk, ntmps87, results87, s128, s52]
  try rfl

theorem f51_ok {S : Nat → Option Summ} (hS : SumOK prog S) (s87 : S 87 = some (.own (toG lfun))) (ds : List D) (r : D) (hr : toP lfun ds = some r) : FnOK prog 51 (ds.map .d) { ret := r } := by
  obtain ⟨xs, rfl, h1, h2, h3, rfl⟩ := toP_inv hr
  clear hr
  have hsz : (lfun : List Sh).length = 6 := rfl
  rw [hsz]
  refine fnOK_awp (A := ⟨tab, S, .x⟩) tab_ok hS mixed func51 rfl rfl rfl rfl (by show 1 ≤ 23; decide) rfl ?_
  refine seqK fun K hK => ?_
  simp only [bW, ↓splitB_true, ↓splitB_false, nilCmp, opConv, eq_self, if_true, if_false, Nat.reduceEqDiff, reduceCtorEq, ↓reduceIte, Nat.reduceLT, Nat.reduceAdd, Nat.reduceMul, Nat.reduceSub, Nat.reduceLeDiff, Nat.reduceBEq, Int.reduceEq, Int.reduceNeg, tk, ntmps51, results51, zeroD, s87]
  refine hK _ ?_; clear hK K
  refine seqK fun K hK => ?_
  simp only [bW, ↓splitB_true, ↓splitB_false, nilCmp, opConv, eq_self, if_true, if_false, Nat.reduceEqDiff, reduceCtorEq, ↓reduceIte, Nat.reduceLT, Nat.reduceAdd, Nat.reduceMul, Nat.reduceSub, Nat.reduceLeDiff, Nat.reduceBEq, Int.reduceEq, Int.reduceNeg, tk, ntmps51, results51, zeroD, s87]
  refine ⟨⟨by omega, by omega, by omega⟩, ?_⟩
  refine hK _ ?_; clear hK K
  refine seqK fun K hK => ?_
  refine seqK fun K2 hK2 => ?_
  simp only [bW, ↓splitB_true, ↓splitB_false, nilCmp, opConv, eq_self, if_true, if_false, Nat.reduceEqDiff, reduceCtorEq, ↓reduceIte, Nat.reduceLT, Nat.reduceAdd, Nat.reduceMul, Nat.reduceSub, Nat.reduceLeDiff, Nat.reduceBEq, Int.reduceEq, Int.reduceNeg, tk, ntmps51, results51, zeroD, s87]
  refine hK2 _ ?_; clear hK2 K2
  rw [awp_block]
  refine loopW [0, 3, 4] (fun i : Nat => stL 23 [(0, .d (.l 6 xs)), (3, .r 500000), (4, .d (.i .i64 i))] [(500000, some (.row 6 (xs.take i ++ List.replicate (xs.length - i) [.s ByteArray.empty, .s ByteArray.empty, .l 1 [], .i .i64 0, .i .i64 0, .l 2 []]) true false i))]) (fun i => i ≤ xs.length) (fun i => xs.length - i) ?_ ?_
  · refine ⟨?_, 0, ?_, ?_⟩
    · simp only [bK, Nat.reduceEqDiff, reduceCtorEq, ↓reduceIte, Nat.reduceBEq, Nat.reduceLeDiff, Nat.reduceAdd, if_true, if_false]
    · simp only [bK, Nat.reduceEqDiff, reduceCtorEq, ↓reduceIte, Nat.reduceBEq, Nat.reduceLeDiff, Nat.reduceAdd, if_true, if_false]
      refine stL_eq ?_ ?_
      · simp only [Option.some.injEq, Ret.mk.injEq, List.cons.injEq, Prod.mk.injEq, AV.d.injEq, D.i.injEq, D.b.injEq, D.s.injEq, true_and, and_true]
        try rfl
      · simp only [fill_zero]
        try rfl
    · omega
  rintro i hi
  refine seqK fun K3 hK3 => ?_
  simp only [bW, ↓splitB_true, ↓splitB_false, nilCmp, opConv, eq_self, if_true, if_false, Nat.reduceEqDiff, reduceCtorEq, ↓reduceIte, Nat.reduceLT, Nat.reduceAdd, Nat.reduceMul, Nat.reduceSub, Nat.reduceLeDiff, Nat.reduceBEq, Int.reduceEq, Int.reduceNeg, tk, ntmps51, results51, zeroD, s87]
  refine splitB_intro (fun hb => hK3 _ ?_) (fun hb => hK _ ?_) <;> clear hK3 K3
  · have hlt := of_decide_eq_true hb
    clear hb
    have hlt : i < xs.length := by omega
    have hrow := shLL_get h1 hlt
    have hok := okLL_get h2 hlt
    have hm := wtLL_mono hlt
    generalize hrw : xs.getD i [] = row at hrow hok hm
    have hrow2 := hrow
    obtain ⟨ct1, qt1, rfl, et1, hrow2⟩ := shL_cons hrow2
    obtain ⟨ct2, qt2, rfl, et2, hrow2⟩ := shL_cons hrow2
    obtain ⟨ct3, qt3, rfl, et3, hrow2⟩ := shL_cons hrow2
    obtain ⟨ct4, qt4, rfl, et4, hrow2⟩ := shL_cons hrow2
    obtain ⟨ct5, qt5, rfl, et5, hrow2⟩ := shL_cons hrow2
    obtain ⟨ct6, qt6, rfl, et6, hrow2⟩ := shL_cons hrow2
    obtain rfl := shL_nil hrow2
    obtain ⟨t1, rfl⟩ := shD_s et1
    obtain ⟨t2, rfl⟩ := shD_s et2
    obtain ⟨zt3, t3, rfl, hzt3, et3⟩ := shD_l2 et3
    obtain rfl : zt3 = 1 := hzt3
    obtain ⟨t4, rfl⟩ := shD_i et4
    obtain ⟨t5, rfl⟩ := shD_i et5
    obtain ⟨zt6, t6, rfl, hzt6, et6⟩ := shD_l2 et6
    obtain rfl : zt6 = 2 := hzt6
    refine seqK fun K4 hK4 => ?_
    rw [awp_block]
    simp only [bW, ↓splitB_true, ↓splitB_false, nilCmp, opConv, eq_self, if_true, if_false, Nat.reduceEqDiff, reduceCtorEq, ↓reduceIte, Nat.reduceLT, Nat.reduceAdd, Nat.reduceMul, Nat.reduceSub, Nat.reduceLeDiff, Nat.reduceBEq, Int.reduceEq, Int.reduceNeg, tk, ntmps51, results51, zeroD, s87]
    refine ⟨⟨by omega, by omega⟩, ?_⟩
    rw [hrw]
    simp only [bW, ↓splitB_true, ↓splitB_false, nilCmp, opConv, eq_self, if_true, if_false, Nat.reduceEqDiff, reduceCtorEq, ↓reduceIte, Nat.reduceLT, Nat.reduceAdd, Nat.reduceMul, Nat.reduceSub, Nat.reduceLeDiff, Nat.reduceBEq, Int.reduceEq, Int.reduceNeg, tk, ntmps51, results51, zeroD, s87]
    refine OkO_toG hrow hok (by omega) ?_
    simp only [bW, ↓splitB_true, ↓splitB_false, nilCmp, opConv, eq_self, if_true, if_false, Nat.reduceEqDiff, reduceCtorEq, ↓reduceIte, Nat.reduceLT, Nat.reduceAdd, Nat.reduceMul, Nat.reduceSub, Nat.reduceLeDiff, Nat.reduceBEq, Int.reduceEq, Int.reduceNeg, tk, ntmps51, results51, zeroD, s87]
    simp only [fill_len hi]
    refine ⟨⟨by omega, by omega⟩, ?_⟩
    simp only [fill_get hlt]
    simp only [bW, ↓splitB_true, ↓splitB_false, nilCmp, opConv, eq_self, if_true, if_false, Nat.reduceEqDiff, reduceCtorEq, ↓reduceIte, Nat.reduceLT, Nat.reduceAdd, Nat.reduceMul, Nat.reduceSub, Nat.reduceLeDiff, Nat.reduceBEq, Int.reduceEq, Int.reduceNeg, tk, ntmps51, results51, zeroD, s87]
    refine hK4 _ ?_; clear hK4 K4
    rw [← hrw, fill_set hlt]
    simp only [bW, ↓splitB_true, ↓splitB_false, nilCmp, opConv, eq_self, if_true, if_false, Nat.reduceEqDiff, reduceCtorEq, ↓reduceIte, Nat.reduceLT, Nat.reduceAdd, Nat.reduceMul, Nat.reduceSub, Nat.reduceLeDiff, Nat.reduceBEq, Int.reduceEq, Int.reduceNeg, tk, ntmps51, results51, zeroD, s87]
    simp (disch := omega) only [wrap64]
    refine ⟨?_, i + 1, ?_, ?_, ?_⟩
    · simp only [bK, Nat.reduceEqDiff, reduceCtorEq, ↓reduceIte, Nat.reduceBEq, Nat.reduceLeDiff, Nat.reduceAdd, if_true, if_false]
    · simp only [bK, Nat.reduceEqDiff, reduceCtorEq, ↓reduceIte, Nat.reduceBEq, Nat.reduceLeDiff, Nat.reduceAdd, if_true, if_false]
      refine stL_eq ?_ rfl
      simp only [Option.some.injEq, Ret.mk.injEq, List.cons.injEq, Prod.mk.injEq, AV.d.injEq, D.i.injEq, D.b.injEq, D.s.injEq, true_and, and_true]
      omega
    · omega
    · omega
  · have hge := of_decide_eq_false hb
    have e : i = xs.length := by omega
    subst e
    simp only [fill_all]
    simp only [bW, ↓splitB_true, ↓splitB_false, nilCmp, opConv, eq_self, if_true, if_false, Nat.reduceEqDiff, reduceCtorEq, ↓reduceIte, Nat.reduceLT, Nat.reduceAdd, Nat.reduceMul, Nat.reduceSub, Nat.reduceLeDiff, Nat.reduceBEq, Int.reduceEq, Int.reduceNeg, tk, ntmps51, results51, zeroD, s87]
    try simp only [Option.some.injEq, Ret.mk.injEq, List.cons.injEq, Prod.mk.injEq, AV.d.injEq, D.i.injEq, D.b.injEq, D.s.injEq, true_and, and_true]

theorem f17_ok {S : Nat → Option Summ} (hS : SumOK prog S) (s51 : S 51 = some (.own (toP lfun))) (s52 : S 52 = some (.own (toP [.i]))) (ds : List D) (r : D) (hr : toG limg ds = some r) : FnOK prog 17 (ds.map .d) { ret := r } := by
  obtain ⟨xs, rfl, h1, h2, h3, rfl⟩ := toG_inv hr
  clear hr
  obtain ⟨ct1, qt1, rfl, et1, h1⟩ := shL_cons h1
  obtain ⟨ct2, qt2, rfl, et2, h1⟩ := shL_cons h1
  obtain rfl := shL_nil h1
  obtain ⟨zt1, t1, rfl, hzt1, et1⟩ := shD_l2 et1
  obtain rfl : zt1 = 6 := hzt1
  obtain ⟨zt2, t2, rfl, hzt2, et2⟩ := shD_l2 et2
  obtain rfl : zt2 = 1 := hzt2
  simp only [okL_cons, okL_nil, okD_s, okD_l, okD_i, okD_b, and_true, true_and] at h2
  obtain ⟨⟨kt1, kt1'⟩, ⟨kt2, kt2'⟩⟩ := h2
  simp only [wtL, wt, wt_i, wt_b] at h3
  refine fnOK_awp (A := ⟨tab, S, .x⟩) tab_ok hS mixed func17 rfl rfl rfl rfl (by show 1 ≤ 13; decide) rfl ?_
  refine seqK fun K hK => ?_
  simp only [bW, ↓splitB_true, ↓splitB_false, nilCmp, opConv, eq_self, if_true, if_false, Nat.reduceEqDiff, reduceCtorEq, ↓reduceIte, Nat.reduceLT, Nat.reduceAdd, Nat.reduceMul, Nat.reduceSub, Nat.reduceLeDiff, Nat.reduceBEq, Int.reduceEq, Int.reduceNeg, tk, ntmps17, results17, s51, s52]
  refine hK _ ?_; clear hK K
  refine seqK fun K hK => ?_
  simp only [bW, ↓splitB_true, ↓splitB_false, nilCmp, opConv, eq_self, if_true, if_false, Nat.reduceEqDiff, reduceCtorEq, ↓reduceIte, Nat.reduceLT, Nat.reduceAdd, Nat.reduceMul, Nat.reduceSub, Nat.reduceLeDiff, Nat.reduceBEq, Int.reduceEq, Int.reduceNeg, tk, ntmps17, results17, s51, s52]
  refine hK _ ?_; clear hK K
  refine seqK fun K hK => ?_
  simp only [bW, ↓splitB_true, ↓splitB_false, nilCmp, opConv, eq_self, if_true, if_false, Nat.reduceEqDiff, reduceCtorEq, ↓reduceIte, Nat.reduceLT, Nat.reduceAdd, Nat.reduceMul, Nat.reduceSub, Nat.reduceLeDiff, Nat.reduceBEq, Int.reduceEq, Int.reduceNeg, tk, ntmps17, results17, s51, s52]
  refine OkO_toP rfl et1 kt1' (by omega) ?_
  simp only [bW, ↓splitB_true, ↓splitB_false, nilCmp, opConv, eq_self, if_true, if_false, Nat.reduceEqDiff, reduceCtorEq, ↓reduceIte, Nat.reduceLT, Nat.reduceAdd, Nat.reduceMul, Nat.reduceSub, Nat.reduceLeDiff, Nat.reduceBEq, Int.reduceEq, Int.reduceNeg, tk, ntmps17, results17, s51, s52]
  refine hK _ ?_; clear hK K
  refine seqK fun K hK => ?_
  simp only [bW, ↓splitB_true, ↓splitB_false, nilCmp, opConv, eq_self, if_true, if_false, Nat.reduceEqDiff, reduceCtorEq, ↓reduceIte, Nat.reduceLT, Nat.reduceAdd, Nat.reduceMul, Nat.reduceSub, Nat.reduceLeDiff, Nat.reduceBEq, Int.reduceEq, Int.reduceNeg, tk, ntmps17, results17, s51, s52]
  refine OkO_toP rfl et2 kt2' (by omega) ?_
  simp only [bW, ↓splitB_true, ↓splitB_false, nilCmp, opConv, eq_self, if_true, if_false, Nat.reduceEqDiff, reduceCtorEq, ↓reduceIte, Nat.reduceLT, Nat.reduceAdd, Nat.reduceMul, Nat.reduceSub, Nat.reduceLeDiff, Nat.reduceBEq, Int.reduceEq, Int.reduceNeg, tk, ntmps17, results17, s51, s52]
  refine hK _ ?_; clear hK K
  simp only [bW, ↓splitB_true, ↓splitB_false, nilCmp, opConv, eq_self, if_true, if_false, Nat.reduceEqDiff, reduceCtorEq, ↓reduceIte, Nat.reduceLT, Nat.reduceAdd, Nat.reduceMul, Nat.reduceSub, Nat.reduceLeDiff, Nat.reduceBEq, Int.reduceEq, Int.reduceNeg, tk, ntmps17, results17, s51, s52]
  try rfl

end Go.Fs.Sr
