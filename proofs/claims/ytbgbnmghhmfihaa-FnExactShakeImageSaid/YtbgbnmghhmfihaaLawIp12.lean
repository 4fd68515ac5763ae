/- A part of the proof: an evaluator of the program's code over plain data, proved sound, and walks of the program's functions by it. No conditions beyond those in the theorems. -/
import Derived.Test.YtbgbnmghhmfihaaLawIp8
import Derived.Test.YtbgbnmghhmfihaaLawIp9
set_option linter.unusedVariables false
set_option linter.unusedSimpArgs false
set_option maxRecDepth 20000
set_option maxHeartbeats 2000000
namespace Go.Fs.Sr
open Go.Proofs.Try

theorem f56_ok {S : Nat → Option Summ} (hS : SumOK prog S) (s44 : S 44 = some (.own mtP)) (s22 : S 22 = some (.io (markP [.i]))) (s97 : S 97 = some (.io (markP ins2))) (x : D) (ds : List D) (r : D × D) (hr : markP lfun x ds = some r) : FnOK prog 56 (.io x :: ds.map .d) { ret := r.1, io := some r.2 } := by
  obtain ⟨xs, k, rfl, rfl, h1, h2, h2', h3, h4, rfl⟩ := markP_inv hr
  clear hr
  have hsz : (lfun : List Sh).length = 6 := rfl
  rw [hsz]
  refine fnOK_awp (A := ⟨tab, S, .r 900000⟩) tab_ok hS mixed func56 rfl rfl rfl rfl (by show 2 ≤ 57; decide) rfl ?_
  refine seqK fun K hK => ?_
  simp only [bW, ↓splitB_true, ↓splitB_false, nilCmp, opConv, eq_self, if_true, if_false, Nat.reduceEqDiff, reduceCtorEq, ↓reduceIte, Nat.reduceLT, Nat.reduceAdd, Nat.reduceMul, Nat.reduceSub, Nat.reduceLeDiff, Nat.reduceBEq, Int.reduceEq, Int.reduceNeg, tk, ntmps56, results56, s22, s97]
  refine hK _ ?_; clear hK K
  refine seqK fun K hK => ?_
  refine seqK fun K2 hK2 => ?_
  simp only [bW, ↓splitB_true, ↓splitB_false, nilCmp, opConv, eq_self, if_true, if_false, Nat.reduceEqDiff, reduceCtorEq, ↓reduceIte, Nat.reduceLT, Nat.reduceAdd, Nat.reduceMul, Nat.reduceSub, Nat.reduceLeDiff, Nat.reduceBEq, Int.reduceEq, Int.reduceNeg, tk, ntmps56, results56, s22, s97]
  refine hK2 _ ?_; clear hK2 K2
  rw [awp_block]
  refine loopW [0, 1, 5] (fun x : Nat × Nat => stL 57 [(0, .r 900000), (1, .d (.i .i64 (markLL (xs.take x.1) k).2)), (5, .d (.i .i64 x.1))] [(900000, some (.row 6 (half xs k x.1) true false x.2))]) (fun x => x.1 ≤ xs.length) (fun x => xs.length - x.1) ?_ ?_
  · refine ⟨?_, (0, 0), ?_, ?_⟩
    · simp only [bK, Nat.reduceEqDiff, reduceCtorEq, ↓reduceIte, Nat.reduceBEq, Nat.reduceLeDiff, Nat.reduceAdd, if_true, if_false]
    · simp only [bK, Nat.reduceEqDiff, reduceCtorEq, ↓reduceIte, Nat.reduceBEq, Nat.reduceLeDiff, Nat.reduceAdd, if_true, if_false]
      refine stL_eq ?_ ?_
      · simp only [Option.some.injEq, Ret.mk.injEq, List.cons.injEq, Prod.mk.injEq, AV.d.injEq, D.i.injEq, D.b.injEq, D.s.injEq, true_and, and_true]
        exact ⟨by simp only [List.take_zero, markLL], rfl⟩
      · simp only [half_zero]
    · show 0 ≤ _
      omega
  rintro ⟨i, ve⟩ hi
  simp only at hi
  have hlen := half_len (k := k) hi
  have hlv := half_lv (k := k) hi
  have hkk := markLL_k (xs.take i) k
  refine seqK fun K3 hK3 => ?_
  simp only [bW, ↓splitB_true, ↓splitB_false, nilCmp, opConv, eq_self, if_true, if_false, Nat.reduceEqDiff, reduceCtorEq, ↓reduceIte, Nat.reduceLT, Nat.reduceAdd, Nat.reduceMul, Nat.reduceSub, Nat.reduceLeDiff, Nat.reduceBEq, Int.reduceEq, Int.reduceNeg, tk, ntmps56, results56, s22, s97]
  refine splitB_intro (fun hb => hK3 _ ?_) (fun hb => hK _ ?_) <;> clear hK3 K3
  · have hlt := of_decide_eq_true hb
    clear hb
    have hlt : i < xs.length := by omega
    have hrow := shLL_get h1 hlt
    have hln := lnLL_get h2' hlt
    have hget := half_get (k := k) hlt
    have hst := half_set (k := k) hlt
    have hk2 := half_k (k := k) hlt
    have hls := lvLL_step hlt
    generalize hrw : xs.getD i [] = row at hrow hln hget hst hk2 hls
    generalize hL : half xs k i = L at hlen hget hst
    generalize hkv : (markLL (xs.take i) k).2 = kk at hlv hkk hst hk2
    have hltL : i < L.length := by omega
    obtain ⟨ct1, qt1, rfl, et1, hrow⟩ := shL_cons hrow
    obtain ⟨ct2, qt2, rfl, et2, hrow⟩ := shL_cons hrow
    obtain ⟨ct3, qt3, rfl, et3, hrow⟩ := shL_cons hrow
    obtain ⟨ct4, qt4, rfl, et4, hrow⟩ := shL_cons hrow
    obtain ⟨ct5, qt5, rfl, et5, hrow⟩ := shL_cons hrow
    obtain ⟨ct6, qt6, rfl, et6, hrow⟩ := shL_cons hrow
    obtain rfl := shL_nil hrow
    obtain ⟨t1, rfl⟩ := shD_s et1
    obtain ⟨t2, rfl⟩ := shD_s et2
    obtain ⟨zt3, t3, rfl, hzt3, et3⟩ := shD_l2 et3
    obtain rfl : zt3 = 1 := hzt3
    obtain ⟨t4, rfl⟩ := shD_i et4
    obtain ⟨t5, rfl⟩ := shD_i et5
    obtain ⟨zt6, t6, rfl, hzt6, et6⟩ := shD_l2 et6
    obtain rfl : zt6 = 2 := hzt6
    simp only [lnL_cons, lnL_nil, lnD_s, lnD_i, lnD_b, lnD_l, and_true, true_and] at hln
    obtain ⟨⟨kt3, kt3'⟩, ⟨kt6, kt6'⟩⟩ := hln
    simp only [markL, markC] at hst hk2
    simp only [lvL, lv] at hls
    refine seqK fun K4 hK4 => ?_
    rw [awp_block]
    refine seqK fun K5 hK5 => ?_
    simp only [bW, ↓splitB_true, ↓splitB_false, nilCmp, opConv, eq_self, if_true, if_false, Nat.reduceEqDiff, reduceCtorEq, ↓reduceIte, Nat.reduceLT, Nat.reduceAdd, Nat.reduceMul, Nat.reduceSub, Nat.reduceLeDiff, Nat.reduceBEq, Int.reduceEq, Int.reduceNeg, tk, ntmps56, results56, setCell, List.set_cons_zero, List.set_cons_succ, len_set2, set_set2, hget, getD_set2 hltL, s22, s97, s44]
    refine OkO_mtP (by omega) ?_
    simp only [bW, ↓splitB_true, ↓splitB_false, nilCmp, opConv, eq_self, if_true, if_false, Nat.reduceEqDiff, reduceCtorEq, ↓reduceIte, Nat.reduceLT, Nat.reduceAdd, Nat.reduceMul, Nat.reduceSub, Nat.reduceLeDiff, Nat.reduceBEq, Int.reduceEq, Int.reduceNeg, tk, ntmps56, results56, setCell, List.set_cons_zero, List.set_cons_succ, len_set2, set_set2, hget, getD_set2 hltL, s22, s97, s44]
    refine ⟨⟨by omega, by omega⟩, ?_⟩
    try simp only [bW, ↓splitB_true, ↓splitB_false, nilCmp, opConv, eq_self, if_true, if_false, Nat.reduceEqDiff, reduceCtorEq, ↓reduceIte, Nat.reduceLT, Nat.reduceAdd, Nat.reduceMul, Nat.reduceSub, Nat.reduceLeDiff, Nat.reduceBEq, Int.reduceEq, Int.reduceNeg, tk, ntmps56, results56, setCell, List.set_cons_zero, List.set_cons_succ, len_set2, set_set2, hget, getD_set2 hltL, s22, s97, s44]
    refine hK5 _ ?_; clear hK5 K5
    refine seqK fun K5 hK5 => ?_
    simp only [bW, ↓splitB_true, ↓splitB_false, nilCmp, opConv, eq_self, if_true, if_false, Nat.reduceEqDiff, reduceCtorEq, ↓reduceIte, Nat.reduceLT, Nat.reduceAdd, Nat.reduceMul, Nat.reduceSub, Nat.reduceLeDiff, Nat.reduceBEq, Int.reduceEq, Int.reduceNeg, tk, ntmps56, results56, setCell, List.set_cons_zero, List.set_cons_succ, len_set2, set_set2, hget, getD_set2 hltL, s22, s97, s44]
    simp (disch := omega) only [wrap64]
    refine hK5 _ ?_; clear hK5 K5
    refine seqK fun K5 hK5 => ?_
    simp only [bW, ↓splitB_true, ↓splitB_false, nilCmp, opConv, eq_self, if_true, if_false, Nat.reduceEqDiff, reduceCtorEq, ↓reduceIte, Nat.reduceLT, Nat.reduceAdd, Nat.reduceMul, Nat.reduceSub, Nat.reduceLeDiff, Nat.reduceBEq, Int.reduceEq, Int.reduceNeg, tk, ntmps56, results56, setCell, List.set_cons_zero, List.set_cons_succ, len_set2, set_set2, hget, getD_set2 hltL, s22, s97, s44]
    refine OkO_mtP (by omega) ?_
    simp only [bW, ↓splitB_true, ↓splitB_false, nilCmp, opConv, eq_self, if_true, if_false, Nat.reduceEqDiff, reduceCtorEq, ↓reduceIte, Nat.reduceLT, Nat.reduceAdd, Nat.reduceMul, Nat.reduceSub, Nat.reduceLeDiff, Nat.reduceBEq, Int.reduceEq, Int.reduceNeg, tk, ntmps56, results56, setCell, List.set_cons_zero, List.set_cons_succ, len_set2, set_set2, hget, getD_set2 hltL, s22, s97, s44]
    refine ⟨⟨by omega, by omega⟩, ?_⟩
    try simp only [bW, ↓splitB_true, ↓splitB_false, nilCmp, opConv, eq_self, if_true, if_false, Nat.reduceEqDiff, reduceCtorEq, ↓reduceIte, Nat.reduceLT, Nat.reduceAdd, Nat.reduceMul, Nat.reduceSub, Nat.reduceLeDiff, Nat.reduceBEq, Int.reduceEq, Int.reduceNeg, tk, ntmps56, results56, setCell, List.set_cons_zero, List.set_cons_succ, len_set2, set_set2, hget, getD_set2 hltL, s22, s97, s44]
    refine hK5 _ ?_; clear hK5 K5
    refine seqK fun K5 hK5 => ?_
    simp only [bW, ↓splitB_true, ↓splitB_false, nilCmp, opConv, eq_self, if_true, if_false, Nat.reduceEqDiff, reduceCtorEq, ↓reduceIte, Nat.reduceLT, Nat.reduceAdd, Nat.reduceMul, Nat.reduceSub, Nat.reduceLeDiff, Nat.reduceBEq, Int.reduceEq, Int.reduceNeg, tk, ntmps56, results56, setCell, List.set_cons_zero, List.set_cons_succ, len_set2, set_set2, hget, getD_set2 hltL, s22, s97, s44]
    simp (disch := omega) only [wrap64]
    refine hK5 _ ?_; clear hK5 K5
    refine seqK fun K5 hK5 => ?_
    simp only [bW, ↓splitB_true, ↓splitB_false, nilCmp, opConv, eq_self, if_true, if_false, Nat.reduceEqDiff, reduceCtorEq, ↓reduceIte, Nat.reduceLT, Nat.reduceAdd, Nat.reduceMul, Nat.reduceSub, Nat.reduceLeDiff, Nat.reduceBEq, Int.reduceEq, Int.reduceNeg, tk, ntmps56, results56, setCell, List.set_cons_zero, List.set_cons_succ, len_set2, set_set2, hget, getD_set2 hltL, s22, s97, s44]
    refine ⟨⟨by omega, by omega⟩, ?_⟩
    try simp only [bW, ↓splitB_true, ↓splitB_false, nilCmp, opConv, eq_self, if_true, if_false, Nat.reduceEqDiff, reduceCtorEq, ↓reduceIte, Nat.reduceLT, Nat.reduceAdd, Nat.reduceMul, Nat.reduceSub, Nat.reduceLeDiff, Nat.reduceBEq, Int.reduceEq, Int.reduceNeg, tk, ntmps56, results56, setCell, List.set_cons_zero, List.set_cons_succ, len_set2, set_set2, hget, getD_set2 hltL, s22, s97, s44]
    refine ⟨by omega, ?_⟩
    try simp only [bW, ↓splitB_true, ↓splitB_false, nilCmp, opConv, eq_self, if_true, if_false, Nat.reduceEqDiff, reduceCtorEq, ↓reduceIte, Nat.reduceLT, Nat.reduceAdd, Nat.reduceMul, Nat.reduceSub, Nat.reduceLeDiff, Nat.reduceBEq, Int.reduceEq, Int.reduceNeg, tk, ntmps56, results56, setCell, List.set_cons_zero, List.set_cons_succ, len_set2, set_set2, hget, getD_set2 hltL, s22, s97, s44]
    refine OkO_markP rfl et3 kt3 kt3' (by omega) (by omega) ?_
    simp only [bW, ↓splitB_true, ↓splitB_false, nilCmp, opConv, eq_self, if_true, if_false, Nat.reduceEqDiff, reduceCtorEq, ↓reduceIte, Nat.reduceLT, Nat.reduceAdd, Nat.reduceMul, Nat.reduceSub, Nat.reduceLeDiff, Nat.reduceBEq, Int.reduceEq, Int.reduceNeg, tk, ntmps56, results56, setCell, List.set_cons_zero, List.set_cons_succ, len_set2, set_set2, hget, getD_set2 hltL, s22, s97, s44]
    have hmt3 := markLL_k t3 (kk + 1 + 1)
    refine hK5 _ ?_; clear hK5 K5
    refine seqK fun K5 hK5 => ?_
    simp only [bW, ↓splitB_true, ↓splitB_false, nilCmp, opConv, eq_self, if_true, if_false, Nat.reduceEqDiff, reduceCtorEq, ↓reduceIte, Nat.reduceLT, Nat.reduceAdd, Nat.reduceMul, Nat.reduceSub, Nat.reduceLeDiff, Nat.reduceBEq, Int.reduceEq, Int.reduceNeg, tk, ntmps56, results56, setCell, List.set_cons_zero, List.set_cons_succ, len_set2, set_set2, hget, getD_set2 hltL, s22, s97, s44]
    refine ⟨⟨by omega, by omega⟩, ?_⟩
    try simp only [bW, ↓splitB_true, ↓splitB_false, nilCmp, opConv, eq_self, if_true, if_false, Nat.reduceEqDiff, reduceCtorEq, ↓reduceIte, Nat.reduceLT, Nat.reduceAdd, Nat.reduceMul, Nat.reduceSub, Nat.reduceLeDiff, Nat.reduceBEq, Int.reduceEq, Int.reduceNeg, tk, ntmps56, results56, setCell, List.set_cons_zero, List.set_cons_succ, len_set2, set_set2, hget, getD_set2 hltL, s22, s97, s44]
    refine hK5 _ ?_; clear hK5 K5
    refine seqK fun K5 hK5 => ?_
    simp only [bW, ↓splitB_true, ↓splitB_false, nilCmp, opConv, eq_self, if_true, if_false, Nat.reduceEqDiff, reduceCtorEq, ↓reduceIte, Nat.reduceLT, Nat.reduceAdd, Nat.reduceMul, Nat.reduceSub, Nat.reduceLeDiff, Nat.reduceBEq, Int.reduceEq, Int.reduceNeg, tk, ntmps56, results56, setCell, List.set_cons_zero, List.set_cons_succ, len_set2, set_set2, hget, getD_set2 hltL, s22, s97, s44]
    simp (disch := omega) only [wrap64]
    refine hK5 _ ?_; clear hK5 K5
    refine seqK fun K5 hK5 => ?_
    simp only [bW, ↓splitB_true, ↓splitB_false, nilCmp, opConv, eq_self, if_true, if_false, Nat.reduceEqDiff, reduceCtorEq, ↓reduceIte, Nat.reduceLT, Nat.reduceAdd, Nat.reduceMul, Nat.reduceSub, Nat.reduceLeDiff, Nat.reduceBEq, Int.reduceEq, Int.reduceNeg, tk, ntmps56, results56, setCell, List.set_cons_zero, List.set_cons_succ, len_set2, set_set2, hget, getD_set2 hltL, s22, s97, s44]
    refine ⟨⟨by omega, by omega⟩, ?_⟩
    try simp only [bW, ↓splitB_true, ↓splitB_false, nilCmp, opConv, eq_self, if_true, if_false, Nat.reduceEqDiff, reduceCtorEq, ↓reduceIte, Nat.reduceLT, Nat.reduceAdd, Nat.reduceMul, Nat.reduceSub, Nat.reduceLeDiff, Nat.reduceBEq, Int.reduceEq, Int.reduceNeg, tk, ntmps56, results56, setCell, List.set_cons_zero, List.set_cons_succ, len_set2, set_set2, hget, getD_set2 hltL, s22, s97, s44]
    refine hK5 _ ?_; clear hK5 K5
    refine seqK fun K5 hK5 => ?_
    simp only [bW, ↓splitB_true, ↓splitB_false, nilCmp, opConv, eq_self, if_true, if_false, Nat.reduceEqDiff, reduceCtorEq, ↓reduceIte, Nat.reduceLT, Nat.reduceAdd, Nat.reduceMul, Nat.reduceSub, Nat.reduceLeDiff, Nat.reduceBEq, Int.reduceEq, Int.reduceNeg, tk, ntmps56, results56, setCell, List.set_cons_zero, List.set_cons_succ, len_set2, set_set2, hget, getD_set2 hltL, s22, s97, s44]
    simp (disch := omega) only [wrap64]
    refine hK5 _ ?_; clear hK5 K5
    simp only [bW, ↓splitB_true, ↓splitB_false, nilCmp, opConv, eq_self, if_true, if_false, Nat.reduceEqDiff, reduceCtorEq, ↓reduceIte, Nat.reduceLT, Nat.reduceAdd, Nat.reduceMul, Nat.reduceSub, Nat.reduceLeDiff, Nat.reduceBEq, Int.reduceEq, Int.reduceNeg, tk, ntmps56, results56, setCell, List.set_cons_zero, List.set_cons_succ, len_set2, set_set2, hget, getD_set2 hltL, s22, s97, s44]
    refine ⟨⟨by omega, by omega⟩, ?_⟩
    try simp only [bW, ↓splitB_true, ↓splitB_false, nilCmp, opConv, eq_self, if_true, if_false, Nat.reduceEqDiff, reduceCtorEq, ↓reduceIte, Nat.reduceLT, Nat.reduceAdd, Nat.reduceMul, Nat.reduceSub, Nat.reduceLeDiff, Nat.reduceBEq, Int.reduceEq, Int.reduceNeg, tk, ntmps56, results56, setCell, List.set_cons_zero, List.set_cons_succ, len_set2, set_set2, hget, getD_set2 hltL, s22, s97, s44]
    refine ⟨by omega, ?_⟩
    try simp only [bW, ↓splitB_true, ↓splitB_false, nilCmp, opConv, eq_self, if_true, if_false, Nat.reduceEqDiff, reduceCtorEq, ↓reduceIte, Nat.reduceLT, Nat.reduceAdd, Nat.reduceMul, Nat.reduceSub, Nat.reduceLeDiff, Nat.reduceBEq, Int.reduceEq, Int.reduceNeg, tk, ntmps56, results56, setCell, List.set_cons_zero, List.set_cons_succ, len_set2, set_set2, hget, getD_set2 hltL, s22, s97, s44]
    refine OkO_markP rfl et6 kt6 kt6' (by omega) (by omega) ?_
    simp only [bW, ↓splitB_true, ↓splitB_false, nilCmp, opConv, eq_self, if_true, if_false, Nat.reduceEqDiff, reduceCtorEq, ↓reduceIte, Nat.reduceLT, Nat.reduceAdd, Nat.reduceMul, Nat.reduceSub, Nat.reduceLeDiff, Nat.reduceBEq, Int.reduceEq, Int.reduceNeg, tk, ntmps56, results56, setCell, List.set_cons_zero, List.set_cons_succ, len_set2, set_set2, hget, getD_set2 hltL, s22, s97, s44]
    have hmt6 := markLL_k t6 ((markLL t3 (kk + 1 + 1)).2 + 1 + 1)
    refine hK4 _ ?_; clear hK4 K4
    simp only [bW, ↓splitB_true, ↓splitB_false, nilCmp, opConv, eq_self, if_true, if_false, Nat.reduceEqDiff, reduceCtorEq, ↓reduceIte, Nat.reduceLT, Nat.reduceAdd, Nat.reduceMul, Nat.reduceSub, Nat.reduceLeDiff, Nat.reduceBEq, Int.reduceEq, Int.reduceNeg, tk, ntmps56, results56, s22, s97]
    try simp (disch := omega) only [wrap64]
    refine ⟨?_, (i + 1, ve + 1 + 1 + 1 + 1 + 1 + 1), ?_, ?_, ?_⟩
    · simp only [bK, Nat.reduceEqDiff, reduceCtorEq, ↓reduceIte, Nat.reduceBEq, Nat.reduceLeDiff, Nat.reduceAdd, if_true, if_false]
    · simp only [bK, Nat.reduceEqDiff, reduceCtorEq, ↓reduceIte, Nat.reduceBEq, Nat.reduceLeDiff, Nat.reduceAdd, if_true, if_false]
      refine stL_eq ?_ ?_
      · simp only [Option.some.injEq, Ret.mk.injEq, List.cons.injEq, Prod.mk.injEq, AV.d.injEq, D.i.injEq, D.b.injEq, D.s.injEq, true_and, and_true]
        simp only [hk2]
        exact ⟨trivial, by omega⟩
      · simp only [← hst]
    · show i + 1 ≤ xs.length
      omega
    · show xs.length - (i + 1) < xs.length - i
      omega
  · have hge := of_decide_eq_false hb
    have e : i = xs.length := by omega
    subst e
    simp only [half_all, List.take_length]
    simp only [bW, ↓splitB_true, ↓splitB_false, nilCmp, opConv, eq_self, if_true, if_false, Nat.reduceEqDiff, reduceCtorEq, ↓reduceIte, Nat.reduceLT, Nat.reduceAdd, Nat.reduceMul, Nat.reduceSub, Nat.reduceLeDiff, Nat.reduceBEq, Int.reduceEq, Int.reduceNeg, tk, ntmps56, results56, s22, s97]
    try simp only [Option.some.injEq, Ret.mk.injEq, List.cons.injEq, Prod.mk.injEq, AV.d.injEq, D.i.injEq, D.b.injEq, D.s.injEq, true_and, and_true]

theorem f21_ok {S : Nat → Option Summ} (hS : SumOK prog S) (s22 : S 22 = some (.io (markP [.i]))) (s56 : S 56 = some (.io (markP lfun))) (x : D) (ds : List D) (r : D × D) (hr : markG limg x ds = some r) : FnOK prog 21 (.io x :: ds.map .d) { ret := r.1, io := some r.2 } := by
  obtain ⟨xs, k, rfl, rfl, h1, h2, h3, h4, rfl⟩ := markG_inv hr
  clear hr
  obtain ⟨ct1, qt1, rfl, et1, h1⟩ := shL_cons h1
  obtain ⟨ct2, qt2, rfl, et2, h1⟩ := shL_cons h1
  obtain rfl := shL_nil h1
  obtain ⟨zt1, t1, rfl, hzt1, et1⟩ := shD_l2 et1
  obtain rfl : zt1 = 6 := hzt1
  obtain ⟨zt2, t2, rfl, hzt2, et2⟩ := shD_l2 et2
  obtain rfl : zt2 = 1 := hzt2
  simp only [okL_cons, okL_nil, okD_s, okD_l, okD_i, okD_b, and_true, true_and] at h2
  obtain ⟨⟨kt1, kt1'⟩, ⟨kt2, kt2'⟩⟩ := h2
  simp only [lvL, lv] at h4
  simp only [markS]
  refine fnOK_awp (A := ⟨tab, S, .g [.r 900000, .r 900001]⟩) tab_ok hS mixed func21 rfl rfl rfl rfl (by show 2 ≤ 14; decide) rfl ?_
  refine seqK fun K hK => ?_
  simp only [bW, ↓splitB_true, ↓splitB_false, nilCmp, opConv, eq_self, if_true, if_false, Nat.reduceEqDiff, reduceCtorEq, ↓reduceIte, Nat.reduceLT, Nat.reduceAdd, Nat.reduceMul, Nat.reduceSub, Nat.reduceLeDiff, Nat.reduceBEq, Int.reduceEq, Int.reduceNeg, tk, ntmps21, results21, s56, s22]
  refine hK _ ?_; clear hK K
  refine seqK fun K hK => ?_
  simp only [bW, ↓splitB_true, ↓splitB_false, nilCmp, opConv, eq_self, if_true, if_false, Nat.reduceEqDiff, reduceCtorEq, ↓reduceIte, Nat.reduceLT, Nat.reduceAdd, Nat.reduceMul, Nat.reduceSub, Nat.reduceLeDiff, Nat.reduceBEq, Int.reduceEq, Int.reduceNeg, tk, ntmps21, results21, s56, s22]
  refine OkO_markP rfl et1 kt1 (okLL_ln _ kt1') (by omega) (by omega) ?_
  simp only [bW, ↓splitB_true, ↓splitB_false, nilCmp, opConv, eq_self, if_true, if_false, Nat.reduceEqDiff, reduceCtorEq, ↓reduceIte, Nat.reduceLT, Nat.reduceAdd, Nat.reduceMul, Nat.reduceSub, Nat.reduceLeDiff, Nat.reduceBEq, Int.reduceEq, Int.reduceNeg, tk, ntmps21, results21, s56, s22]
  have hmt1 := markLL_k t1 (k)
  refine hK _ ?_; clear hK K
  refine seqK fun K hK => ?_
  simp only [bW, ↓splitB_true, ↓splitB_false, nilCmp, opConv, eq_self, if_true, if_false, Nat.reduceEqDiff, reduceCtorEq, ↓reduceIte, Nat.reduceLT, Nat.reduceAdd, Nat.reduceMul, Nat.reduceSub, Nat.reduceLeDiff, Nat.reduceBEq, Int.reduceEq, Int.reduceNeg, tk, ntmps21, results21, s56, s22]
  refine OkO_markP rfl et2 kt2 (okLL_ln _ kt2') (by omega) (by omega) ?_
  simp only [bW, ↓splitB_true, ↓splitB_false, nilCmp, opConv, eq_self, if_true, if_false, Nat.reduceEqDiff, reduceCtorEq, ↓reduceIte, Nat.reduceLT, Nat.reduceAdd, Nat.reduceMul, Nat.reduceSub, Nat.reduceLeDiff, Nat.reduceBEq, Int.reduceEq, Int.reduceNeg, tk, ntmps21, results21, s56, s22]
  have hmt2 := markLL_k t2 ((markLL t1 (k)).2)
  refine hK _ ?_; clear hK K
  simp only [bW, ↓splitB_true, ↓splitB_false, nilCmp, opConv, eq_self, if_true, if_false, Nat.reduceEqDiff, reduceCtorEq, ↓reduceIte, Nat.reduceLT, Nat.reduceAdd, Nat.reduceMul, Nat.reduceSub, Nat.reduceLeDiff, Nat.reduceBEq, Int.reduceEq, Int.reduceNeg, tk, ntmps21, results21, s56, s22]
  try rfl

end Go.Fs.Sr

set_option linter.unusedVariables false
namespace Go.Fs.Sr

/-! ### what the checks of names, types, instructions say -/
def inR (n lo hi : Int) : Prop := lo ≤ n ∧ n ≤ hi
instance (n lo hi : Int) : Decidable (inR n lo hi) := inferInstanceAs (Decidable (_ ∧ _))
def F99 : List D → Option D
  | [.i .i64 n, .i .i64 lo, .i .i64 hi] => some (.b (decide (lo ≤ n ∧ n ≤ hi)))
  | _ => none
def F59 : List D → Option D
  | [.i .i64 n, .i .i64 many] => if 0 ≤ many ∧ many ≤ 4611686018427387904 then some (.b (decide (0 ≤ n ∧ n < many))) else none
  | _ => none
def F117 : List D → Option D
  | [.i .i64 t] => some (.b (decide (1 ≤ t ∧ t ≤ 3)))
  | _ => none
def F132 : List D → Option D
  | [.i .i64 n] => some (.b (decide (-99999999999999999 ≤ n ∧ n ≤ 99999999999999999)))
  | _ => none
/-- An instruction is right. -/
def insP (op a : Int) : Prop := 1 ≤ op ∧ op ≤ 10 ∧ ((op = 1 ∧ -99999999999999999 ≤ a ∧ a ≤ 99999999999999999) ∨ (op = 2 ∧ 0 ≤ a ∧ a ≤ 1) ∨ (op = 9 ∧ a = 0) ∨ (op ≠ 1 ∧ op ≠ 2 ∧ op ≠ 9 ∧ 0 ≤ a ∧ a ≤ 1000))
instance (op a : Int) : Decidable (insP op a) := inferInstanceAs (Decidable (_ ∧ _))
def F92 : List D → Option D
  | [.g [.i .i64 op, .i .i64 a]] => some (.b (decide (insP op a)))
  | _ => none
def F91 : List D → Option D
  | [.g [.i .i64 op, .i .i64 a]] => some (.b (decide (¬ insP op a)))
  | _ => none
/-- A type's word. -/
def tyText (t : Int) : ByteArray := if t = 1 then ⟨#[105, 110, 116]⟩ else if t = 2 then ⟨#[98, 111, 111, 108]⟩ else if t = 3 then ⟨#[114, 111, 119]⟩ else .empty
theorem tyText_nil (t : Int) : tyText t = .empty ↔ ¬ (1 ≤ t ∧ t ≤ 3) := by
  unfold tyText
  by_cases h1 : t = 1
  · subst h1; simp; decide
  · by_cases h2 : t = 2
    · subst h2; simp; decide
    · by_cases h3 : t = 3
      · subst h3; simp; decide
      · simp [h1, h2, h3]; omega
def F126 : List D → Option D
  | [.i .i64 t] => some (.s (tyText t))
  | _ => none
def F152 : List D → Option D
  | [.i .i64 t] => some (.b (decide (¬ (1 ≤ t ∧ t ≤ 3))))
  | _ => none
def F94 : List D → Option D
  | [.i .i64 n, .p [.l 6 xs, .l 1 ys]] => if xs.length ≤ 140737488355328 then some (.b (decide (¬ (0 ≤ n ∧ n < (xs.length : Int))))) else none
  | _ => none

/-- The language's own words. -/
def own19 : List (List D) := [[.s ⟨#[117, 115, 101]⟩], [.s ⟨#[102, 117, 110]⟩], [.s ⟨#[112, 117, 98]⟩], [.s ⟨#[109, 97, 105, 110]⟩], [.s ⟨#[105, 110, 116]⟩], [.s ⟨#[98, 111, 111, 108]⟩], [.s ⟨#[114, 111, 119]⟩], [.s ⟨#[105, 102]⟩], [.s ⟨#[108, 101, 116]⟩], [.s ⟨#[116, 114, 117, 101]⟩], [.s ⟨#[102, 97, 108, 115, 101]⟩], [.s ⟨#[97, 110, 100]⟩], [.s ⟨#[111, 114]⟩], [.s ⟨#[110, 111, 116]⟩], [.s ⟨#[97, 116]⟩], [.s ⟨#[108, 101, 110]⟩], [.s ⟨#[112, 117, 116]⟩], [.s ⟨#[106, 111, 105, 110]⟩], [.s ⟨#[112, 114, 105, 110, 116]⟩]]
def txt (s : ByteArray) (x : List D) : Bool := decide (nameOf x = s)
def idxP (p : List D → Bool) : List (List D) → Int → Int
  | [], _ => -1
  | x :: xs, k => if p x = true then k else idxP p xs (k + 1)
theorem idxP_any (p : List D → Bool) : ∀ (xs : List (List D)) (k : Int), 0 ≤ k → (0 ≤ idxP p xs k ↔ xs.any p = true)
  | [], k, _ => by simp [idxP]
  | x :: xs, k, h => by
    simp only [idxP, List.any_cons, Bool.or_eq_true]
    split
    · rename_i e; simp [e, h]
    · rename_i e
      rw [idxP_any p xs (k + 1) (by omega)]
      simp [e]
theorem idxP_step (p : List D → Bool) {xs : List (List D)} {i : Nat} (h : i < xs.length) (k : Int) : idxP p (xs.drop i) k = if p (xs.getD i []) = true then k else idxP p (xs.drop (i + 1)) (k + 1) := by
  rw [drop_get h, idxP]
theorem any_step (p : List D → Bool) {xs : List (List D)} {i : Nat} (h : i < xs.length) : (xs.drop i).any p = (p (xs.getD i []) || (xs.drop (i + 1)).any p) := by
  rw [drop_get h, List.any_cons]
theorem all_step (p : List D → Bool) {xs : List (List D)} {i : Nat} (h : i < xs.length) : (xs.drop i).all p = (p (xs.getD i []) && (xs.drop (i + 1)).all p) := by
  rw [drop_get h, List.all_cons]
theorem own19_sh : shLL [.s] own19 = true := by decide
theorem own19_len : own19.length = 19 := rfl
def ownB (s : ByteArray) : Bool := own19.any (txt s)
def F124 : List D → Option D
  | [.s w] => some (.b (ownB w))
  | _ => none
def F166 : List D → Option D
  | [.l 1 xs, .s w] => if shLL [.s] xs = true ∧ xs.length ≤ 140737488355328 then some (.i .i64 (idxP (txt w) xs 0)) else none
  | _ => none
def F148 : List D → Option D
  | [.l 1 xs, .s w] => if shLL [.s] xs = true ∧ xs.length ≤ 140737488355328 then some (.b (xs.any (txt w))) else none
  | _ => none
/-- A small letter. -/
def low (c : UInt8) : Bool := decide (97 ≤ c.toNat ∧ c.toNat ≤ 122)
def lexB (w : ByteArray) : Bool := decide (1 ≤ w.size ∧ w.size ≤ 8) && (!ownB w && w.data.toList.all low)
def F85 : List D → Option D
  | [.s w] => if w.size ≤ 140737488355328 then some (.b (lexB w)) else none
  | _ => none
def mainW : ByteArray := ⟨#[109, 97, 105, 110]⟩
def nameB (w : ByteArray) : Bool := lexB w || decide (w = mainW)
def F125 : List D → Option D
  | [.s w] => if w.size ≤ 140737488355328 then some (.b (nameB w)) else none
  | _ => none
theorem byte_get {w : ByteArray} {i : Nat} (h : i < w.size) : w.data.toList.drop i = (w.data.getD i 0) :: w.data.toList.drop (i + 1) := by
  have h' : i < w.data.toList.length := by simpa using h
  have h2 : i < w.data.size := h
  rw [List.drop_eq_getElem_cons h']
  simp [Array.getD]
  intro hle
  omega
theorem low_step {w : ByteArray} {i : Nat} (h : i < w.size) : (w.data.toList.drop i).all low = (low (w.data.getD i 0) && (w.data.toList.drop (i + 1)).all low) := by
  rw [byte_get h, List.all_cons]
theorem byteAt_nat (w : ByteArray) (i : Nat) : byteAt w (i : Int) = ((w.data.getD i 0).toNat : Int) := by simp [byteAt]
theorem range_19 : List.range 19 = [0, 1, 2, 3, 4, 5, 6, 7, 8, 9, 10, 11, 12, 13, 14, 15, 16, 17, 18] := rfl
theorem range_3 : List.range 3 = [0, 1, 2] := rfl
theorem chunk_3 (sz : Nat) (ds : List D) : chunk sz 3 ds = [ds.take sz, (ds.drop sz).take sz, ((ds.drop sz).drop sz).take sz] := rfl
theorem wrap0 : IntKind.i64.wrap 0 = 0 := by decide
theorem wrap1 : IntKind.i64.wrap 1 = 1 := by decide
theorem wrap2 : IntKind.i64.wrap 2 = 2 := by decide

/-- An instruction of a row. -/
def insB : List D → Bool
  | [.i _ op, .i _ a] => decide (insP op a)
  | _ => false
def F131 : List D → Option D
  | [.l 2 xs, .f 91 []] => if shLL ins2 xs = true ∧ xs.length ≤ 140737488355328 then some (.i .i64 (idxP (fun x => !insB x) xs 0)) else none
  | _ => none
def F90 : List D → Option D
  | [.l 2 xs, .f 91 []] => if shLL ins2 xs = true ∧ xs.length ≤ 140737488355328 then some (.b (xs.any (fun x => !insB x))) else none
  | _ => none
/-- A number of a row. -/
def numOf : List D → Int
  | .i _ n :: _ => n
  | _ => 0
def typB (x : List D) : Bool := decide (1 ≤ numOf x ∧ numOf x ≤ 3)
def plcB (many : Nat) (x : List D) : Bool := decide (0 ≤ numOf x ∧ numOf x < (many : Int))
def F133 : List D → Option D
  | [.l 1 xs, .f 152 []] => if shLL [.i] xs = true ∧ xs.length ≤ 140737488355328 then some (.i .i64 (idxP (fun x => !typB x) xs 0)) else none
  | [.l 1 xs, .f 94 [.p [.l 6 fs, .l 1 ys]]] => if shLL [.i] xs = true ∧ xs.length ≤ 140737488355328 ∧ fs.length ≤ 140737488355328 then some (.i .i64 (idxP (fun x => !plcB fs.length x) xs 0)) else none
  | _ => none
def F93 : List D → Option D
  | [.l 1 xs, .f 152 []] => if shLL [.i] xs = true ∧ xs.length ≤ 140737488355328 then some (.b (xs.any (fun x => !typB x))) else none
  | [.l 1 xs, .f 94 [.p [.l 6 fs, .l 1 ys]]] => if shLL [.i] xs = true ∧ xs.length ≤ 140737488355328 ∧ fs.length ≤ 140737488355328 then some (.b (xs.any (fun x => !plcB fs.length x))) else none
  | _ => none
theorem any_not (p : List D → Bool) (xs : List (List D)) : xs.any (fun x => !p x) = !xs.all p := by
  induction xs with
  | nil => rfl
  | cons x xs ih => simp [ih]
/-- The types of parameters. -/
def argsB (xs : List (List D)) : Bool := decide (xs.length ≤ 4) && xs.all typB
def F130 : List D → Option D
  | [.l 1 xs] => if shLL [.i] xs = true ∧ xs.length ≤ 140737488355328 then some (.b (argsB xs)) else none
  | _ => none
def headB (w : ByteArray) (xs : List (List D)) (ty sl : Int) : Bool := nameB w && (argsB xs && (decide (1 ≤ ty ∧ ty ≤ 3) && decide (0 ≤ sl ∧ sl ≤ 1000)))
def F89 : List D → Option D
  | [.s w, .l 1 xs, .i .i64 ty, .i .i64 sl] => if w.size ≤ 140737488355328 ∧ shLL [.i] xs = true ∧ xs.length ≤ 140737488355328 then some (.b (headB w xs ty sl)) else none
  | _ => none
def codeB (xs : List (List D)) : Bool := decide (xs.length ≤ 460) && xs.all insB
/-- A function of an object is right. -/
def F86 : List D → Option D
  | [.g [.s w, .b _, .l 1 xs, .i .i64 ty, .i .i64 sl, .l 2 cs]] => if w.size ≤ 140737488355328 ∧ shLL [.i] xs = true ∧ xs.length ≤ 140737488355328 ∧ shLL ins2 cs = true ∧ cs.length ≤ 140737488355328 then some (.b (headB w xs ty sl && codeB cs)) else none
  | _ => none
/-- A function of an image is right. -/
def funB : List D → Bool
  | [.s m, .s w, .l _ xs, .i _ ty, .i _ sl, .l _ cs] => lexB m && (headB w xs ty sl && codeB cs)
  | _ => false
def codeN : List D → Nat
  | [_, _, _, _, _, .l _ cs] => cs.length
  | _ => 0
def manyN : List (List D) → Nat
  | [] => 0
  | x :: xs => codeN x + manyN xs
def imgB (fs ns : List (List D)) : Bool := decide (fs.length ≤ 72 ∧ ns.length ≤ 8) && (fs.all funB && (decide (manyN fs ≤ 3680) && ns.all (plcB fs.length)))
def F53 : List D → Option D
  | [.g [.l 6 fs, .l 1 ns]] => if shLL lfun fs = true ∧ okLL fs = true ∧ fs.length ≤ 1048576 ∧ wtLL fs ≤ 1048576 ∧ shLL [.i] ns = true ∧ okLL ns = true ∧ ns.length ≤ 1048576 then some (.b (imgB fs ns)) else none
  | _ => none
theorem manyN_step {xs : List (List D)} {i : Nat} (h : i < xs.length) : manyN (xs.drop i) = codeN (xs.getD i []) + manyN (xs.drop (i + 1)) := by
  rw [drop_get h, manyN]
end Go.Fs.Sr

set_option linter.unusedVariables false
set_option linter.unusedSimpArgs false
set_option maxRecDepth 20000
set_option maxHeartbeats 2000000
namespace Go.Fs.Sr
open Go.Proofs.Try

theorem f99_ok {S : Nat → Option Summ} (hS : SumOK prog S) (ds : List D) (r : D) (hr : F99 ds = some r) : FnOK prog 99 (ds.map .d) { ret := r } := by
  unfold F99 at hr
  split at hr
  case h_2 => cases hr
  simp only [Option.some.injEq] at hr
  subst hr
  refine fnOK_awp (A := ⟨tab, S, .x⟩) tab_ok hS mixed func99 rfl rfl rfl rfl (by show 3 ≤ 15; decide) rfl ?_
  simp only [bW, ↓splitB_true, ↓splitB_false, nilCmp, opConv, eq_self, if_true, if_false, Nat.reduceEqDiff, reduceCtorEq, ↓reduceIte, Nat.reduceLT, Nat.reduceAdd, Nat.reduceMul, Nat.reduceSub, Nat.reduceLeDiff, Nat.reduceBEq, Int.reduceEq, Int.reduceNeg, tk, ntmps99, results99]
  try simp (disch := omega) only [wrap64]
  repeat' refine splitB_intro (fun hb => ?_) (fun hb => ?_)
  all_goals try simp only [Option.some.injEq, Ret.mk.injEq, D.b.injEq, and_true]
  all_goals rw [Bool.eq_iff_iff]
  all_goals simp only [decide_eq_true_eq, decide_eq_false_iff_not, Bool.not_eq_true', Bool.not_eq_false', Bool.false_eq_true, Bool.true_eq_false, reduceCtorEq, false_iff, true_iff, iff_false, iff_true] at *
  all_goals ( omega)

theorem f59_ok {S : Nat → Option Summ} (hS : SumOK prog S) (s99 : S 99 = some (.own F99)) (ds : List D) (r : D) (hr : F59 ds = some r) : FnOK prog 59 (ds.map .d) { ret := r } := by
  unfold F59 at hr
  split at hr
  case h_2 => cases hr
  rename_i n many
  split at hr
  case isFalse => cases hr
  rename_i hm
  simp only [Option.some.injEq] at hr
  subst hr
  refine fnOK_awp (A := ⟨tab, S, .x⟩) tab_ok hS mixed func59 rfl rfl rfl rfl (by show 2 ≤ 9; decide) rfl ?_
  simp only [bW, ↓splitB_true, ↓splitB_false, nilCmp, opConv, eq_self, if_true, if_false, Nat.reduceEqDiff, reduceCtorEq, ↓reduceIte, Nat.reduceLT, Nat.reduceAdd, Nat.reduceMul, Nat.reduceSub, Nat.reduceLeDiff, Nat.reduceBEq, Int.reduceEq, Int.reduceNeg, tk, ntmps59, results59, s99, F99]
  try simp (disch := omega) only [wrap64]
  repeat' refine splitB_intro (fun hb => ?_) (fun hb => ?_)
  all_goals try simp only [Option.some.injEq, Ret.mk.injEq, D.b.injEq, and_true]
  all_goals rw [Bool.eq_iff_iff]
  all_goals simp only [decide_eq_true_eq, decide_eq_false_iff_not, Bool.not_eq_true', Bool.not_eq_false', Bool.false_eq_true, Bool.true_eq_false, reduceCtorEq, false_iff, true_iff, iff_false, iff_true] at *
  all_goals ( omega)

theorem f117_ok {S : Nat → Option Summ} (hS : SumOK prog S) (s99 : S 99 = some (.own F99)) (ds : List D) (r : D) (hr : F117 ds = some r) : FnOK prog 117 (ds.map .d) { ret := r } := by
  unfold F117 at hr
  split at hr
  case h_2 => cases hr
  simp only [Option.some.injEq] at hr
  subst hr
  refine fnOK_awp (A := ⟨tab, S, .x⟩) tab_ok hS mixed func117 rfl rfl rfl rfl (by show 1 ≤ 5; decide) rfl ?_
  simp only [bW, ↓splitB_true, ↓splitB_false, nilCmp, opConv, eq_self, if_true, if_false, Nat.reduceEqDiff, reduceCtorEq, ↓reduceIte, Nat.reduceLT, Nat.reduceAdd, Nat.reduceMul, Nat.reduceSub, Nat.reduceLeDiff, Nat.reduceBEq, Int.reduceEq, Int.reduceNeg, tk, ntmps117, results117, s99, F99]

theorem f132_ok {S : Nat → Option Summ} (hS : SumOK prog S) (s99 : S 99 = some (.own F99)) (ds : List D) (r : D) (hr : F132 ds = some r) : FnOK prog 132 (ds.map .d) { ret := r } := by
  unfold F132 at hr
  split at hr
  case h_2 => cases hr
  simp only [Option.some.injEq] at hr
  subst hr
  refine fnOK_awp (A := ⟨tab, S, .x⟩) tab_ok hS mixed func132 rfl rfl rfl rfl (by show 1 ≤ 5; decide) rfl ?_
  simp only [bW, ↓splitB_true, ↓splitB_false, nilCmp, opConv, eq_self, if_true, if_false, Nat.reduceEqDiff, reduceCtorEq, ↓reduceIte, Nat.reduceLT, Nat.reduceAdd, Nat.reduceMul, Nat.reduceSub, Nat.reduceLeDiff, Nat.reduceBEq, Int.reduceEq, Int.reduceNeg, tk, ntmps132, results132, s99, F99]

theorem f92_ok {S : Nat → Option Summ} (hS : SumOK prog S) (s99 : S 99 = some (.own F99)) (s132 : S 132 = some (.own F132)) (ds : List D) (r : D) (hr : F92 ds = some r) : FnOK prog 92 (ds.map .d) { ret := r } := by
  unfold F92 at hr
  split at hr
  case h_2 => cases hr
  simp only [Option.some.injEq] at hr
  subst hr
  refine fnOK_awp (A := ⟨tab, S, .x⟩) tab_ok hS mixed func92 rfl rfl rfl rfl (by show 1 ≤ 28; decide) rfl ?_
  simp only [bW, ↓splitB_true, ↓splitB_false, nilCmp, opConv, eq_self, if_true, if_false, Nat.reduceEqDiff, reduceCtorEq, ↓reduceIte, Nat.reduceLT, Nat.reduceAdd, Nat.reduceMul, Nat.reduceSub, Nat.reduceLeDiff, Nat.reduceBEq, Int.reduceEq, Int.reduceNeg, tk, ntmps92, results92, s99, s132, F99, F132]
  try simp (disch := omega) only [wrap64]
  repeat' refine splitB_intro (fun hb => ?_) (fun hb => ?_)
  all_goals try simp only [Option.some.injEq, Ret.mk.injEq, D.b.injEq, and_true]
  all_goals rw [Bool.eq_iff_iff]
  all_goals simp only [decide_eq_true_eq, decide_eq_false_iff_not, Bool.not_eq_true', Bool.not_eq_false', Bool.false_eq_true, Bool.true_eq_false, reduceCtorEq, false_iff, true_iff, iff_false, iff_true] at *
  all_goals ( unfold insP; omega)

theorem f91_ok {S : Nat → Option Summ} (hS : SumOK prog S) (s92 : S 92 = some (.own F92)) (ds : List D) (r : D) (hr : F91 ds = some r) : FnOK prog 91 (ds.map .d) { ret := r } := by
  unfold F91 at hr
  split at hr
  case h_2 => cases hr
  simp only [Option.some.injEq] at hr
  subst hr
  refine fnOK_awp (A := ⟨tab, S, .x⟩) tab_ok hS mixed func91 rfl rfl rfl rfl (by show 1 ≤ 6; decide) rfl ?_
  simp only [bW, ↓splitB_true, ↓splitB_false, nilCmp, opConv, eq_self, if_true, if_false, Nat.reduceEqDiff, reduceCtorEq, ↓reduceIte, Nat.reduceLT, Nat.reduceAdd, Nat.reduceMul, Nat.reduceSub, Nat.reduceLeDiff, Nat.reduceBEq, Int.reduceEq, Int.reduceNeg, tk, ntmps91, results91, s92, F92]
  try simp (disch := omega) only [wrap64]
  repeat' refine splitB_intro (fun hb => ?_) (fun hb => ?_)
  all_goals try simp only [Option.some.injEq, Ret.mk.injEq, D.b.injEq, and_true]
  all_goals rw [Bool.eq_iff_iff]
  all_goals simp only [decide_eq_true_eq, decide_eq_false_iff_not, Bool.not_eq_true', Bool.not_eq_false', Bool.false_eq_true, Bool.true_eq_false, reduceCtorEq, false_iff, true_iff, iff_false, iff_true] at *
  all_goals ( omega)

theorem f127_ok {S : Nat → Option Summ} (hS : SumOK prog S) (ds : List D) (r : D) (hr : F92 ds = some r) : FnOK prog 127 (ds.map .d) { ret := r } := by
  unfold F92 at hr
  split at hr
  case h_2 => cases hr
  simp only [Option.some.injEq] at hr
  subst hr
  refine fnOK_awp (A := ⟨tab, S, .x⟩) tab_ok hS mixed func127 rfl rfl rfl rfl (by show 1 ≤ 52; decide) rfl ?_
  simp only [bW, ↓splitB_true, ↓splitB_false, nilCmp, opConv, eq_self, if_true, if_false, Nat.reduceEqDiff, reduceCtorEq, ↓reduceIte, Nat.reduceLT, Nat.reduceAdd, Nat.reduceMul, Nat.reduceSub, Nat.reduceLeDiff, Nat.reduceBEq, Int.reduceEq, Int.reduceNeg, tk, ntmps127, results127]
  try simp (disch := omega) only [wrap64]
  repeat' refine splitB_intro (fun hb => ?_) (fun hb => ?_)
  all_goals try simp only [Option.some.injEq, Ret.mk.injEq, D.b.injEq, and_true]
  all_goals rw [Bool.eq_iff_iff]
  all_goals simp only [decide_eq_true_eq, decide_eq_false_iff_not, Bool.not_eq_true', Bool.not_eq_false', Bool.false_eq_true, Bool.true_eq_false, reduceCtorEq, false_iff, true_iff, iff_false, iff_true] at *
  all_goals ( unfold insP; omega)

theorem f152_ok {S : Nat → Option Summ} (hS : SumOK prog S) (s117 : S 117 = some (.own F117)) (ds : List D) (r : D) (hr : F152 ds = some r) : FnOK prog 152 (ds.map .d) { ret := r } := by
  unfold F152 at hr
  split at hr
  case h_2 => cases hr
  simp only [Option.some.injEq] at hr
  subst hr
  refine fnOK_awp (A := ⟨tab, S, .x⟩) tab_ok hS mixed func152 rfl rfl rfl rfl (by show 1 ≤ 6; decide) rfl ?_
  simp only [bW, ↓splitB_true, ↓splitB_false, nilCmp, opConv, eq_self, if_true, if_false, Nat.reduceEqDiff, reduceCtorEq, ↓reduceIte, Nat.reduceLT, Nat.reduceAdd, Nat.reduceMul, Nat.reduceSub, Nat.reduceLeDiff, Nat.reduceBEq, Int.reduceEq, Int.reduceNeg, tk, ntmps152, results152, s117, F117]
  try simp (disch := omega) only [wrap64]
  repeat' refine splitB_intro (fun hb => ?_) (fun hb => ?_)
  all_goals try simp only [Option.some.injEq, Ret.mk.injEq, D.b.injEq, and_true]
  all_goals rw [Bool.eq_iff_iff]
  all_goals simp only [decide_eq_true_eq, decide_eq_false_iff_not, Bool.not_eq_true', Bool.not_eq_false', Bool.false_eq_true, Bool.true_eq_false, reduceCtorEq, false_iff, true_iff, iff_false, iff_true] at *
  all_goals ( omega)

theorem f94_ok {S : Nat → Option Summ} (hS : SumOK prog S) (s59 : S 59 = some (.own F59)) (ds : List D) (r : D) (hr : F94 ds = some r) : FnOK prog 94 (ds.map .d) { ret := r } := by
  unfold F94 at hr
  split at hr
  case h_2 => cases hr
  rename_i n xs ys
  split at hr
  case isFalse => cases hr
  rename_i hm
  simp only [Option.some.injEq] at hr
  subst hr
  refine fnOK_awp (A := ⟨tab, S, .x⟩) tab_ok hS mixed func94 rfl rfl rfl rfl (by show 2 ≤ 10; decide) rfl ?_
  simp only [bW, ↓splitB_true, ↓splitB_false, nilCmp, opConv, eq_self, if_true, if_false, Nat.reduceEqDiff, reduceCtorEq, ↓reduceIte, Nat.reduceLT, Nat.reduceAdd, Nat.reduceMul, Nat.reduceSub, Nat.reduceLeDiff, Nat.reduceBEq, Int.reduceEq, Int.reduceNeg, tk, ntmps94, results94, s59, F59]
  refine ⟨⟨by omega, by omega⟩, ?_⟩
  try simp only [bW, ↓splitB_true, ↓splitB_false, nilCmp, opConv, eq_self, if_true, if_false, Nat.reduceEqDiff, reduceCtorEq, ↓reduceIte, Nat.reduceLT, Nat.reduceAdd, Nat.reduceMul, Nat.reduceSub, Nat.reduceLeDiff, Nat.reduceBEq, Int.reduceEq, Int.reduceNeg, tk, ntmps94, results94, s59, F59]
  try simp (disch := omega) only [wrap64]
  repeat' refine splitB_intro (fun hb => ?_) (fun hb => ?_)
  all_goals try simp only [Option.some.injEq, Ret.mk.injEq, D.b.injEq, and_true]
  all_goals rw [Bool.eq_iff_iff]
  all_goals simp only [decide_eq_true_eq, decide_eq_false_iff_not, Bool.not_eq_true', Bool.not_eq_false', Bool.false_eq_true, Bool.true_eq_false, reduceCtorEq, false_iff, true_iff, iff_false, iff_true] at *
  all_goals ( omega)

end Go.Fs.Sr

set_option linter.unusedVariables false
set_option linter.unusedSimpArgs false
set_option maxRecDepth 20000
set_option maxHeartbeats 2000000
namespace Go.Fs.Sr
open Go.Proofs.Try

theorem f126_ok {S : Nat → Option Summ} (hS : SumOK prog S) (ds : List D) (r : D) (hr : F126 ds = some r) : FnOK prog 126 (ds.map .d) { ret := r } := by
  unfold F126 at hr
  split at hr
  case h_2 => cases hr
  rename_i n
  simp only [Option.some.injEq] at hr
  subst hr
  refine fnOK_awp (A := ⟨tab, S, .x⟩) tab_ok hS mixed func126 rfl rfl rfl rfl (by show 1 ≤ 14; decide) rfl ?_
  refine seqK fun K hK => ?_
  simp only [bW, ↓splitB_true, ↓splitB_false, nilCmp, opConv, eq_self, if_true, if_false, Nat.reduceEqDiff, reduceCtorEq, ↓reduceIte, Nat.reduceLT, Nat.reduceAdd, Nat.reduceMul, Nat.reduceSub, Nat.reduceLeDiff, Nat.reduceBEq, Int.reduceEq, Int.reduceNeg, tk, ntmps126, results126, Int.reduceSub, Int.reduceAdd, Int.reduceToNat, Int.reduceLE, Int.reduceLT, Int.toNat_zero, Int.reduceNeg, wrap1, wrap0, wrap2, chunk_3, range_3, mCells, mCell]
  refine hK _ ?_; clear hK K
  refine seqK fun K hK => ?_
  simp only [bW, ↓splitB_true, ↓splitB_false, nilCmp, opConv, eq_self, if_true, if_false, Nat.reduceEqDiff, reduceCtorEq, ↓reduceIte, Nat.reduceLT, Nat.reduceAdd, Nat.reduceMul, Nat.reduceSub, Nat.reduceLeDiff, Nat.reduceBEq, Int.reduceEq, Int.reduceNeg, tk, ntmps126, results126, Int.reduceSub, Int.reduceAdd, Int.reduceToNat, Int.reduceLE, Int.reduceLT, Int.toNat_zero, Int.reduceNeg, wrap1, wrap0, wrap2, chunk_3, range_3, mCells, mCell]
  have hin : (1 ≤ n ∧ n ≤ 3) ∨ ¬ (1 ≤ n ∧ n ≤ 3) := Decidable.em _
  rcases hin with hin | hin
  · refine splitB_intro (fun hb => ?_) (fun hb => ?_)
    · exact absurd (of_decide_eq_true hb) (by omega)
    refine splitB_intro (fun hb => ?_) (fun hb => hK _ ?_) <;> clear hK K
    · exact absurd (of_decide_eq_true hb) (by omega)
    have h3 : n = 1 ∨ n = 2 ∨ n = 3 := by omega
    rcases h3 with rfl | rfl | rfl
    all_goals
      simp only [bW, ↓splitB_true, ↓splitB_false, nilCmp, opConv, eq_self, if_true, if_false, Nat.reduceEqDiff, reduceCtorEq, ↓reduceIte, Nat.reduceLT, Nat.reduceAdd, Nat.reduceMul, Nat.reduceSub, Nat.reduceLeDiff, Nat.reduceBEq, Int.reduceEq, Int.reduceNeg, tk, ntmps126, results126, Int.reduceSub, Int.reduceAdd, Int.reduceToNat, Int.reduceLE, Int.reduceLT, Int.toNat_zero, Int.reduceNeg, wrap1, wrap0, wrap2, chunk_3, range_3, mCells, mCell]
      refine ⟨by decide, ?_⟩
      try rfl
  · have e := (tyText_nil n).2 hin
    rw [e]
    refine splitB_intro (fun hb => ?_) (fun hb => ?_)
    · trivial
    have hb := of_decide_eq_false hb
    refine splitB_intro (fun hb2 => ?_) (fun hb2 => ?_)
    · trivial
    exact absurd (of_decide_eq_false hb2) (by omega)

theorem f124_ok {S : Nat → Option Summ} (hS : SumOK prog S) (ds : List D) (r : D) (hr : F124 ds = some r) : FnOK prog 124 (ds.map .d) { ret := r } := by
  unfold F124 at hr
  split at hr
  case h_2 => cases hr
  rename_i w
  simp only [Option.some.injEq] at hr
  subst hr
  refine fnOK_awp (A := ⟨tab, S, .x⟩) tab_ok hS mixed func124 rfl rfl rfl rfl (by show 1 ≤ 18; decide) rfl ?_
  refine seqK fun K hK => ?_
  simp only [bW, ↓splitB_true, ↓splitB_false, nilCmp, opConv, eq_self, if_true, if_false, Nat.reduceEqDiff, reduceCtorEq, ↓reduceIte, Nat.reduceLT, Nat.reduceAdd, Nat.reduceMul, Nat.reduceSub, Nat.reduceLeDiff, Nat.reduceBEq, Int.reduceEq, Int.reduceNeg, tk, ntmps124, results124, range_19, chunk]
  refine hK _ ?_; clear hK K
  refine seqK fun K hK => ?_
  simp only [bW, ↓splitB_true, ↓splitB_false, nilCmp, opConv, eq_self, if_true, if_false, Nat.reduceEqDiff, reduceCtorEq, ↓reduceIte, Nat.reduceLT, Nat.reduceAdd, Nat.reduceMul, Nat.reduceSub, Nat.reduceLeDiff, Nat.reduceBEq, Int.reduceEq, Int.reduceNeg, tk, ntmps124, results124, range_19, chunk]
  have hown : ∀ H' : List (List D), H' = own19 → H' = own19 := fun _ h => h
  refine hK _ ?_; clear hK K hown
  generalize hown : ([[.s ⟨#[117, 115, 101]⟩], [.s ⟨#[102, 117, 110]⟩], [.s ⟨#[112, 117, 98]⟩], [.s ⟨#[109, 97, 105, 110]⟩], [.s ⟨#[105, 110, 116]⟩], [.s ⟨#[98, 111, 111, 108]⟩], [.s ⟨#[114, 111, 119]⟩], [.s ⟨#[105, 102]⟩], [.s ⟨#[108, 101, 116]⟩], [.s ⟨#[116, 114, 117, 101]⟩], [.s ⟨#[102, 97, 108, 115, 101]⟩], [.s ⟨#[97, 110, 100]⟩], [.s ⟨#[111, 114]⟩], [.s ⟨#[110, 111, 116]⟩], [.s ⟨#[97, 116]⟩], [.s ⟨#[108, 101, 110]⟩], [.s ⟨#[112, 117, 116]⟩], [.s ⟨#[106, 111, 105, 110]⟩], [.s ⟨#[112, 114, 105, 110, 116]⟩]] : List (List D)) = L
  obtain rfl : L = own19 := by rw [← hown]; rfl
  clear hown
  have hl19 := own19_len
  refine seqK fun K hK => ?_
  refine seqK fun K2 hK2 => ?_
  simp only [bW, ↓splitB_true, ↓splitB_false, nilCmp, opConv, eq_self, if_true, if_false, Nat.reduceEqDiff, reduceCtorEq, ↓reduceIte, Nat.reduceLT, Nat.reduceAdd, Nat.reduceMul, Nat.reduceSub, Nat.reduceLeDiff, Nat.reduceBEq, Int.reduceEq, Int.reduceNeg, tk, ntmps124, results124, range_19, chunk]
  refine hK2 _ ?_; clear hK2 K2
  rw [awp_block]
  refine loopW [0, 3, 4] (fun i : Nat => stL 18 [(0, .d (.s w)), (3, .r 500000), (4, .d (.i .i64 i))] [(500000, some (.row 1 own19 true false 0))]) (fun i => i ≤ own19.length ∧ own19.any (txt w) = (own19.drop i).any (txt w)) (fun i => own19.length - i) ?_ ?_
  · refine ⟨?_, 0, ?_, by omega, by first | rfl | simp⟩
    · simp only [bK, Nat.reduceEqDiff, reduceCtorEq, ↓reduceIte, Nat.reduceBEq, Nat.reduceLeDiff, Nat.reduceAdd, if_true, if_false]
    · simp only [bK, Nat.reduceEqDiff, reduceCtorEq, ↓reduceIte, Nat.reduceBEq, Nat.reduceLeDiff, Nat.reduceAdd, if_true, if_false]
      refine stL_eq ?_ ?_
      · simp only [Option.some.injEq, Ret.mk.injEq, List.cons.injEq, Prod.mk.injEq, AV.d.injEq, D.i.injEq, D.b.injEq, D.s.injEq, true_and, and_true]
        first | rfl | (simp only [List.drop_zero]; omega)
      · try rfl
  rintro i ⟨hi, hn⟩
  refine seqK fun K3 hK3 => ?_
  simp only [bW, ↓splitB_true, ↓splitB_false, nilCmp, opConv, eq_self, if_true, if_false, Nat.reduceEqDiff, reduceCtorEq, ↓reduceIte, Nat.reduceLT, Nat.reduceAdd, Nat.reduceMul, Nat.reduceSub, Nat.reduceLeDiff, Nat.reduceBEq, Int.reduceEq, Int.reduceNeg, tk, ntmps124, results124, range_19, chunk]
  refine splitB_intro (fun hb => hK3 _ ?_) (fun hb => hK _ ?_) <;> clear hK3 K3
  · have hlt := of_decide_eq_true hb
    clear hb
    have hlt : i < own19.length := by omega
    have hrow := shLL_get (cs := [.s]) own19_sh (i := i) hlt
    have hst := any_step (txt w) (xs := own19) (i := i) hlt
    generalize hrw : own19.getD i [] = row at hrow hst
    obtain ⟨c1, q1, rfl, e1, hrow⟩ := shL_cons hrow
    obtain rfl := shL_nil hrow
    obtain ⟨t, rfl⟩ := shD_s e1
    have hnm : txt w [.s t] = decide (t = w) := rfl
    rw [hnm] at hst
    refine seqK fun K4 hK4 => ?_
    rw [awp_block]
    simp only [bW, ↓splitB_true, ↓splitB_false, nilCmp, opConv, eq_self, if_true, if_false, Nat.reduceEqDiff, reduceCtorEq, ↓reduceIte, Nat.reduceLT, Nat.reduceAdd, Nat.reduceMul, Nat.reduceSub, Nat.reduceLeDiff, Nat.reduceBEq, Int.reduceEq, Int.reduceNeg, tk, ntmps124, results124, range_19, chunk]
    refine ⟨⟨by omega, by omega⟩, ?_⟩
    rw [hrw]
    simp only [bW, ↓splitB_true, ↓splitB_false, nilCmp, opConv, eq_self, if_true, if_false, Nat.reduceEqDiff, reduceCtorEq, ↓reduceIte, Nat.reduceLT, Nat.reduceAdd, Nat.reduceMul, Nat.reduceSub, Nat.reduceLeDiff, Nat.reduceBEq, Int.reduceEq, Int.reduceNeg, tk, ntmps124, results124, range_19, chunk]
    refine splitB_intro (fun hb => ?_) (fun hb => hK4 _ ?_) <;> clear hK4 K4
    · simp only [ownB]
      rw [hn, hst, hb]; rfl
    rw [hb, Bool.false_or] at hst
    simp only [bW, ↓splitB_true, ↓splitB_false, nilCmp, opConv, eq_self, if_true, if_false, Nat.reduceEqDiff, reduceCtorEq, ↓reduceIte, Nat.reduceLT, Nat.reduceAdd, Nat.reduceMul, Nat.reduceSub, Nat.reduceLeDiff, Nat.reduceBEq, Int.reduceEq, Int.reduceNeg, tk, ntmps124, results124, range_19, chunk]
    try simp (disch := omega) only [wrap64]
    refine ⟨?_, i + 1, ?_, ⟨?_, ?_⟩, ?_⟩
    · simp only [bK, Nat.reduceEqDiff, reduceCtorEq, ↓reduceIte, Nat.reduceBEq, Nat.reduceLeDiff, Nat.reduceAdd, if_true, if_false]
    · simp only [bK, Nat.reduceEqDiff, reduceCtorEq, ↓reduceIte, Nat.reduceBEq, Nat.reduceLeDiff, Nat.reduceAdd, if_true, if_false]
      refine stL_eq ?_ ?_
      · simp only [Option.some.injEq, Ret.mk.injEq, List.cons.injEq, Prod.mk.injEq, AV.d.injEq, D.i.injEq, D.b.injEq, D.s.injEq, true_and, and_true]
        try omega
      · try rfl
    · omega
    · rw [hn, hst]
    · omega
  · have hge := of_decide_eq_false hb
    have e : i = own19.length := by omega
    subst e
    clear hb hge
    rw [List.drop_length] at hn
    simp only [bW, ↓splitB_true, ↓splitB_false, nilCmp, opConv, eq_self, if_true, if_false, Nat.reduceEqDiff, reduceCtorEq, ↓reduceIte, Nat.reduceLT, Nat.reduceAdd, Nat.reduceMul, Nat.reduceSub, Nat.reduceLeDiff, Nat.reduceBEq, Int.reduceEq, Int.reduceNeg, tk, ntmps124, results124, range_19, chunk]
    simp only [ownB]
    rw [hn]; rfl

theorem f166_ok {S : Nat → Option Summ} (hS : SumOK prog S) (ds : List D) (r : D) (hr : F166 ds = some r) : FnOK prog 166 (ds.map .d) { ret := r } := by
  unfold F166 at hr
  split at hr
  case h_2 => cases hr
  rename_i xs w
  split at hr
  case isFalse => cases hr
  rename_i hc
  obtain ⟨h1, h2⟩ := hc
  simp only [Option.some.injEq] at hr
  subst hr
  refine fnOK_awp (A := ⟨tab, S, .x⟩) tab_ok hS mixed func166 rfl rfl rfl rfl (by show 2 ≤ 19; decide) rfl ?_
  refine seqK fun K hK => ?_
  simp only [bW, ↓splitB_true, ↓splitB_false, nilCmp, opConv, eq_self, if_true, if_false, Nat.reduceEqDiff, reduceCtorEq, ↓reduceIte, Nat.reduceLT, Nat.reduceAdd, Nat.reduceMul, Nat.reduceSub, Nat.reduceLeDiff, Nat.reduceBEq, Int.reduceEq, Int.reduceNeg, tk, ntmps166, results166]
  refine hK _ ?_; clear hK K
  refine seqK fun K hK => ?_
  refine seqK fun K2 hK2 => ?_
  simp only [bW, ↓splitB_true, ↓splitB_false, nilCmp, opConv, eq_self, if_true, if_false, Nat.reduceEqDiff, reduceCtorEq, ↓reduceIte, Nat.reduceLT, Nat.reduceAdd, Nat.reduceMul, Nat.reduceSub, Nat.reduceLeDiff, Nat.reduceBEq, Int.reduceEq, Int.reduceNeg, tk, ntmps166, results166]
  refine hK2 _ ?_; clear hK2 K2
  rw [awp_block]
  refine loopW [0, 1, 7, 8] (fun i : Nat => stL 19 [(0, .d (.l 1 xs)), (1, .d (.s w)), (7, .d (.i .i64 xs.length)), (8, .d (.i .i64 i))] []) (fun i => i ≤ xs.length ∧ idxP (txt w) xs 0 = idxP (txt w) (xs.drop i) i) (fun i => xs.length - i) ?_ ?_
  · refine ⟨?_, 0, ?_, by omega, by first | rfl | simp⟩
    · simp only [bK, Nat.reduceEqDiff, reduceCtorEq, ↓reduceIte, Nat.reduceBEq, Nat.reduceLeDiff, Nat.reduceAdd, if_true, if_false]
    · simp only [bK, Nat.reduceEqDiff, reduceCtorEq, ↓reduceIte, Nat.reduceBEq, Nat.reduceLeDiff, Nat.reduceAdd, if_true, if_false]
      refine stL_eq ?_ ?_
      · simp only [Option.some.injEq, Ret.mk.injEq, List.cons.injEq, Prod.mk.injEq, AV.d.injEq, D.i.injEq, D.b.injEq, D.s.injEq, true_and, and_true]
        first | rfl | (simp only [List.drop_zero]; omega)
      · try rfl
  rintro i ⟨hi, hn⟩
  refine seqK fun K3 hK3 => ?_
  simp only [bW, ↓splitB_true, ↓splitB_false, nilCmp, opConv, eq_self, if_true, if_false, Nat.reduceEqDiff, reduceCtorEq, ↓reduceIte, Nat.reduceLT, Nat.reduceAdd, Nat.reduceMul, Nat.reduceSub, Nat.reduceLeDiff, Nat.reduceBEq, Int.reduceEq, Int.reduceNeg, tk, ntmps166, results166]
  refine hK3 _ ?_; clear hK3 K3
  refine seqK fun K3 hK3 => ?_
  simp only [bW, ↓splitB_true, ↓splitB_false, nilCmp, opConv, eq_self, if_true, if_false, Nat.reduceEqDiff, reduceCtorEq, ↓reduceIte, Nat.reduceLT, Nat.reduceAdd, Nat.reduceMul, Nat.reduceSub, Nat.reduceLeDiff, Nat.reduceBEq, Int.reduceEq, Int.reduceNeg, tk, ntmps166, results166]
  refine splitB_intro (fun hb => hK3 _ ?_) (fun hb => hK _ ?_) <;> clear hK3 K3
  · have hlt := of_decide_eq_true hb
    clear hb
    have hlt : i < xs.length := by omega
    have hrow := shLL_get h1 hlt
    have hst := idxP_step (txt w) hlt (i : Int)
    generalize hrw : xs.getD i [] = row at hrow hst
    obtain ⟨c1, q1, rfl, e1, hrow⟩ := shL_cons hrow
    obtain rfl := shL_nil hrow
    obtain ⟨t, rfl⟩ := shD_s e1
    have hnm : (txt w [.s t] = true) = (w = t) := by simp [txt, nameOf, eq_comm]
    simp only [hnm] at hst
    refine seqK fun K4 hK4 => ?_
    rw [awp_block]
    refine seqK fun K5 hK5 => ?_
    simp only [bW, ↓splitB_true, ↓splitB_false, nilCmp, opConv, eq_self, if_true, if_false, Nat.reduceEqDiff, reduceCtorEq, ↓reduceIte, Nat.reduceLT, Nat.reduceAdd, Nat.reduceMul, Nat.reduceSub, Nat.reduceLeDiff, Nat.reduceBEq, Int.reduceEq, Int.reduceNeg, tk, ntmps166, results166]
    refine hK5 _ ?_; clear hK5 K5
    simp only [bW, ↓splitB_true, ↓splitB_false, nilCmp, opConv, eq_self, if_true, if_false, Nat.reduceEqDiff, reduceCtorEq, ↓reduceIte, Nat.reduceLT, Nat.reduceAdd, Nat.reduceMul, Nat.reduceSub, Nat.reduceLeDiff, Nat.reduceBEq, Int.reduceEq, Int.reduceNeg, tk, ntmps166, results166]
    refine ⟨⟨by omega, by omega⟩, ?_⟩
    rw [hrw]
    simp only [bW, ↓splitB_true, ↓splitB_false, nilCmp, opConv, eq_self, if_true, if_false, Nat.reduceEqDiff, reduceCtorEq, ↓reduceIte, Nat.reduceLT, Nat.reduceAdd, Nat.reduceMul, Nat.reduceSub, Nat.reduceLeDiff, Nat.reduceBEq, Int.reduceEq, Int.reduceNeg, tk, ntmps166, results166]
    refine splitB_intro (fun hb => ?_) (fun hb => hK4 _ ?_) <;> clear hK4 K4
    · have hb := of_decide_eq_true hb
      rw [if_pos hb] at hst
      rw [hn, hst]
    have hb := of_decide_eq_false hb
    rw [if_neg hb] at hst
    simp only [bW, ↓splitB_true, ↓splitB_false, nilCmp, opConv, eq_self, if_true, if_false, Nat.reduceEqDiff, reduceCtorEq, ↓reduceIte, Nat.reduceLT, Nat.reduceAdd, Nat.reduceMul, Nat.reduceSub, Nat.reduceLeDiff, Nat.reduceBEq, Int.reduceEq, Int.reduceNeg, tk, ntmps166, results166]
    try simp (disch := omega) only [wrap64]
    refine ⟨?_, i + 1, ?_, ⟨?_, ?_⟩, ?_⟩
    · simp only [bK, Nat.reduceEqDiff, reduceCtorEq, ↓reduceIte, Nat.reduceBEq, Nat.reduceLeDiff, Nat.reduceAdd, if_true, if_false]
    · simp only [bK, Nat.reduceEqDiff, reduceCtorEq, ↓reduceIte, Nat.reduceBEq, Nat.reduceLeDiff, Nat.reduceAdd, if_true, if_false]
      refine stL_eq ?_ ?_
      · simp only [Option.some.injEq, Ret.mk.injEq, List.cons.injEq, Prod.mk.injEq, AV.d.injEq, D.i.injEq, D.b.injEq, D.s.injEq, true_and, and_true]
        try omega
      · try rfl
    · omega
    · rw [hn, hst]; rfl
    · omega
  · have hge := of_decide_eq_false hb
    have e : i = xs.length := by omega
    subst e
    clear hb hge
    rw [List.drop_length] at hn
    simp only [bW, ↓splitB_true, ↓splitB_false, nilCmp, opConv, eq_self, if_true, if_false, Nat.reduceEqDiff, reduceCtorEq, ↓reduceIte, Nat.reduceLT, Nat.reduceAdd, Nat.reduceMul, Nat.reduceSub, Nat.reduceLeDiff, Nat.reduceBEq, Int.reduceEq, Int.reduceNeg, tk, ntmps166, results166]
    rw [hn]; rfl

theorem f148_ok {S : Nat → Option Summ} (hS : SumOK prog S) (s166 : S 166 = some (.own F166)) (ds : List D) (r : D) (hr : F148 ds = some r) : FnOK prog 148 (ds.map .d) { ret := r } := by
  unfold F148 at hr
  split at hr
  case h_2 => cases hr
  rename_i xs w
  split at hr
  case isFalse => cases hr
  rename_i hc
  obtain ⟨h1, h2⟩ := hc
  simp only [Option.some.injEq] at hr
  subst hr
  refine fnOK_awp (A := ⟨tab, S, .x⟩) tab_ok hS mixed func148 rfl rfl rfl rfl (by show 2 ≤ 9; decide) rfl ?_
  simp only [bW, ↓splitB_true, ↓splitB_false, nilCmp, opConv, eq_self, if_true, if_false, Nat.reduceEqDiff, reduceCtorEq, ↓reduceIte, Nat.reduceLT, Nat.reduceAdd, Nat.reduceMul, Nat.reduceSub, Nat.reduceLeDiff, Nat.reduceBEq, Int.reduceEq, Int.reduceNeg, tk, ntmps148, results148, s166, F166]
  refine ⟨⟨h1, by omega⟩, ?_⟩
  try simp only [bW, ↓splitB_true, ↓splitB_false, nilCmp, opConv, eq_self, if_true, if_false, Nat.reduceEqDiff, reduceCtorEq, ↓reduceIte, Nat.reduceLT, Nat.reduceAdd, Nat.reduceMul, Nat.reduceSub, Nat.reduceLeDiff, Nat.reduceBEq, Int.reduceEq, Int.reduceNeg, tk, ntmps148, results148, s166, F166]
  simp only [Option.some.injEq, Ret.mk.injEq, List.cons.injEq, Prod.mk.injEq, AV.d.injEq, D.i.injEq, D.b.injEq, D.s.injEq, true_and, and_true]
  rw [Bool.eq_iff_iff, decide_eq_true_eq]
  exact idxP_any _ _ _ (by omega)

theorem f129_ok {S : Nat → Option Summ} (hS : SumOK prog S) (s148 : S 148 = some (.own F148)) (ds : List D) (r : D) (hr : F124 ds = some r) : FnOK prog 129 (ds.map .d) { ret := r } := by
  unfold F124 at hr
  split at hr
  case h_2 => cases hr
  rename_i w
  simp only [Option.some.injEq] at hr
  subst hr
  refine fnOK_awp (A := ⟨tab, S, .x⟩) tab_ok hS mixed func129 rfl rfl rfl rfl (by show 1 ≤ 6; decide) rfl ?_
  refine seqK fun K hK => ?_
  simp only [bW, ↓splitB_true, ↓splitB_false, nilCmp, opConv, eq_self, if_true, if_false, Nat.reduceEqDiff, reduceCtorEq, ↓reduceIte, Nat.reduceLT, Nat.reduceAdd, Nat.reduceMul, Nat.reduceSub, Nat.reduceLeDiff, Nat.reduceBEq, Int.reduceEq, Int.reduceNeg, tk, ntmps129, results129, s148, F148, range_19, chunk]
  refine hK _ ?_; clear hK K
  simp only [bW, ↓splitB_true, ↓splitB_false, nilCmp, opConv, eq_self, if_true, if_false, Nat.reduceEqDiff, reduceCtorEq, ↓reduceIte, Nat.reduceLT, Nat.reduceAdd, Nat.reduceMul, Nat.reduceSub, Nat.reduceLeDiff, Nat.reduceBEq, Int.reduceEq, Int.reduceNeg, tk, ntmps129, results129, s148, F148, range_19, chunk]
  refine ⟨by decide, ?_⟩
  try rfl

end Go.Fs.Sr
