/- A part of the proof: an evaluator of the program's code over plain data, proved sound, and walks of the program's functions by it. No conditions beyond those in the theorems. -/
import Derived.Test.YtbgbnmghhmfihaaLawIp8
import Derived.Test.YtbgbnmghhmfihaaLawIp9
set_option linter.unusedVariables false
set_option linter.unusedSimpArgs false
set_option maxRecDepth 20000
set_option maxHeartbeats 2000000
namespace Go.Fs.Sr
open Go.Proofs.Try

theorem f19_ok {S : Nat → Option Summ} (hS : SumOK prog S) (ds : List D) (r : D) (hr : eqP [.i] ds = some r) : FnOK prog 19 (ds.map .d) { ret := r } := by
  obtain ⟨xs, ys, rfl, h1, h2, h3, h4, h5, h6, rfl⟩ := eqP_inv hr
  clear hr
  refine fnOK_awp (A := ⟨tab, S, .x⟩) tab_ok hS mixed func19 rfl rfl rfl rfl (by show 2 ≤ 26; decide) rfl ?_
  refine seqK fun K hK => ?_
  simp only [bW, ↓splitB_true, ↓splitB_false, nilCmp, opConv, eq_self, if_true, if_false, Nat.reduceEqDiff, reduceCtorEq, ↓reduceIte, Nat.reduceLT, Nat.reduceAdd, Nat.reduceMul, Nat.reduceSub, Nat.reduceLeDiff, Nat.reduceBEq, Int.reduceEq, Int.reduceNeg, tk, ntmps19, results19]
  refine hK _ ?_; clear hK K
  refine seqK fun K hK => ?_
  simp only [bW, ↓splitB_true, ↓splitB_false, nilCmp, opConv, eq_self, if_true, if_false, Nat.reduceEqDiff, reduceCtorEq, ↓reduceIte, Nat.reduceLT, Nat.reduceAdd, Nat.reduceMul, Nat.reduceSub, Nat.reduceLeDiff, Nat.reduceBEq, Int.reduceEq, Int.reduceNeg, tk, ntmps19, results19]
  refine splitB_intro (fun hb => ?_) (fun hb => hK _ ?_) <;> clear hK K
  · simp only [Bool.not_eq_true', decide_eq_false_iff_not] at hb
    rw [eqLL_len (by omega)]
  simp only [Bool.not_eq_false', decide_eq_true_eq] at hb
  have hl : xs.length = ys.length := by omega
  clear hb
  refine seqK fun K hK => ?_
  refine seqK fun K2 hK2 => ?_
  simp only [bW, ↓splitB_true, ↓splitB_false, nilCmp, opConv, eq_self, if_true, if_false, Nat.reduceEqDiff, reduceCtorEq, ↓reduceIte, Nat.reduceLT, Nat.reduceAdd, Nat.reduceMul, Nat.reduceSub, Nat.reduceLeDiff, Nat.reduceBEq, Int.reduceEq, Int.reduceNeg, tk, ntmps19, results19]
  refine hK2 _ ?_; clear hK2 K2
  rw [awp_block]
  refine loopW [0, 1, 5] (fun i : Nat => stL 26 [(0, .d (.l 1 xs)), (1, .d (.l 1 ys)), (5, .d (.i .i64 i))] []) (fun i => i ≤ xs.length ∧ eqLL xs ys = eqLL (xs.drop i) (ys.drop i)) (fun i => xs.length - i) ?_ ?_
  · refine ⟨?_, 0, ?_, ?_, ?_⟩
    · simp only [bK, Nat.reduceEqDiff, reduceCtorEq, ↓reduceIte, Nat.reduceBEq, Nat.reduceLeDiff, Nat.reduceAdd, if_true, if_false]
    · simp only [bK, Nat.reduceEqDiff, reduceCtorEq, ↓reduceIte, Nat.reduceBEq, Nat.reduceLeDiff, Nat.reduceAdd, if_true, if_false]
      refine stL_eq ?_ rfl
      simp only [Option.some.injEq, Ret.mk.injEq, List.cons.injEq, Prod.mk.injEq, AV.d.injEq, D.i.injEq, D.b.injEq, D.s.injEq, true_and, and_true]
      try rfl
    · omega
    · simp
  rintro i ⟨hi, hn⟩
  refine seqK fun K3 hK3 => ?_
  simp only [bW, ↓splitB_true, ↓splitB_false, nilCmp, opConv, eq_self, if_true, if_false, Nat.reduceEqDiff, reduceCtorEq, ↓reduceIte, Nat.reduceLT, Nat.reduceAdd, Nat.reduceMul, Nat.reduceSub, Nat.reduceLeDiff, Nat.reduceBEq, Int.reduceEq, Int.reduceNeg, tk, ntmps19, results19]
  refine splitB_intro (fun hb => hK3 _ ?_) (fun hb => hK _ ?_) <;> clear hK3 K3
  · have hlt := of_decide_eq_true hb
    clear hb
    have hlt : i < xs.length := by omega
    have hlt2 : i < ys.length := by omega
    have hx := shLL_get h1 hlt
    have hy := shLL_get h2 hlt2
    have hox := okLL_get h3 hlt
    have hoy := okLL_get h4 hlt2
    have hst := eqLL_step hl hlt
    generalize hrx : xs.getD i [] = rx at hx hox hst
    generalize hry : ys.getD i [] = ry at hy hoy hst
    obtain ⟨c1, q1, rfl, e1, hx⟩ := shL_cons hx
    obtain rfl := shL_nil hx
    obtain ⟨u, rfl⟩ := shD_i e1
    obtain ⟨c2, q2, rfl, e2, hy⟩ := shL_cons hy
    obtain rfl := shL_nil hy
    obtain ⟨v, rfl⟩ := shD_i e2
    simp only [eqL_cons', eqL_nil', eqD_i', Bool.and_true] at hst
    refine seqK fun K4 hK4 => ?_
    rw [awp_block]
    refine seqK fun K5 hK5 => ?_
    refine awp_quiet (by decide) ?_
    simp only [bW, ↓splitB_true, ↓splitB_false, nilCmp, opConv, eq_self, if_true, if_false, Nat.reduceEqDiff, reduceCtorEq, ↓reduceIte, Nat.reduceLT, Nat.reduceAdd, Nat.reduceMul, Nat.reduceSub, Nat.reduceLeDiff, Nat.reduceBEq, Int.reduceEq, Int.reduceNeg, tk, bQ, ntmps19, results19]
    refine ⟨⟨by omega, by omega⟩, ?_⟩
    rw [hrx]
    simp only [bW, ↓splitB_true, ↓splitB_false, nilCmp, opConv, eq_self, if_true, if_false, Nat.reduceEqDiff, reduceCtorEq, ↓reduceIte, Nat.reduceLT, Nat.reduceAdd, Nat.reduceMul, Nat.reduceSub, Nat.reduceLeDiff, Nat.reduceBEq, Int.reduceEq, Int.reduceNeg, tk, bQ, ntmps19, results19]
    refine ⟨⟨by omega, by omega⟩, ?_⟩
    rw [hry]
    simp only [bW, ↓splitB_true, ↓splitB_false, nilCmp, opConv, eq_self, if_true, if_false, Nat.reduceEqDiff, reduceCtorEq, ↓reduceIte, Nat.reduceLT, Nat.reduceAdd, Nat.reduceMul, Nat.reduceSub, Nat.reduceLeDiff, Nat.reduceBEq, Int.reduceEq, Int.reduceNeg, tk, bQ, ntmps19, results19]
    refine hK5 _ ?_; clear hK5 K5
    simp only [bW, ↓splitB_true, ↓splitB_false, nilCmp, opConv, eq_self, if_true, if_false, Nat.reduceEqDiff, reduceCtorEq, ↓reduceIte, Nat.reduceLT, Nat.reduceAdd, Nat.reduceMul, Nat.reduceSub, Nat.reduceLeDiff, Nat.reduceBEq, Int.reduceEq, Int.reduceNeg, tk, ntmps19, results19]
    refine splitB_intro (fun hb => ?_) (fun hb => hK4 _ ?_) <;> clear hK4 K4
    · simp only [Bool.not_eq_true'] at hb
      rw [hn, hst, hb]; rfl
    simp only [Bool.not_eq_false'] at hb
    simp only [bW, ↓splitB_true, ↓splitB_false, nilCmp, opConv, eq_self, if_true, if_false, Nat.reduceEqDiff, reduceCtorEq, ↓reduceIte, Nat.reduceLT, Nat.reduceAdd, Nat.reduceMul, Nat.reduceSub, Nat.reduceLeDiff, Nat.reduceBEq, Int.reduceEq, Int.reduceNeg, tk, ntmps19, results19]
    simp (disch := omega) only [wrap64]
    refine ⟨?_, i + 1, ?_, ⟨?_, ?_⟩, ?_⟩
    · simp only [bK, Nat.reduceEqDiff, reduceCtorEq, ↓reduceIte, Nat.reduceBEq, Nat.reduceLeDiff, Nat.reduceAdd, if_true, if_false]
    · simp only [bK, Nat.reduceEqDiff, reduceCtorEq, ↓reduceIte, Nat.reduceBEq, Nat.reduceLeDiff, Nat.reduceAdd, if_true, if_false]
      refine stL_eq ?_ rfl
      simp only [Option.some.injEq, Ret.mk.injEq, List.cons.injEq, Prod.mk.injEq, AV.d.injEq, D.i.injEq, D.b.injEq, D.s.injEq, true_and, and_true]
      omega
    · omega
    · rw [hn, hst, hb]; rfl
    · omega
  · have hge := of_decide_eq_false hb
    have e : i = xs.length := by omega
    have e1 : eqLL xs ys = true := by rw [hn, List.drop_eq_nil_of_le (by omega), List.drop_eq_nil_of_le (by omega)]; rfl
    simp only [bW, ↓splitB_true, ↓splitB_false, nilCmp, opConv, eq_self, if_true, if_false, Nat.reduceEqDiff, reduceCtorEq, ↓reduceIte, Nat.reduceLT, Nat.reduceAdd, Nat.reduceMul, Nat.reduceSub, Nat.reduceLeDiff, Nat.reduceBEq, Int.reduceEq, Int.reduceNeg, tk, ntmps19, results19]
    rw [e1]

theorem f153_ok {S : Nat → Option Summ} (hS : SumOK prog S) (ds : List D) (r : D) (hr : eqG ins2 ds = some r) : FnOK prog 153 (ds.map .d) { ret := r } := by
  obtain ⟨xs, ys, rfl, h1, h2, h3, h4, rfl⟩ := eqG_inv hr
  clear hr
  obtain ⟨ct1, qt1, rfl, et1, h1⟩ := shL_cons h1
  obtain ⟨ct2, qt2, rfl, et2, h1⟩ := shL_cons h1
  obtain rfl := shL_nil h1
  obtain ⟨t1, rfl⟩ := shD_i et1
  obtain ⟨t2, rfl⟩ := shD_i et2
  obtain ⟨cu1, qu1, rfl, eu1, h2⟩ := shL_cons h2
  obtain ⟨cu2, qu2, rfl, eu2, h2⟩ := shL_cons h2
  obtain rfl := shL_nil h2
  obtain ⟨u1, rfl⟩ := shD_i eu1
  obtain ⟨u2, rfl⟩ := shD_i eu2
  simp only [okL_cons, okL_nil, okD_s, okD_l, okD_i, okD_b, and_true, true_and] at h3 h4
  obtain ⟨kt1, kt2⟩ := h3
  obtain ⟨ku1, ku2⟩ := h4
  simp only [eqL_cons', eqL_nil', eqD_s', eqD_l', eqD_i', eqD_b', Bool.and_true]
  refine fnOK_awp (A := ⟨tab, S, .x⟩) tab_ok hS mixed func153 rfl rfl rfl rfl (by show 2 ≤ 15; decide) rfl ?_
  refine seqK fun K hK => ?_
  simp only [bW, ↓splitB_true, ↓splitB_false, nilCmp, opConv, eq_self, if_true, if_false, Nat.reduceEqDiff, reduceCtorEq, ↓reduceIte, Nat.reduceLT, Nat.reduceAdd, Nat.reduceMul, Nat.reduceSub, Nat.reduceLeDiff, Nat.reduceBEq, Int.reduceEq, Int.reduceNeg, tk, ntmps153, results153]
  refine hK _ ?_; clear hK K
  refine seqK fun K hK => ?_
  simp only [bW, ↓splitB_true, ↓splitB_false, nilCmp, opConv, eq_self, if_true, if_false, Nat.reduceEqDiff, reduceCtorEq, ↓reduceIte, Nat.reduceLT, Nat.reduceAdd, Nat.reduceMul, Nat.reduceSub, Nat.reduceLeDiff, Nat.reduceBEq, Int.reduceEq, Int.reduceNeg, tk, ntmps153, results153]
  refine splitB_intro (fun hb => ?_) (fun hb => hK _ ?_) <;> clear hK K
  · simp only [Bool.not_eq_true', decide_eq_false_iff_not] at hb
    simp only [decide_eq_false hb, Bool.false_and, Bool.and_false]
  simp only [Bool.not_eq_false', decide_eq_true_eq] at hb
  simp only [decide_eq_true hb, Bool.true_and]
  refine seqK fun K hK => ?_
  simp only [bW, ↓splitB_true, ↓splitB_false, nilCmp, opConv, eq_self, if_true, if_false, Nat.reduceEqDiff, reduceCtorEq, ↓reduceIte, Nat.reduceLT, Nat.reduceAdd, Nat.reduceMul, Nat.reduceSub, Nat.reduceLeDiff, Nat.reduceBEq, Int.reduceEq, Int.reduceNeg, tk, ntmps153, results153]
  refine splitB_intro (fun hb => ?_) (fun hb => hK _ ?_) <;> clear hK K
  · simp only [Bool.not_eq_true', decide_eq_false_iff_not] at hb
    simp only [decide_eq_false hb, Bool.false_and, Bool.and_false]
  simp only [Bool.not_eq_false', decide_eq_true_eq] at hb
  simp only [decide_eq_true hb, Bool.true_and]
  simp only [bW, ↓splitB_true, ↓splitB_false, nilCmp, opConv, eq_self, if_true, if_false, Nat.reduceEqDiff, reduceCtorEq, ↓reduceIte, Nat.reduceLT, Nat.reduceAdd, Nat.reduceMul, Nat.reduceSub, Nat.reduceLeDiff, Nat.reduceBEq, Int.reduceEq, Int.reduceNeg, tk, ntmps153, results153]
  try rfl

theorem f134_ok {S : Nat → Option Summ} (hS : SumOK prog S) (s153 : S 153 = some (.own (eqG ins2))) (ds : List D) (r : D) (hr : eqP ins2 ds = some r) : FnOK prog 134 (ds.map .d) { ret := r } := by
  obtain ⟨xs, ys, rfl, h1, h2, h3, h4, h5, h6, rfl⟩ := eqP_inv hr
  clear hr
  have hsz : (ins2 : List Sh).length = 2 := rfl
  rw [hsz]
  refine fnOK_awp (A := ⟨tab, S, .x⟩) tab_ok hS mixed func134 rfl rfl rfl rfl (by show 2 ≤ 27; decide) rfl ?_
  refine seqK fun K hK => ?_
  simp only [bW, ↓splitB_true, ↓splitB_false, nilCmp, opConv, eq_self, if_true, if_false, Nat.reduceEqDiff, reduceCtorEq, ↓reduceIte, Nat.reduceLT, Nat.reduceAdd, Nat.reduceMul, Nat.reduceSub, Nat.reduceLeDiff, Nat.reduceBEq, Int.reduceEq, Int.reduceNeg, tk, ntmps134, results134, s153]
  refine hK _ ?_; clear hK K
  refine seqK fun K hK => ?_
  simp only [bW, ↓splitB_true, ↓splitB_false, nilCmp, opConv, eq_self, if_true, if_false, Nat.reduceEqDiff, reduceCtorEq, ↓reduceIte, Nat.reduceLT, Nat.reduceAdd, Nat.reduceMul, Nat.reduceSub, Nat.reduceLeDiff, Nat.reduceBEq, Int.reduceEq, Int.reduceNeg, tk, ntmps134, results134, s153]
  refine splitB_intro (fun hb => ?_) (fun hb => hK _ ?_) <;> clear hK K
  · simp only [Bool.not_eq_true', decide_eq_false_iff_not] at hb
    rw [eqLL_len (by omega)]
  simp only [Bool.not_eq_false', decide_eq_true_eq] at hb
  have hl : xs.length = ys.length := by omega
  clear hb
  refine seqK fun K hK => ?_
  refine seqK fun K2 hK2 => ?_
  simp only [bW, ↓splitB_true, ↓splitB_false, nilCmp, opConv, eq_self, if_true, if_false, Nat.reduceEqDiff, reduceCtorEq, ↓reduceIte, Nat.reduceLT, Nat.reduceAdd, Nat.reduceMul, Nat.reduceSub, Nat.reduceLeDiff, Nat.reduceBEq, Int.reduceEq, Int.reduceNeg, tk, ntmps134, results134, s153]
  refine hK2 _ ?_; clear hK2 K2
  rw [awp_block]
  refine loopW [0, 1, 5] (fun i : Nat => stL 27 [(0, .d (.l 2 xs)), (1, .d (.l 2 ys)), (5, .d (.i .i64 i))] []) (fun i => i ≤ xs.length ∧ eqLL xs ys = eqLL (xs.drop i) (ys.drop i)) (fun i => xs.length - i) ?_ ?_
  · refine ⟨?_, 0, ?_, ?_, ?_⟩
    · simp only [bK, Nat.reduceEqDiff, reduceCtorEq, ↓reduceIte, Nat.reduceBEq, Nat.reduceLeDiff, Nat.reduceAdd, if_true, if_false]
    · simp only [bK, Nat.reduceEqDiff, reduceCtorEq, ↓reduceIte, Nat.reduceBEq, Nat.reduceLeDiff, Nat.reduceAdd, if_true, if_false]
      refine stL_eq ?_ rfl
      simp only [Option.some.injEq, Ret.mk.injEq, List.cons.injEq, Prod.mk.injEq, AV.d.injEq, D.i.injEq, D.b.injEq, D.s.injEq, true_and, and_true]
      try rfl
    · omega
    · simp
  rintro i ⟨hi, hn⟩
  refine seqK fun K3 hK3 => ?_
  simp only [bW, ↓splitB_true, ↓splitB_false, nilCmp, opConv, eq_self, if_true, if_false, Nat.reduceEqDiff, reduceCtorEq, ↓reduceIte, Nat.reduceLT, Nat.reduceAdd, Nat.reduceMul, Nat.reduceSub, Nat.reduceLeDiff, Nat.reduceBEq, Int.reduceEq, Int.reduceNeg, tk, ntmps134, results134, s153]
  refine splitB_intro (fun hb => hK3 _ ?_) (fun hb => hK _ ?_) <;> clear hK3 K3
  · have hlt := of_decide_eq_true hb
    clear hb
    have hlt : i < xs.length := by omega
    have hlt2 : i < ys.length := by omega
    have hx := shLL_get h1 hlt
    have hy := shLL_get h2 hlt2
    have hox := okLL_get h3 hlt
    have hoy := okLL_get h4 hlt2
    have hst := eqLL_step hl hlt
    generalize hrx : xs.getD i [] = rx at hx hox hst
    generalize hry : ys.getD i [] = ry at hy hoy hst
    have hlx := shL_length hx
    have hly := shL_length hy
    rw [hsz] at hlx hly
    refine seqK fun K4 hK4 => ?_
    rw [awp_block]
    refine seqK fun K5 hK5 => ?_
    refine awp_quiet (by decide) ?_
    simp only [bW, ↓splitB_true, ↓splitB_false, nilCmp, opConv, eq_self, if_true, if_false, Nat.reduceEqDiff, reduceCtorEq, ↓reduceIte, Nat.reduceLT, Nat.reduceAdd, Nat.reduceMul, Nat.reduceSub, Nat.reduceLeDiff, Nat.reduceBEq, Int.reduceEq, Int.reduceNeg, tk, bQ, ntmps134, results134, s153]
    refine ⟨⟨by omega, by omega⟩, ?_⟩
    rw [hrx]
    refine ⟨by omega, ⟨by omega, by omega⟩, ?_⟩
    rw [hry]
    refine ⟨by omega, ?_⟩
    rw [List.take_of_length_le (by omega), List.take_of_length_le (by omega)]
    simp only [borCs_d]
    simp only [bW, ↓splitB_true, ↓splitB_false, nilCmp, opConv, eq_self, if_true, if_false, Nat.reduceEqDiff, reduceCtorEq, ↓reduceIte, Nat.reduceLT, Nat.reduceAdd, Nat.reduceMul, Nat.reduceSub, Nat.reduceLeDiff, Nat.reduceBEq, Int.reduceEq, Int.reduceNeg, tk, bQ, ntmps134, results134, s153]
    refine OkO_eqG hx hy hox hoy ?_
    simp only [bW, ↓splitB_true, ↓splitB_false, nilCmp, opConv, eq_self, if_true, if_false, Nat.reduceEqDiff, reduceCtorEq, ↓reduceIte, Nat.reduceLT, Nat.reduceAdd, Nat.reduceMul, Nat.reduceSub, Nat.reduceLeDiff, Nat.reduceBEq, Int.reduceEq, Int.reduceNeg, tk, bQ, ntmps134, results134, s153]
    refine hK5 _ ?_; clear hK5 K5
    simp only [bW, ↓splitB_true, ↓splitB_false, nilCmp, opConv, eq_self, if_true, if_false, Nat.reduceEqDiff, reduceCtorEq, ↓reduceIte, Nat.reduceLT, Nat.reduceAdd, Nat.reduceMul, Nat.reduceSub, Nat.reduceLeDiff, Nat.reduceBEq, Int.reduceEq, Int.reduceNeg, tk, ntmps134, results134, s153]
    refine splitB_intro (fun hb => ?_) (fun hb => hK4 _ ?_) <;> clear hK4 K4
    · simp only [Bool.not_eq_true'] at hb
      rw [hn, hst, hb]; rfl
    simp only [Bool.not_eq_false'] at hb
    simp only [bW, ↓splitB_true, ↓splitB_false, nilCmp, opConv, eq_self, if_true, if_false, Nat.reduceEqDiff, reduceCtorEq, ↓reduceIte, Nat.reduceLT, Nat.reduceAdd, Nat.reduceMul, Nat.reduceSub, Nat.reduceLeDiff, Nat.reduceBEq, Int.reduceEq, Int.reduceNeg, tk, ntmps134, results134, s153]
    simp (disch := omega) only [wrap64]
    refine ⟨?_, i + 1, ?_, ⟨?_, ?_⟩, ?_⟩
    · simp only [bK, Nat.reduceEqDiff, reduceCtorEq, ↓reduceIte, Nat.reduceBEq, Nat.reduceLeDiff, Nat.reduceAdd, if_true, if_false]
    · simp only [bK, Nat.reduceEqDiff, reduceCtorEq, ↓reduceIte, Nat.reduceBEq, Nat.reduceLeDiff, Nat.reduceAdd, if_true, if_false]
      refine stL_eq ?_ rfl
      simp only [Option.some.injEq, Ret.mk.injEq, List.cons.injEq, Prod.mk.injEq, AV.d.injEq, D.i.injEq, D.b.injEq, D.s.injEq, true_and, and_true]
      omega
    · omega
    · rw [hn, hst, hb]; rfl
    · omega
  · have hge := of_decide_eq_false hb
    have e : i = xs.length := by omega
    have e1 : eqLL xs ys = true := by rw [hn, List.drop_eq_nil_of_le (by omega), List.drop_eq_nil_of_le (by omega)]; rfl
    simp only [bW, ↓splitB_true, ↓splitB_false, nilCmp, opConv, eq_self, if_true, if_false, Nat.reduceEqDiff, reduceCtorEq, ↓reduceIte, Nat.reduceLT, Nat.reduceAdd, Nat.reduceMul, Nat.reduceSub, Nat.reduceLeDiff, Nat.reduceBEq, Int.reduceEq, Int.reduceNeg, tk, ntmps134, results134, s153]
    rw [e1]

theorem f96_ok {S : Nat → Option Summ} (hS : SumOK prog S) (s19 : S 19 = some (.own (eqP [.i]))) (s134 : S 134 = some (.own (eqP ins2))) (ds : List D) (r : D) (hr : eqG lfun ds = some r) : FnOK prog 96 (ds.map .d) { ret := r } := by
  obtain ⟨xs, ys, rfl, h1, h2, h3, h4, rfl⟩ := eqG_inv hr
  clear hr
  obtain ⟨ct1, qt1, rfl, et1, h1⟩ := shL_cons h1
  obtain ⟨ct2, qt2, rfl, et2, h1⟩ := shL_cons h1
  obtain ⟨ct3, qt3, rfl, et3, h1⟩ := shL_cons h1
  obtain ⟨ct4, qt4, rfl, et4, h1⟩ := shL_cons h1
  obtain ⟨ct5, qt5, rfl, et5, h1⟩ := shL_cons h1
  obtain ⟨ct6, qt6, rfl, et6, h1⟩ := shL_cons h1
  obtain rfl := shL_nil h1
  obtain ⟨t1, rfl⟩ := shD_s et1
  obtain ⟨t2, rfl⟩ := shD_s et2
  obtain ⟨zt3, t3, rfl, hzt3, et3⟩ := shD_l2 et3
  obtain rfl : zt3 = 1 := hzt3
  obtain ⟨t4, rfl⟩ := shD_i et4
  obtain ⟨t5, rfl⟩ := shD_i et5
  obtain ⟨zt6, t6, rfl, hzt6, et6⟩ := shD_l2 et6
  obtain rfl : zt6 = 2 := hzt6
  obtain ⟨cu1, qu1, rfl, eu1, h2⟩ := shL_cons h2
  obtain ⟨cu2, qu2, rfl, eu2, h2⟩ := shL_cons h2
  obtain ⟨cu3, qu3, rfl, eu3, h2⟩ := shL_cons h2
  obtain ⟨cu4, qu4, rfl, eu4, h2⟩ := shL_cons h2
  obtain ⟨cu5, qu5, rfl, eu5, h2⟩ := shL_cons h2
  obtain ⟨cu6, qu6, rfl, eu6, h2⟩ := shL_cons h2
  obtain rfl := shL_nil h2
  obtain ⟨u1, rfl⟩ := shD_s eu1
  obtain ⟨u2, rfl⟩ := shD_s eu2
  obtain ⟨zu3, u3, rfl, hzu3, eu3⟩ := shD_l2 eu3
  obtain rfl : zu3 = 1 := hzu3
  obtain ⟨u4, rfl⟩ := shD_i eu4
  obtain ⟨u5, rfl⟩ := shD_i eu5
  obtain ⟨zu6, u6, rfl, hzu6, eu6⟩ := shD_l2 eu6
  obtain rfl : zu6 = 2 := hzu6
  simp only [okL_cons, okL_nil, okD_s, okD_l, okD_i, okD_b, and_true, true_and] at h3 h4
  obtain ⟨kt1, kt2, ⟨kt3, kt3'⟩, kt4, kt5, ⟨kt6, kt6'⟩⟩ := h3
  obtain ⟨ku1, ku2, ⟨ku3, ku3'⟩, ku4, ku5, ⟨ku6, ku6'⟩⟩ := h4
  simp only [eqL_cons', eqL_nil', eqD_s', eqD_l', eqD_i', eqD_b', Bool.and_true]
  refine fnOK_awp (A := ⟨tab, S, .x⟩) tab_ok hS mixed func96 rfl rfl rfl rfl (by show 2 ≤ 37; decide) rfl ?_
  refine seqK fun K hK => ?_
  simp only [bW, ↓splitB_true, ↓splitB_false, nilCmp, opConv, eq_self, if_true, if_false, Nat.reduceEqDiff, reduceCtorEq, ↓reduceIte, Nat.reduceLT, Nat.reduceAdd, Nat.reduceMul, Nat.reduceSub, Nat.reduceLeDiff, Nat.reduceBEq, Int.reduceEq, Int.reduceNeg, tk, ntmps96, results96, s19, s134]
  refine hK _ ?_; clear hK K
  refine seqK fun K hK => ?_
  simp only [bW, ↓splitB_true, ↓splitB_false, nilCmp, opConv, eq_self, if_true, if_false, Nat.reduceEqDiff, reduceCtorEq, ↓reduceIte, Nat.reduceLT, Nat.reduceAdd, Nat.reduceMul, Nat.reduceSub, Nat.reduceLeDiff, Nat.reduceBEq, Int.reduceEq, Int.reduceNeg, tk, ntmps96, results96, s19, s134]
  refine splitB_intro (fun hb => ?_) (fun hb => hK _ ?_) <;> clear hK K
  · simp only [Bool.not_eq_true', decide_eq_false_iff_not] at hb
    simp only [decide_eq_false hb, Bool.false_and, Bool.and_false]
  simp only [Bool.not_eq_false', decide_eq_true_eq] at hb
  simp only [decide_eq_true hb, Bool.true_and]
  refine seqK fun K hK => ?_
  simp only [bW, ↓splitB_true, ↓splitB_false, nilCmp, opConv, eq_self, if_true, if_false, Nat.reduceEqDiff, reduceCtorEq, ↓reduceIte, Nat.reduceLT, Nat.reduceAdd, Nat.reduceMul, Nat.reduceSub, Nat.reduceLeDiff, Nat.reduceBEq, Int.reduceEq, Int.reduceNeg, tk, ntmps96, results96, s19, s134]
  refine splitB_intro (fun hb => ?_) (fun hb => hK _ ?_) <;> clear hK K
  · simp only [Bool.not_eq_true', decide_eq_false_iff_not] at hb
    simp only [decide_eq_false hb, Bool.false_and, Bool.and_false]
  simp only [Bool.not_eq_false', decide_eq_true_eq] at hb
  simp only [decide_eq_true hb, Bool.true_and]
  refine seqK fun K hK => ?_
  refine seqK fun K2 hK2 => ?_
  simp only [bW, ↓splitB_true, ↓splitB_false, nilCmp, opConv, eq_self, if_true, if_false, Nat.reduceEqDiff, reduceCtorEq, ↓reduceIte, Nat.reduceLT, Nat.reduceAdd, Nat.reduceMul, Nat.reduceSub, Nat.reduceLeDiff, Nat.reduceBEq, Int.reduceEq, Int.reduceNeg, tk, ntmps96, results96, s19, s134]
  refine OkO_eqP rfl rfl et3 eu3 kt3' ku3' kt3 ku3 ?_
  simp only [bW, ↓splitB_true, ↓splitB_false, nilCmp, opConv, eq_self, if_true, if_false, Nat.reduceEqDiff, reduceCtorEq, ↓reduceIte, Nat.reduceLT, Nat.reduceAdd, Nat.reduceMul, Nat.reduceSub, Nat.reduceLeDiff, Nat.reduceBEq, Int.reduceEq, Int.reduceNeg, tk, ntmps96, results96, s19, s134]
  refine hK2 _ ?_; clear hK2 K2
  simp only [bW, ↓splitB_true, ↓splitB_false, nilCmp, opConv, eq_self, if_true, if_false, Nat.reduceEqDiff, reduceCtorEq, ↓reduceIte, Nat.reduceLT, Nat.reduceAdd, Nat.reduceMul, Nat.reduceSub, Nat.reduceLeDiff, Nat.reduceBEq, Int.reduceEq, Int.reduceNeg, tk, ntmps96, results96, s19, s134]
  refine splitB_intro (fun hb => ?_) (fun hb => hK _ ?_) <;> clear hK K
  · simp only [Bool.not_eq_true'] at hb
    simp only [hb, Bool.false_and, Bool.and_false]
  simp only [Bool.not_eq_false'] at hb
  simp only [hb, Bool.true_and]
  refine seqK fun K hK => ?_
  simp only [bW, ↓splitB_true, ↓splitB_false, nilCmp, opConv, eq_self, if_true, if_false, Nat.reduceEqDiff, reduceCtorEq, ↓reduceIte, Nat.reduceLT, Nat.reduceAdd, Nat.reduceMul, Nat.reduceSub, Nat.reduceLeDiff, Nat.reduceBEq, Int.reduceEq, Int.reduceNeg, tk, ntmps96, results96, s19, s134]
  refine splitB_intro (fun hb => ?_) (fun hb => hK _ ?_) <;> clear hK K
  · simp only [Bool.not_eq_true', decide_eq_false_iff_not] at hb
    simp only [decide_eq_false hb, Bool.false_and, Bool.and_false]
  simp only [Bool.not_eq_false', decide_eq_true_eq] at hb
  simp only [decide_eq_true hb, Bool.true_and]
  refine seqK fun K hK => ?_
  simp only [bW, ↓splitB_true, ↓splitB_false, nilCmp, opConv, eq_self, if_true, if_false, Nat.reduceEqDiff, reduceCtorEq, ↓reduceIte, Nat.reduceLT, Nat.reduceAdd, Nat.reduceMul, Nat.reduceSub, Nat.reduceLeDiff, Nat.reduceBEq, Int.reduceEq, Int.reduceNeg, tk, ntmps96, results96, s19, s134]
  refine splitB_intro (fun hb => ?_) (fun hb => hK _ ?_) <;> clear hK K
  · simp only [Bool.not_eq_true', decide_eq_false_iff_not] at hb
    simp only [decide_eq_false hb, Bool.false_and, Bool.and_false]
  simp only [Bool.not_eq_false', decide_eq_true_eq] at hb
  simp only [decide_eq_true hb, Bool.true_and]
  refine seqK fun K hK => ?_
  refine seqK fun K2 hK2 => ?_
  simp only [bW, ↓splitB_true, ↓splitB_false, nilCmp, opConv, eq_self, if_true, if_false, Nat.reduceEqDiff, reduceCtorEq, ↓reduceIte, Nat.reduceLT, Nat.reduceAdd, Nat.reduceMul, Nat.reduceSub, Nat.reduceLeDiff, Nat.reduceBEq, Int.reduceEq, Int.reduceNeg, tk, ntmps96, results96, s19, s134]
  refine OkO_eqP rfl rfl et6 eu6 kt6' ku6' kt6 ku6 ?_
  simp only [bW, ↓splitB_true, ↓splitB_false, nilCmp, opConv, eq_self, if_true, if_false, Nat.reduceEqDiff, reduceCtorEq, ↓reduceIte, Nat.reduceLT, Nat.reduceAdd, Nat.reduceMul, Nat.reduceSub, Nat.reduceLeDiff, Nat.reduceBEq, Int.reduceEq, Int.reduceNeg, tk, ntmps96, results96, s19, s134]
  refine hK2 _ ?_; clear hK2 K2
  simp only [bW, ↓splitB_true, ↓splitB_false, nilCmp, opConv, eq_self, if_true, if_false, Nat.reduceEqDiff, reduceCtorEq, ↓reduceIte, Nat.reduceLT, Nat.reduceAdd, Nat.reduceMul, Nat.reduceSub, Nat.reduceLeDiff, Nat.reduceBEq, Int.reduceEq, Int.reduceNeg, tk, ntmps96, results96, s19, s134]
  refine splitB_intro (fun hb => ?_) (fun hb => hK _ ?_) <;> clear hK K
  · simp only [Bool.not_eq_true'] at hb
    simp only [hb, Bool.false_and, Bool.and_false]
  simp only [Bool.not_eq_false'] at hb
  simp only [hb, Bool.true_and]
  simp only [bW, ↓splitB_true, ↓splitB_false, nilCmp, opConv, eq_self, if_true, if_false, Nat.reduceEqDiff, reduceCtorEq, ↓reduceIte, Nat.reduceLT, Nat.reduceAdd, Nat.reduceMul, Nat.reduceSub, Nat.reduceLeDiff, Nat.reduceBEq, Int.reduceEq, Int.reduceNeg, tk, ntmps96, results96, s19, s134]
  try rfl

theorem f55_ok {S : Nat → Option Summ} (hS : SumOK prog S) (s96 : S 96 = some (.own (eqG lfun))) (ds : List D) (r : D) (hr : eqP lfun ds = some r) : FnOK prog 55 (ds.map .d) { ret := r } := by
  obtain ⟨xs, ys, rfl, h1, h2, h3, h4, h5, h6, rfl⟩ := eqP_inv hr
  clear hr
  have hsz : (lfun : List Sh).length = 6 := rfl
  rw [hsz]
  refine fnOK_awp (A := ⟨tab, S, .x⟩) tab_ok hS mixed func55 rfl rfl rfl rfl (by show 2 ≤ 27; decide) rfl ?_
  refine seqK fun K hK => ?_
  simp only [bW, ↓splitB_true, ↓splitB_false, nilCmp, opConv, eq_self, if_true, if_false, Nat.reduceEqDiff, reduceCtorEq, ↓reduceIte, Nat.reduceLT, Nat.reduceAdd, Nat.reduceMul, Nat.reduceSub, Nat.reduceLeDiff, Nat.reduceBEq, Int.reduceEq, Int.reduceNeg, tk, ntmps55, results55, s96]
  refine hK _ ?_; clear hK K
  refine seqK fun K hK => ?_
  simp only [bW, ↓splitB_true, ↓splitB_false, nilCmp, opConv, eq_self, if_true, if_false, Nat.reduceEqDiff, reduceCtorEq, ↓reduceIte, Nat.reduceLT, Nat.reduceAdd, Nat.reduceMul, Nat.reduceSub, Nat.reduceLeDiff, Nat.reduceBEq, Int.reduceEq, Int.reduceNeg, tk, ntmps55, results55, s96]
  refine splitB_intro (fun hb => ?_) (fun hb => hK _ ?_) <;> clear hK K
  · simp only [Bool.not_eq_true', decide_eq_false_iff_not] at hb
    rw [eqLL_len (by omega)]
  simp only [Bool.not_eq_false', decide_eq_true_eq] at hb
  have hl : xs.length = ys.length := by omega
  clear hb
  refine seqK fun K hK => ?_
  refine seqK fun K2 hK2 => ?_
  simp only [bW, ↓splitB_true, ↓splitB_false, nilCmp, opConv, eq_self, if_true, if_false, Nat.reduceEqDiff, reduceCtorEq, ↓reduceIte, Nat.reduceLT, Nat.reduceAdd, Nat.reduceMul, Nat.reduceSub, Nat.reduceLeDiff, Nat.reduceBEq, Int.reduceEq, Int.reduceNeg, tk, ntmps55, results55, s96]
  refine hK2 _ ?_; clear hK2 K2
  rw [awp_block]
  refine loopW [0, 1, 5] (fun i : Nat => stL 27 [(0, .d (.l 6 xs)), (1, .d (.l 6 ys)), (5, .d (.i .i64 i))] []) (fun i => i ≤ xs.length ∧ eqLL xs ys = eqLL (xs.drop i) (ys.drop i)) (fun i => xs.length - i) ?_ ?_
  · refine ⟨?_, 0, ?_, ?_, ?_⟩
    · simp only [bK, Nat.reduceEqDiff, reduceCtorEq, ↓reduceIte, Nat.reduceBEq, Nat.reduceLeDiff, Nat.reduceAdd, if_true, if_false]
    · simp only [bK, Nat.reduceEqDiff, reduceCtorEq, ↓reduceIte, Nat.reduceBEq, Nat.reduceLeDiff, Nat.reduceAdd, if_true, if_false]
      refine stL_eq ?_ rfl
      simp only [Option.some.injEq, Ret.mk.injEq, List.cons.injEq, Prod.mk.injEq, AV.d.injEq, D.i.injEq, D.b.injEq, D.s.injEq, true_and, and_true]
      try rfl
    · omega
    · simp
  rintro i ⟨hi, hn⟩
  refine seqK fun K3 hK3 => ?_
  simp only [bW, ↓splitB_true, ↓splitB_false, nilCmp, opConv, eq_self, if_true, if_false, Nat.reduceEqDiff, reduceCtorEq, ↓reduceIte, Nat.reduceLT, Nat.reduceAdd, Nat.reduceMul, Nat.reduceSub, Nat.reduceLeDiff, Nat.reduceBEq, Int.reduceEq, Int.reduceNeg, tk, ntmps55, results55, s96]
  refine splitB_intro (fun hb => hK3 _ ?_) (fun hb => hK _ ?_) <;> clear hK3 K3
  · have hlt := of_decide_eq_true hb
    clear hb
    have hlt : i < xs.length := by omega
    have hlt2 : i < ys.length := by omega
    have hx := shLL_get h1 hlt
    have hy := shLL_get h2 hlt2
    have hox := okLL_get h3 hlt
    have hoy := okLL_get h4 hlt2
    have hst := eqLL_step hl hlt
    generalize hrx : xs.getD i [] = rx at hx hox hst
    generalize hry : ys.getD i [] = ry at hy hoy hst
    have hlx := shL_length hx
    have hly := shL_length hy
    rw [hsz] at hlx hly
    refine seqK fun K4 hK4 => ?_
    rw [awp_block]
    refine seqK fun K5 hK5 => ?_
    refine awp_quiet (by decide) ?_
    simp only [bW, ↓splitB_true, ↓splitB_false, nilCmp, opConv, eq_self, if_true, if_false, Nat.reduceEqDiff, reduceCtorEq, ↓reduceIte, Nat.reduceLT, Nat.reduceAdd, Nat.reduceMul, Nat.reduceSub, Nat.reduceLeDiff, Nat.reduceBEq, Int.reduceEq, Int.reduceNeg, tk, bQ, ntmps55, results55, s96]
    refine ⟨⟨by omega, by omega⟩, ?_⟩
    rw [hrx]
    refine ⟨by omega, ⟨by omega, by omega⟩, ?_⟩
    rw [hry]
    refine ⟨by omega, ?_⟩
    rw [List.take_of_length_le (by omega), List.take_of_length_le (by omega)]
    simp only [borCs_d]
    simp only [bW, ↓splitB_true, ↓splitB_false, nilCmp, opConv, eq_self, if_true, if_false, Nat.reduceEqDiff, reduceCtorEq, ↓reduceIte, Nat.reduceLT, Nat.reduceAdd, Nat.reduceMul, Nat.reduceSub, Nat.reduceLeDiff, Nat.reduceBEq, Int.reduceEq, Int.reduceNeg, tk, bQ, ntmps55, results55, s96]
    refine OkO_eqG hx hy hox hoy ?_
    simp only [bW, ↓splitB_true, ↓splitB_false, nilCmp, opConv, eq_self, if_true, if_false, Nat.reduceEqDiff, reduceCtorEq, ↓reduceIte, Nat.reduceLT, Nat.reduceAdd, Nat.reduceMul, Nat.reduceSub, Nat.reduceLeDiff, Nat.reduceBEq, Int.reduceEq, Int.reduceNeg, tk, bQ, ntmps55, results55, s96]
    refine hK5 _ ?_; clear hK5 K5
    simp only [bW, ↓splitB_true, ↓splitB_false, nilCmp, opConv, eq_self, if_true, if_false, Nat.reduceEqDiff, reduceCtorEq, ↓reduceIte, Nat.reduceLT, Nat.reduceAdd, Nat.reduceMul, Nat.reduceSub, Nat.reduceLeDiff, Nat.reduceBEq, Int.reduceEq, Int.reduceNeg, tk, ntmps55, results55, s96]
    refine splitB_intro (fun hb => ?_) (fun hb => hK4 _ ?_) <;> clear hK4 K4
    · simp only [Bool.not_eq_true'] at hb
      rw [hn, hst, hb]; rfl
    simp only [Bool.not_eq_false'] at hb
    simp only [bW, ↓splitB_true, ↓splitB_false, nilCmp, opConv, eq_self, if_true, if_false, Nat.reduceEqDiff, reduceCtorEq, ↓reduceIte, Nat.reduceLT, Nat.reduceAdd, Nat.reduceMul, Nat.reduceSub, Nat.reduceLeDiff, Nat.reduceBEq, Int.reduceEq, Int.reduceNeg, tk, ntmps55, results55, s96]
    simp (disch := omega) only [wrap64]
    refine ⟨?_, i + 1, ?_, ⟨?_, ?_⟩, ?_⟩
    · simp only [bK, Nat.reduceEqDiff, reduceCtorEq, ↓reduceIte, Nat.reduceBEq, Nat.reduceLeDiff, Nat.reduceAdd, if_true, if_false]
    · simp only [bK, Nat.reduceEqDiff, reduceCtorEq, ↓reduceIte, Nat.reduceBEq, Nat.reduceLeDiff, Nat.reduceAdd, if_true, if_false]
      refine stL_eq ?_ rfl
      simp only [Option.some.injEq, Ret.mk.injEq, List.cons.injEq, Prod.mk.injEq, AV.d.injEq, D.i.injEq, D.b.injEq, D.s.injEq, true_and, and_true]
      omega
    · omega
    · rw [hn, hst, hb]; rfl
    · omega
  · have hge := of_decide_eq_false hb
    have e : i = xs.length := by omega
    have e1 : eqLL xs ys = true := by rw [hn, List.drop_eq_nil_of_le (by omega), List.drop_eq_nil_of_le (by omega)]; rfl
    simp only [bW, ↓splitB_true, ↓splitB_false, nilCmp, opConv, eq_self, if_true, if_false, Nat.reduceEqDiff, reduceCtorEq, ↓reduceIte, Nat.reduceLT, Nat.reduceAdd, Nat.reduceMul, Nat.reduceSub, Nat.reduceLeDiff, Nat.reduceBEq, Int.reduceEq, Int.reduceNeg, tk, ntmps55, results55, s96]
    rw [e1]

theorem f20_ok {S : Nat → Option Summ} (hS : SumOK prog S) (s19 : S 19 = some (.own (eqP [.i]))) (s55 : S 55 = some (.own (eqP lfun))) (ds : List D) (r : D) (hr : eqG limg ds = some r) : FnOK prog 20 (ds.map .d) { ret := r } := by
  obtain ⟨xs, ys, rfl, h1, h2, h3, h4, rfl⟩ := eqG_inv hr
  clear hr
  obtain ⟨ct1, qt1, rfl, et1, h1⟩ := shL_cons h1
  obtain ⟨ct2, qt2, rfl, et2, h1⟩ := shL_cons h1
  obtain rfl := shL_nil h1
  obtain ⟨zt1, t1, rfl, hzt1, et1⟩ := shD_l2 et1
  obtain rfl : zt1 = 6 := hzt1
  obtain ⟨zt2, t2, rfl, hzt2, et2⟩ := shD_l2 et2
  obtain rfl : zt2 = 1 := hzt2
  obtain ⟨cu1, qu1, rfl, eu1, h2⟩ := shL_cons h2
  obtain ⟨cu2, qu2, rfl, eu2, h2⟩ := shL_cons h2
  obtain rfl := shL_nil h2
  obtain ⟨zu1, u1, rfl, hzu1, eu1⟩ := shD_l2 eu1
  obtain rfl : zu1 = 6 := hzu1
  obtain ⟨zu2, u2, rfl, hzu2, eu2⟩ := shD_l2 eu2
  obtain rfl : zu2 = 1 := hzu2
  simp only [okL_cons, okL_nil, okD_s, okD_l, okD_i, okD_b, and_true, true_and] at h3 h4
  obtain ⟨⟨kt1, kt1'⟩, ⟨kt2, kt2'⟩⟩ := h3
  obtain ⟨⟨ku1, ku1'⟩, ⟨ku2, ku2'⟩⟩ := h4
  simp only [eqL_cons', eqL_nil', eqD_s', eqD_l', eqD_i', eqD_b', Bool.and_true]
  refine fnOK_awp (A := ⟨tab, S, .x⟩) tab_ok hS mixed func20 rfl rfl rfl rfl (by show 2 ≤ 17; decide) rfl ?_
  refine seqK fun K hK => ?_
  simp only [bW, ↓splitB_true, ↓splitB_false, nilCmp, opConv, eq_self, if_true, if_false, Nat.reduceEqDiff, reduceCtorEq, ↓reduceIte, Nat.reduceLT, Nat.reduceAdd, Nat.reduceMul, Nat.reduceSub, Nat.reduceLeDiff, Nat.reduceBEq, Int.reduceEq, Int.reduceNeg, tk, ntmps20, results20, s19, s55]
  refine hK _ ?_; clear hK K
  refine seqK fun K hK => ?_
  refine seqK fun K2 hK2 => ?_
  simp only [bW, ↓splitB_true, ↓splitB_false, nilCmp, opConv, eq_self, if_true, if_false, Nat.reduceEqDiff, reduceCtorEq, ↓reduceIte, Nat.reduceLT, Nat.reduceAdd, Nat.reduceMul, Nat.reduceSub, Nat.reduceLeDiff, Nat.reduceBEq, Int.reduceEq, Int.reduceNeg, tk, ntmps20, results20, s19, s55]
  refine OkO_eqP rfl rfl et1 eu1 kt1' ku1' kt1 ku1 ?_
  simp only [bW, ↓splitB_true, ↓splitB_false, nilCmp, opConv, eq_self, if_true, if_false, Nat.reduceEqDiff, reduceCtorEq, ↓reduceIte, Nat.reduceLT, Nat.reduceAdd, Nat.reduceMul, Nat.reduceSub, Nat.reduceLeDiff, Nat.reduceBEq, Int.reduceEq, Int.reduceNeg, tk, ntmps20, results20, s19, s55]
  refine hK2 _ ?_; clear hK2 K2
  simp only [bW, ↓splitB_true, ↓splitB_false, nilCmp, opConv, eq_self, if_true, if_false, Nat.reduceEqDiff, reduceCtorEq, ↓reduceIte, Nat.reduceLT, Nat.reduceAdd, Nat.reduceMul, Nat.reduceSub, Nat.reduceLeDiff, Nat.reduceBEq, Int.reduceEq, Int.reduceNeg, tk, ntmps20, results20, s19, s55]
  refine splitB_intro (fun hb => ?_) (fun hb => hK _ ?_) <;> clear hK K
  · simp only [Bool.not_eq_true'] at hb
    simp only [hb, Bool.false_and, Bool.and_false]
  simp only [Bool.not_eq_false'] at hb
  simp only [hb, Bool.true_and]
  refine seqK fun K hK => ?_
  refine seqK fun K2 hK2 => ?_
  simp only [bW, ↓splitB_true, ↓splitB_false, nilCmp, opConv, eq_self, if_true, if_false, Nat.reduceEqDiff, reduceCtorEq, ↓reduceIte, Nat.reduceLT, Nat.reduceAdd, Nat.reduceMul, Nat.reduceSub, Nat.reduceLeDiff, Nat.reduceBEq, Int.reduceEq, Int.reduceNeg, tk, ntmps20, results20, s19, s55]
  refine OkO_eqP rfl rfl et2 eu2 kt2' ku2' kt2 ku2 ?_
  simp only [bW, ↓splitB_true, ↓splitB_false, nilCmp, opConv, eq_self, if_true, if_false, Nat.reduceEqDiff, reduceCtorEq, ↓reduceIte, Nat.reduceLT, Nat.reduceAdd, Nat.reduceMul, Nat.reduceSub, Nat.reduceLeDiff, Nat.reduceBEq, Int.reduceEq, Int.reduceNeg, tk, ntmps20, results20, s19, s55]
  refine hK2 _ ?_; clear hK2 K2
  simp only [bW, ↓splitB_true, ↓splitB_false, nilCmp, opConv, eq_self, if_true, if_false, Nat.reduceEqDiff, reduceCtorEq, ↓reduceIte, Nat.reduceLT, Nat.reduceAdd, Nat.reduceMul, Nat.reduceSub, Nat.reduceLeDiff, Nat.reduceBEq, Int.reduceEq, Int.reduceNeg, tk, ntmps20, results20, s19, s55]
  refine splitB_intro (fun hb => ?_) (fun hb => hK _ ?_) <;> clear hK K
  · simp only [Bool.not_eq_true'] at hb
    simp only [hb, Bool.false_and, Bool.and_false]
  simp only [Bool.not_eq_false'] at hb
  simp only [hb, Bool.true_and]
  simp only [bW, ↓splitB_true, ↓splitB_false, nilCmp, opConv, eq_self, if_true, if_false, Nat.reduceEqDiff, reduceCtorEq, ↓reduceIte, Nat.reduceLT, Nat.reduceAdd, Nat.reduceMul, Nat.reduceSub, Nat.reduceLeDiff, Nat.reduceBEq, Int.reduceEq, Int.reduceNeg, tk, ntmps20, results20, s19, s55]
  try rfl

end Go.Fs.Sr

set_option linter.unusedVariables false
set_option linter.unusedSimpArgs false
set_option maxRecDepth 20000
set_option maxHeartbeats 2000000
namespace Go.Fs.Sr
open Go.Proofs.Try

theorem f44_ok {S : Nat → Option Summ} (hS : SumOK prog S) (ds : List D) (r : D) (hr : mtP ds = some r) : FnOK prog 44 (ds.map .d) { ret := r } := by
  obtain ⟨k, rfl, h1, rfl⟩ := mtP_inv hr
  clear hr
  refine fnOK_awp (A := ⟨tab, S, .x⟩) tab_ok hS mixed func44 rfl rfl rfl rfl (by show 1 ≤ 20; decide) rfl ?_
  refine seqK fun K hK => ?_
  simp only [bW, ↓splitB_true, ↓splitB_false, nilCmp, opConv, eq_self, if_true, if_false, Nat.reduceEqDiff, reduceCtorEq, ↓reduceIte, Nat.reduceLT, Nat.reduceAdd, Nat.reduceMul, Nat.reduceSub, Nat.reduceLeDiff, Nat.reduceBEq, Int.reduceEq, Int.reduceNeg, tk, ntmps44, results44, opB2S, byteL]
  refine hK _ ?_; clear hK K
  refine seqK fun K hK => ?_
  simp only [bW, ↓splitB_true, ↓splitB_false, nilCmp, opConv, eq_self, if_true, if_false, Nat.reduceEqDiff, reduceCtorEq, ↓reduceIte, Nat.reduceLT, Nat.reduceAdd, Nat.reduceMul, Nat.reduceSub, Nat.reduceLeDiff, Nat.reduceBEq, Int.reduceEq, Int.reduceNeg, tk, ntmps44, results44, opB2S, byteL]
  refine splitB_intro (fun hb => ?_) (fun hb => hK _ ?_) <;> clear hK K
  · have hb := of_decide_eq_true hb
    rw [mtext_neg hb]
  have hb := of_decide_eq_false hb
  refine seqK fun K hK => ?_
  simp only [bW, ↓splitB_true, ↓splitB_false, nilCmp, opConv, eq_self, if_true, if_false, Nat.reduceEqDiff, reduceCtorEq, ↓reduceIte, Nat.reduceLT, Nat.reduceAdd, Nat.reduceMul, Nat.reduceSub, Nat.reduceLeDiff, Nat.reduceBEq, Int.reduceEq, Int.reduceNeg, tk, ntmps44, results44, opB2S, byteL]
  refine hK _ ?_; clear hK K
  refine seqK fun K hK => ?_
  rw [awp_block]
  refine loopW [0, 3] (fun x : Nat × ByteArray => stL 20 [(0, .d (.i .i64 x.1)), (3, .d (.s x.2))] []) (fun x => mtGo k.toNat .empty = mtGo x.1 x.2 ∧ x.2.size + x.1 ≤ k.toNat) (fun x => x.1) ?_ ?_
  · refine ⟨?_, (k.toNat, .empty), ?_, rfl, ?_⟩
    · simp only [bK, Nat.reduceEqDiff, reduceCtorEq, ↓reduceIte, Nat.reduceBEq, Nat.reduceLeDiff, Nat.reduceAdd, if_true, if_false]
    · simp only [bK, Nat.reduceEqDiff, reduceCtorEq, ↓reduceIte, Nat.reduceBEq, Nat.reduceLeDiff, Nat.reduceAdd, if_true, if_false]
      refine stL_eq ?_ rfl
      simp only [Option.some.injEq, Ret.mk.injEq, List.cons.injEq, Prod.mk.injEq, AV.d.injEq, D.i.injEq, D.b.injEq, D.s.injEq, true_and, and_true]
      exact ⟨by omega, rfl⟩
    · show (0 : Nat) + _ ≤ _
      omega
  rintro ⟨m, out⟩ ⟨hm, hs⟩
  simp only at hm hs
  refine seqK fun K3 hK3 => ?_
  simp only [bW, ↓splitB_true, ↓splitB_false, nilCmp, opConv, eq_self, if_true, if_false, Nat.reduceEqDiff, reduceCtorEq, ↓reduceIte, Nat.reduceLT, Nat.reduceAdd, Nat.reduceMul, Nat.reduceSub, Nat.reduceLeDiff, Nat.reduceBEq, Int.reduceEq, Int.reduceNeg, tk, ntmps44, results44, opB2S, byteL]
  refine splitB_intro (fun hb => hK3 _ ?_) (fun hb => hK _ ?_) <;> clear hK3 K3
  · have hlt := of_decide_eq_true hb
    clear hb
    have hlt : 0 < m := by omega
    simp only [bW, ↓splitB_true, ↓splitB_false, nilCmp, opConv, eq_self, if_true, if_false, Nat.reduceEqDiff, reduceCtorEq, ↓reduceIte, Nat.reduceLT, Nat.reduceAdd, Nat.reduceMul, Nat.reduceSub, Nat.reduceLeDiff, Nat.reduceBEq, Int.reduceEq, Int.reduceNeg, tk, ntmps44, results44, opB2S, byteL]
    simp only [tmod10, tdiv10]
    rw [wrap64 (by omega) (by omega), wrapu8 (by omega) (by omega)]
    refine ⟨by rw [bytesS_one]; omega, ?_⟩
    have e := mtGo_pos (out := out) hlt
    try simp (disch := omega) only [wrap64]
    refine ⟨?_, (m / 10, bytesS [48 + (m : Int) % 10] ++ out), ?_, ⟨?_, ?_⟩, ?_⟩
    · simp only [bK, Nat.reduceEqDiff, reduceCtorEq, ↓reduceIte, Nat.reduceBEq, Nat.reduceLeDiff, Nat.reduceAdd, if_true, if_false]
    · simp only [bK, Nat.reduceEqDiff, reduceCtorEq, ↓reduceIte, Nat.reduceBEq, Nat.reduceLeDiff, Nat.reduceAdd, if_true, if_false]
      try rfl
    · rw [hm, e]
    · show (_ ++ out).size + m / 10 ≤ _
      rw [ByteArray.size_append, bytesS_one]
      omega
    · show m / 10 < m
      omega
  · have hge := of_decide_eq_false hb
    have e : m = 0 := by omega
    subst e
    simp only [bW, ↓splitB_true, ↓splitB_false, nilCmp, opConv, eq_self, if_true, if_false, Nat.reduceEqDiff, reduceCtorEq, ↓reduceIte, Nat.reduceLT, Nat.reduceAdd, Nat.reduceMul, Nat.reduceSub, Nat.reduceLeDiff, Nat.reduceBEq, Int.reduceEq, Int.reduceNeg, tk, ntmps44, results44, opB2S, byteL]
    refine ⟨?_, ?_⟩
    · show 1 + out.size ≤ _
      omega
    · rw [mtext_pos (by omega), hm, mtGo_zero]

theorem f22_ok {S : Nat → Option Summ} (hS : SumOK prog S) (x : D) (ds : List D) (r : D × D) (hr : markP [.i] x ds = some r) : FnOK prog 22 (.io x :: ds.map .d) { ret := r.1, io := some r.2 } := by
  obtain ⟨xs, k, rfl, rfl, h1, h2, h2', h3, h4, rfl⟩ := markP_inv hr
  clear hr
  have hsz : ([.i] : List Sh).length = 1 := rfl
  rw [hsz]
  refine fnOK_awp (A := ⟨tab, S, .r 900000⟩) tab_ok hS mixed func22 rfl rfl rfl rfl (by show 2 ≤ 19; decide) rfl ?_
  refine seqK fun K hK => ?_
  simp only [bW, ↓splitB_true, ↓splitB_false, nilCmp, opConv, eq_self, if_true, if_false, Nat.reduceEqDiff, reduceCtorEq, ↓reduceIte, Nat.reduceLT, Nat.reduceAdd, Nat.reduceMul, Nat.reduceSub, Nat.reduceLeDiff, Nat.reduceBEq, Int.reduceEq, Int.reduceNeg, tk, ntmps22, results22]
  refine hK _ ?_; clear hK K
  refine seqK fun K hK => ?_
  refine seqK fun K2 hK2 => ?_
  simp only [bW, ↓splitB_true, ↓splitB_false, nilCmp, opConv, eq_self, if_true, if_false, Nat.reduceEqDiff, reduceCtorEq, ↓reduceIte, Nat.reduceLT, Nat.reduceAdd, Nat.reduceMul, Nat.reduceSub, Nat.reduceLeDiff, Nat.reduceBEq, Int.reduceEq, Int.reduceNeg, tk, ntmps22, results22]
  refine hK2 _ ?_; clear hK2 K2
  rw [awp_block]
  refine loopW [0, 1, 5] (fun x : Nat × Nat => stL 19 [(0, .r 900000), (1, .d (.i .i64 (markLL (xs.take x.1) k).2)), (5, .d (.i .i64 x.1))] [(900000, some (.row 1 (half xs k x.1) true false x.2))]) (fun x => x.1 ≤ xs.length) (fun x => xs.length - x.1) ?_ ?_
  · refine ⟨?_, (0, 0), ?_, ?_⟩
    · simp only [bK, Nat.reduceEqDiff, reduceCtorEq, ↓reduceIte, Nat.reduceBEq, Nat.reduceLeDiff, Nat.reduceAdd, if_true, if_false]
    · simp only [bK, Nat.reduceEqDiff, reduceCtorEq, ↓reduceIte, Nat.reduceBEq, Nat.reduceLeDiff, Nat.reduceAdd, if_true, if_false]
      refine stL_eq ?_ ?_
      · simp only [Option.some.injEq, Ret.mk.injEq, List.cons.injEq, Prod.mk.injEq, AV.d.injEq, D.i.injEq, D.b.injEq, D.s.injEq, true_and, and_true]
        exact ⟨by simp only [List.take_zero, markLL], rfl⟩
      · simp only [half_zero]
    · show 0 ≤ _
      omega
  rintro ⟨i, ve⟩ hi
  simp only at hi
  have hlen := half_len (k := k) hi
  have hlv := half_lv (k := k) hi
  have hkk := markLL_k (xs.take i) k
  refine seqK fun K3 hK3 => ?_
  simp only [bW, ↓splitB_true, ↓splitB_false, nilCmp, opConv, eq_self, if_true, if_false, Nat.reduceEqDiff, reduceCtorEq, ↓reduceIte, Nat.reduceLT, Nat.reduceAdd, Nat.reduceMul, Nat.reduceSub, Nat.reduceLeDiff, Nat.reduceBEq, Int.reduceEq, Int.reduceNeg, tk, ntmps22, results22]
  refine splitB_intro (fun hb => hK3 _ ?_) (fun hb => hK _ ?_) <;> clear hK3 K3
  · have hlt := of_decide_eq_true hb
    clear hb
    have hlt : i < xs.length := by omega
    have hrow := shLL_get h1 hlt
    have hln := lnLL_get h2' hlt
    have hget := half_get (k := k) hlt
    have hst := half_set (k := k) hlt
    have hk2 := half_k (k := k) hlt
    have hls := lvLL_step hlt
    generalize hrw : xs.getD i [] = row at hrow hln hget hst hk2 hls
    generalize hL : half xs k i = L at hlen hget hst
    generalize hkv : (markLL (xs.take i) k).2 = kk at hlv hkk hst hk2
    have hltL : i < L.length := by omega
    obtain ⟨ct1, qt1, rfl, et1, hrow⟩ := shL_cons hrow
    obtain rfl := shL_nil hrow
    obtain ⟨t1, rfl⟩ := shD_i et1
    simp only [lnL_cons, lnL_nil, lnD_s, lnD_i, lnD_b, lnD_l, and_true, true_and] at hln
    simp only [markL, markC] at hst hk2
    simp only [lvL, lv] at hls
    refine seqK fun K4 hK4 => ?_
    rw [awp_block]
    refine seqK fun K5 hK5 => ?_
    simp only [bW, ↓splitB_true, ↓splitB_false, nilCmp, opConv, eq_self, if_true, if_false, Nat.reduceEqDiff, reduceCtorEq, ↓reduceIte, Nat.reduceLT, Nat.reduceAdd, Nat.reduceMul, Nat.reduceSub, Nat.reduceLeDiff, Nat.reduceBEq, Int.reduceEq, Int.reduceNeg, tk, ntmps22, results22, setCell, List.set_cons_zero, List.set_cons_succ, len_set2, set_set2, hget, getD_set2 hltL]
    refine ⟨⟨by omega, by omega⟩, ?_⟩
    try simp only [bW, ↓splitB_true, ↓splitB_false, nilCmp, opConv, eq_self, if_true, if_false, Nat.reduceEqDiff, reduceCtorEq, ↓reduceIte, Nat.reduceLT, Nat.reduceAdd, Nat.reduceMul, Nat.reduceSub, Nat.reduceLeDiff, Nat.reduceBEq, Int.reduceEq, Int.reduceNeg, tk, ntmps22, results22, setCell, List.set_cons_zero, List.set_cons_succ, len_set2, set_set2, hget, getD_set2 hltL]
    refine hK5 _ ?_; clear hK5 K5
    simp only [bW, ↓splitB_true, ↓splitB_false, nilCmp, opConv, eq_self, if_true, if_false, Nat.reduceEqDiff, reduceCtorEq, ↓reduceIte, Nat.reduceLT, Nat.reduceAdd, Nat.reduceMul, Nat.reduceSub, Nat.reduceLeDiff, Nat.reduceBEq, Int.reduceEq, Int.reduceNeg, tk, ntmps22, results22, setCell, List.set_cons_zero, List.set_cons_succ, len_set2, set_set2, hget, getD_set2 hltL]
    simp (disch := omega) only [wrap64]
    refine hK4 _ ?_; clear hK4 K4
    simp only [bW, ↓splitB_true, ↓splitB_false, nilCmp, opConv, eq_self, if_true, if_false, Nat.reduceEqDiff, reduceCtorEq, ↓reduceIte, Nat.reduceLT, Nat.reduceAdd, Nat.reduceMul, Nat.reduceSub, Nat.reduceLeDiff, Nat.reduceBEq, Int.reduceEq, Int.reduceNeg, tk, ntmps22, results22]
    try simp (disch := omega) only [wrap64]
    refine ⟨?_, (i + 1, ve + 1), ?_, ?_, ?_⟩
    · simp only [bK, Nat.reduceEqDiff, reduceCtorEq, ↓reduceIte, Nat.reduceBEq, Nat.reduceLeDiff, Nat.reduceAdd, if_true, if_false]
    · simp only [bK, Nat.reduceEqDiff, reduceCtorEq, ↓reduceIte, Nat.reduceBEq, Nat.reduceLeDiff, Nat.reduceAdd, if_true, if_false]
      refine stL_eq ?_ ?_
      · simp only [Option.some.injEq, Ret.mk.injEq, List.cons.injEq, Prod.mk.injEq, AV.d.injEq, D.i.injEq, D.b.injEq, D.s.injEq, true_and, and_true]
        simp only [hk2]
        exact ⟨trivial, by omega⟩
      · simp only [← hst]
    · show i + 1 ≤ xs.length
      omega
    · show xs.length - (i + 1) < xs.length - i
      omega
  · have hge := of_decide_eq_false hb
    have e : i = xs.length := by omega
    subst e
    simp only [half_all, List.take_length]
    simp only [bW, ↓splitB_true, ↓splitB_false, nilCmp, opConv, eq_self, if_true, if_false, Nat.reduceEqDiff, reduceCtorEq, ↓reduceIte, Nat.reduceLT, Nat.reduceAdd, Nat.reduceMul, Nat.reduceSub, Nat.reduceLeDiff, Nat.reduceBEq, Int.reduceEq, Int.reduceNeg, tk, ntmps22, results22]
    try simp only [Option.some.injEq, Ret.mk.injEq, List.cons.injEq, Prod.mk.injEq, AV.d.injEq, D.i.injEq, D.b.injEq, D.s.injEq, true_and, and_true]

theorem f97_ok {S : Nat → Option Summ} (hS : SumOK prog S) (x : D) (ds : List D) (r : D × D) (hr : markP ins2 x ds = some r) : FnOK prog 97 (.io x :: ds.map .d) { ret := r.1, io := some r.2 } := by
  obtain ⟨xs, k, rfl, rfl, h1, h2, h2', h3, h4, rfl⟩ := markP_inv hr
  clear hr
  have hsz : (ins2 : List Sh).length = 2 := rfl
  rw [hsz]
  refine fnOK_awp (A := ⟨tab, S, .r 900000⟩) tab_ok hS mixed func97 rfl rfl rfl rfl (by show 2 ≤ 27; decide) rfl ?_
  refine seqK fun K hK => ?_
  simp only [bW, ↓splitB_true, ↓splitB_false, nilCmp, opConv, eq_self, if_true, if_false, Nat.reduceEqDiff, reduceCtorEq, ↓reduceIte, Nat.reduceLT, Nat.reduceAdd, Nat.reduceMul, Nat.reduceSub, Nat.reduceLeDiff, Nat.reduceBEq, Int.reduceEq, Int.reduceNeg, tk, ntmps97, results97]
  refine hK _ ?_; clear hK K
  refine seqK fun K hK => ?_
  refine seqK fun K2 hK2 => ?_
  simp only [bW, ↓splitB_true, ↓splitB_false, nilCmp, opConv, eq_self, if_true, if_false, Nat.reduceEqDiff, reduceCtorEq, ↓reduceIte, Nat.reduceLT, Nat.reduceAdd, Nat.reduceMul, Nat.reduceSub, Nat.reduceLeDiff, Nat.reduceBEq, Int.reduceEq, Int.reduceNeg, tk, ntmps97, results97]
  refine hK2 _ ?_; clear hK2 K2
  rw [awp_block]
  refine loopW [0, 1, 5] (fun x : Nat × Nat => stL 27 [(0, .r 900000), (1, .d (.i .i64 (markLL (xs.take x.1) k).2)), (5, .d (.i .i64 x.1))] [(900000, some (.row 2 (half xs k x.1) true false x.2))]) (fun x => x.1 ≤ xs.length) (fun x => xs.length - x.1) ?_ ?_
  · refine ⟨?_, (0, 0), ?_, ?_⟩
    · simp only [bK, Nat.reduceEqDiff, reduceCtorEq, ↓reduceIte, Nat.reduceBEq, Nat.reduceLeDiff, Nat.reduceAdd, if_true, if_false]
    · simp only [bK, Nat.reduceEqDiff, reduceCtorEq, ↓reduceIte, Nat.reduceBEq, Nat.reduceLeDiff, Nat.reduceAdd, if_true, if_false]
      refine stL_eq ?_ ?_
      · simp only [Option.some.injEq, Ret.mk.injEq, List.cons.injEq, Prod.mk.injEq, AV.d.injEq, D.i.injEq, D.b.injEq, D.s.injEq, true_and, and_true]
        exact ⟨by simp only [List.take_zero, markLL], rfl⟩
      · simp only [half_zero]
    · show 0 ≤ _
      omega
  rintro ⟨i, ve⟩ hi
  simp only at hi
  have hlen := half_len (k := k) hi
  have hlv := half_lv (k := k) hi
  have hkk := markLL_k (xs.take i) k
  refine seqK fun K3 hK3 => ?_
  simp only [bW, ↓splitB_true, ↓splitB_false, nilCmp, opConv, eq_self, if_true, if_false, Nat.reduceEqDiff, reduceCtorEq, ↓reduceIte, Nat.reduceLT, Nat.reduceAdd, Nat.reduceMul, Nat.reduceSub, Nat.reduceLeDiff, Nat.reduceBEq, Int.reduceEq, Int.reduceNeg, tk, ntmps97, results97]
  refine splitB_intro (fun hb => hK3 _ ?_) (fun hb => hK _ ?_) <;> clear hK3 K3
  · have hlt := of_decide_eq_true hb
    clear hb
    have hlt : i < xs.length := by omega
    have hrow := shLL_get h1 hlt
    have hln := lnLL_get h2' hlt
    have hget := half_get (k := k) hlt
    have hst := half_set (k := k) hlt
    have hk2 := half_k (k := k) hlt
    have hls := lvLL_step hlt
    generalize hrw : xs.getD i [] = row at hrow hln hget hst hk2 hls
    generalize hL : half xs k i = L at hlen hget hst
    generalize hkv : (markLL (xs.take i) k).2 = kk at hlv hkk hst hk2
    have hltL : i < L.length := by omega
    obtain ⟨ct1, qt1, rfl, et1, hrow⟩ := shL_cons hrow
    obtain ⟨ct2, qt2, rfl, et2, hrow⟩ := shL_cons hrow
    obtain rfl := shL_nil hrow
    obtain ⟨t1, rfl⟩ := shD_i et1
    obtain ⟨t2, rfl⟩ := shD_i et2
    simp only [lnL_cons, lnL_nil, lnD_s, lnD_i, lnD_b, lnD_l, and_true, true_and] at hln
    simp only [markL, markC] at hst hk2
    simp only [lvL, lv] at hls
    refine seqK fun K4 hK4 => ?_
    rw [awp_block]
    refine seqK fun K5 hK5 => ?_
    simp only [bW, ↓splitB_true, ↓splitB_false, nilCmp, opConv, eq_self, if_true, if_false, Nat.reduceEqDiff, reduceCtorEq, ↓reduceIte, Nat.reduceLT, Nat.reduceAdd, Nat.reduceMul, Nat.reduceSub, Nat.reduceLeDiff, Nat.reduceBEq, Int.reduceEq, Int.reduceNeg, tk, ntmps97, results97, setCell, List.set_cons_zero, List.set_cons_succ, len_set2, set_set2, hget, getD_set2 hltL]
    refine ⟨⟨by omega, by omega⟩, ?_⟩
    try simp only [bW, ↓splitB_true, ↓splitB_false, nilCmp, opConv, eq_self, if_true, if_false, Nat.reduceEqDiff, reduceCtorEq, ↓reduceIte, Nat.reduceLT, Nat.reduceAdd, Nat.reduceMul, Nat.reduceSub, Nat.reduceLeDiff, Nat.reduceBEq, Int.reduceEq, Int.reduceNeg, tk, ntmps97, results97, setCell, List.set_cons_zero, List.set_cons_succ, len_set2, set_set2, hget, getD_set2 hltL]
    refine hK5 _ ?_; clear hK5 K5
    refine seqK fun K5 hK5 => ?_
    simp only [bW, ↓splitB_true, ↓splitB_false, nilCmp, opConv, eq_self, if_true, if_false, Nat.reduceEqDiff, reduceCtorEq, ↓reduceIte, Nat.reduceLT, Nat.reduceAdd, Nat.reduceMul, Nat.reduceSub, Nat.reduceLeDiff, Nat.reduceBEq, Int.reduceEq, Int.reduceNeg, tk, ntmps97, results97, setCell, List.set_cons_zero, List.set_cons_succ, len_set2, set_set2, hget, getD_set2 hltL]
    simp (disch := omega) only [wrap64]
    refine hK5 _ ?_; clear hK5 K5
    refine seqK fun K5 hK5 => ?_
    simp only [bW, ↓splitB_true, ↓splitB_false, nilCmp, opConv, eq_self, if_true, if_false, Nat.reduceEqDiff, reduceCtorEq, ↓reduceIte, Nat.reduceLT, Nat.reduceAdd, Nat.reduceMul, Nat.reduceSub, Nat.reduceLeDiff, Nat.reduceBEq, Int.reduceEq, Int.reduceNeg, tk, ntmps97, results97, setCell, List.set_cons_zero, List.set_cons_succ, len_set2, set_set2, hget, getD_set2 hltL]
    refine ⟨⟨by omega, by omega⟩, ?_⟩
    try simp only [bW, ↓splitB_true, ↓splitB_false, nilCmp, opConv, eq_self, if_true, if_false, Nat.reduceEqDiff, reduceCtorEq, ↓reduceIte, Nat.reduceLT, Nat.reduceAdd, Nat.reduceMul, Nat.reduceSub, Nat.reduceLeDiff, Nat.reduceBEq, Int.reduceEq, Int.reduceNeg, tk, ntmps97, results97, setCell, List.set_cons_zero, List.set_cons_succ, len_set2, set_set2, hget, getD_set2 hltL]
    refine hK5 _ ?_; clear hK5 K5
    simp only [bW, ↓splitB_true, ↓splitB_false, nilCmp, opConv, eq_self, if_true, if_false, Nat.reduceEqDiff, reduceCtorEq, ↓reduceIte, Nat.reduceLT, Nat.reduceAdd, Nat.reduceMul, Nat.reduceSub, Nat.reduceLeDiff, Nat.reduceBEq, Int.reduceEq, Int.reduceNeg, tk, ntmps97, results97, setCell, List.set_cons_zero, List.set_cons_succ, len_set2, set_set2, hget, getD_set2 hltL]
    simp (disch := omega) only [wrap64]
    refine hK4 _ ?_; clear hK4 K4
    simp only [bW, ↓splitB_true, ↓splitB_false, nilCmp, opConv, eq_self, if_true, if_false, Nat.reduceEqDiff, reduceCtorEq, ↓reduceIte, Nat.reduceLT, Nat.reduceAdd, Nat.reduceMul, Nat.reduceSub, Nat.reduceLeDiff, Nat.reduceBEq, Int.reduceEq, Int.reduceNeg, tk, ntmps97, results97]
    try simp (disch := omega) only [wrap64]
    refine ⟨?_, (i + 1, ve + 1 + 1), ?_, ?_, ?_⟩
    · simp only [bK, Nat.reduceEqDiff, reduceCtorEq, ↓reduceIte, Nat.reduceBEq, Nat.reduceLeDiff, Nat.reduceAdd, if_true, if_false]
    · simp only [bK, Nat.reduceEqDiff, reduceCtorEq, ↓reduceIte, Nat.reduceBEq, Nat.reduceLeDiff, Nat.reduceAdd, if_true, if_false]
      refine stL_eq ?_ ?_
      · simp only [Option.some.injEq, Ret.mk.injEq, List.cons.injEq, Prod.mk.injEq, AV.d.injEq, D.i.injEq, D.b.injEq, D.s.injEq, true_and, and_true]
        simp only [hk2]
        exact ⟨trivial, by omega⟩
      · simp only [← hst]
    · show i + 1 ≤ xs.length
      omega
    · show xs.length - (i + 1) < xs.length - i
      omega
  · have hge := of_decide_eq_false hb
    have e : i = xs.length := by omega
    subst e
    simp only [half_all, List.take_length]
    simp only [bW, ↓splitB_true, ↓splitB_false, nilCmp, opConv, eq_self, if_true, if_false, Nat.reduceEqDiff, reduceCtorEq, ↓reduceIte, Nat.reduceLT, Nat.reduceAdd, Nat.reduceMul, Nat.reduceSub, Nat.reduceLeDiff, Nat.reduceBEq, Int.reduceEq, Int.reduceNeg, tk, ntmps97, results97]
    try simp only [Option.some.injEq, Ret.mk.injEq, List.cons.injEq, Prod.mk.injEq, AV.d.injEq, D.i.injEq, D.b.injEq, D.s.injEq, true_and, and_true]

theorem f23_ok {S : Nat → Option Summ} (hS : SumOK prog S) (ds : List D) (r : D) (hr : heldP [.i] ds = some r) : FnOK prog 23 (ds.map .d) { ret := r } := by
  obtain ⟨xs, k, rfl, h1, h2, h2', h3, h4, rfl⟩ := heldP_inv hr
  clear hr
  have hsz : ([.i] : List Sh).length = 1 := rfl
  rw [hsz]
  refine fnOK_awp (A := ⟨tab, S, .x⟩) tab_ok hS mixed func23 rfl rfl rfl rfl (by show 2 ≤ 21; decide) rfl ?_
  refine seqK fun K hK => ?_
  simp only [bW, ↓splitB_true, ↓splitB_false, nilCmp, opConv, eq_self, if_true, if_false, Nat.reduceEqDiff, reduceCtorEq, ↓reduceIte, Nat.reduceLT, Nat.reduceAdd, Nat.reduceMul, Nat.reduceSub, Nat.reduceLeDiff, Nat.reduceBEq, Int.reduceEq, Int.reduceNeg, tk, ntmps23, results23]
  refine hK _ ?_; clear hK K
  refine seqK fun K hK => ?_
  refine seqK fun K2 hK2 => ?_
  simp only [bW, ↓splitB_true, ↓splitB_false, nilCmp, opConv, eq_self, if_true, if_false, Nat.reduceEqDiff, reduceCtorEq, ↓reduceIte, Nat.reduceLT, Nat.reduceAdd, Nat.reduceMul, Nat.reduceSub, Nat.reduceLeDiff, Nat.reduceBEq, Int.reduceEq, Int.reduceNeg, tk, ntmps23, results23]
  refine hK2 _ ?_; clear hK2 K2
  rw [awp_block]
  refine loopW [0, 1, 5] (fun x : Nat × Int => stL 21 [(0, .d (.l 1 xs)), (1, .d (.i .i64 x.2)), (5, .d (.i .i64 x.1))] []) (fun x => x.1 ≤ xs.length ∧ heldLL xs k = heldLL (xs.drop x.1) x.2 ∧ 0 ≤ x.2 ∧ x.2 + lvLL (xs.drop x.1) ≤ 2305843009213693952) (fun x => xs.length - x.1) ?_ ?_
  · refine ⟨?_, (0, k), ?_, ?_⟩
    · simp only [bK, Nat.reduceEqDiff, reduceCtorEq, ↓reduceIte, Nat.reduceBEq, Nat.reduceLeDiff, Nat.reduceAdd, if_true, if_false]
    · simp only [bK, Nat.reduceEqDiff, reduceCtorEq, ↓reduceIte, Nat.reduceBEq, Nat.reduceLeDiff, Nat.reduceAdd, if_true, if_false]
      refine stL_eq ?_ rfl
      simp only [Option.some.injEq, Ret.mk.injEq, List.cons.injEq, Prod.mk.injEq, AV.d.injEq, D.i.injEq, D.b.injEq, D.s.injEq, true_and, and_true]
      try rfl
    · exact ⟨by show 0 ≤ _; omega, rfl, h3, h4⟩
  rintro ⟨i, kk⟩ ⟨hi, hn, hk0, hkl⟩
  simp only at hi hn hk0 hkl
  refine seqK fun K3 hK3 => ?_
  simp only [bW, ↓splitB_true, ↓splitB_false, nilCmp, opConv, eq_self, if_true, if_false, Nat.reduceEqDiff, reduceCtorEq, ↓reduceIte, Nat.reduceLT, Nat.reduceAdd, Nat.reduceMul, Nat.reduceSub, Nat.reduceLeDiff, Nat.reduceBEq, Int.reduceEq, Int.reduceNeg, tk, ntmps23, results23]
  refine splitB_intro (fun hb => hK3 _ ?_) (fun hb => hK _ ?_) <;> clear hK3 K3
  · have hlt := of_decide_eq_true hb
    clear hb
    have hlt : i < xs.length := by omega
    have hrow := shLL_get h1 hlt
    have hln := lnLL_get h2' hlt
    have hst := heldLL_step (k := kk) hlt
    have hls := lvLL_step hlt
    generalize hrw : xs.getD i [] = row at hrow hln hst hls
    obtain ⟨ct1, qt1, rfl, et1, hrow⟩ := shL_cons hrow
    obtain rfl := shL_nil hrow
    obtain ⟨t1, rfl⟩ := shD_i et1
    simp only [lvL, lv] at hls
    refine seqK fun K4 hK4 => ?_
    rw [awp_block]
    refine seqK fun K5 hK5 => ?_
    simp only [bW, ↓splitB_true, ↓splitB_false, nilCmp, opConv, eq_self, if_true, if_false, Nat.reduceEqDiff, reduceCtorEq, ↓reduceIte, Nat.reduceLT, Nat.reduceAdd, Nat.reduceMul, Nat.reduceSub, Nat.reduceLeDiff, Nat.reduceBEq, Int.reduceEq, Int.reduceNeg, tk, ntmps23, results23]
    refine ⟨⟨by omega, by omega⟩, ?_⟩
    rw [hrw]
    simp only [bW, ↓splitB_true, ↓splitB_false, nilCmp, opConv, eq_self, if_true, if_false, Nat.reduceEqDiff, reduceCtorEq, ↓reduceIte, Nat.reduceLT, Nat.reduceAdd, Nat.reduceMul, Nat.reduceSub, Nat.reduceLeDiff, Nat.reduceBEq, Int.reduceEq, Int.reduceNeg, tk, ntmps23, results23]
    refine splitB_intro (fun hb => ?_) (fun hb => hK5 _ ?_) <;> clear hK5 K5
    · simp only [Bool.not_eq_true', decide_eq_false_iff_not] at hb
      rw [heldL_i0 hb] at hst
      rw [hn, hst, negOr_neg]
    simp only [Bool.not_eq_false', decide_eq_true_eq] at hb
    rw [heldL_i1 hb (by omega)] at hst
    simp only [bW, ↓splitB_true, ↓splitB_false, nilCmp, opConv, eq_self, if_true, if_false, Nat.reduceEqDiff, reduceCtorEq, ↓reduceIte, Nat.reduceLT, Nat.reduceAdd, Nat.reduceMul, Nat.reduceSub, Nat.reduceLeDiff, Nat.reduceBEq, Int.reduceEq, Int.reduceNeg, tk, ntmps23, results23]
    simp (disch := omega) only [wrap64]
    refine hK4 _ ?_; clear hK4 K4
    rw [heldL_nil, negOr_pos (by omega)] at hst
    simp only [bW, ↓splitB_true, ↓splitB_false, nilCmp, opConv, eq_self, if_true, if_false, Nat.reduceEqDiff, reduceCtorEq, ↓reduceIte, Nat.reduceLT, Nat.reduceAdd, Nat.reduceMul, Nat.reduceSub, Nat.reduceLeDiff, Nat.reduceBEq, Int.reduceEq, Int.reduceNeg, tk, ntmps23, results23]
    try simp (disch := omega) only [wrap64]
    refine ⟨?_, (i + 1, kk + 1), ?_, ?_, ?_⟩
    · simp only [bK, Nat.reduceEqDiff, reduceCtorEq, ↓reduceIte, Nat.reduceBEq, Nat.reduceLeDiff, Nat.reduceAdd, if_true, if_false]
    · simp only [bK, Nat.reduceEqDiff, reduceCtorEq, ↓reduceIte, Nat.reduceBEq, Nat.reduceLeDiff, Nat.reduceAdd, if_true, if_false]
      refine stL_eq ?_ rfl
      simp only [Option.some.injEq, Ret.mk.injEq, List.cons.injEq, Prod.mk.injEq, AV.d.injEq, D.i.injEq, D.b.injEq, D.s.injEq, true_and, and_true]
      omega
    · exact ⟨by show i + 1 ≤ _; omega, hn.trans hst, by show 0 ≤ kk + 1; omega, by show kk + 1 + (lvLL (xs.drop (i + 1)) : Int) ≤ _; omega⟩
    · show xs.length - (i + 1) < xs.length - i
      omega
  · have hge := of_decide_eq_false hb
    have e : i = xs.length := by omega
    subst e
    rw [List.drop_length] at hn
    simp only [bW, ↓splitB_true, ↓splitB_false, nilCmp, opConv, eq_self, if_true, if_false, Nat.reduceEqDiff, reduceCtorEq, ↓reduceIte, Nat.reduceLT, Nat.reduceAdd, Nat.reduceMul, Nat.reduceSub, Nat.reduceLeDiff, Nat.reduceBEq, Int.reduceEq, Int.reduceNeg, tk, ntmps23, results23]
    rw [hn]; rfl

end Go.Fs.Sr
