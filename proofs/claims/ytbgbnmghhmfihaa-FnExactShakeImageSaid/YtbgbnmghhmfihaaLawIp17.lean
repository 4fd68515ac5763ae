/- A part of the proof: an evaluator of the program's code over plain data, proved sound, and walks of the program's functions by it. No conditions beyond those in the theorems. -/
import Derived.Test.YtbgbnmghhmfihaaLawIp8
import Derived.Test.YtbgbnmghhmfihaaLawIp12
import Derived.Test.YtbgbnmghhmfihaaLawIp16
import Derived.Test.YtbgbnmghhmfihaaLawIp9
set_option linter.unusedVariables false
set_option linter.unusedSimpArgs false
set_option maxRecDepth 20000
set_option maxHeartbeats 2000000
namespace Go.Fs.Sr
open Go.Proofs.Try

theorem f60_ok {S : Nat → Option Summ} (hS : SumOK prog S) (ds : List D) (r : D) (hr : F57 ds = some r) : FnOK prog 60 (ds.map .d) { ret := r } := by
  unfold F57 at hr
  split at hr
  case h_2 => cases hr
  rename_i xs w
  split at hr
  case isFalse => cases hr
  rename_i hc
  obtain ⟨h1, h2⟩ := hc
  simp only [Option.some.injEq] at hr
  subst hr
  refine fnOK_awp (A := ⟨tab, S, .x⟩) tab_ok hS mixed func60 rfl rfl rfl rfl (by show 2 ≤ 19; decide) rfl ?_
  refine seqK fun K hK => ?_
  simp only [bW, ↓splitB_true, ↓splitB_false, nilCmp, opConv, eq_self, if_true, if_false, Nat.reduceEqDiff, reduceCtorEq, ↓reduceIte, Nat.reduceLT, Nat.reduceAdd, Nat.reduceMul, Nat.reduceSub, Nat.reduceLeDiff, Nat.reduceBEq, Int.reduceEq, Int.reduceNeg, tk, ntmps60, results60]
  refine hK _ ?_; clear hK K
  refine seqK fun K hK => ?_
  refine seqK fun K2 hK2 => ?_
  simp only [bW, ↓splitB_true, ↓splitB_false, nilCmp, opConv, eq_self, if_true, if_false, Nat.reduceEqDiff, reduceCtorEq, ↓reduceIte, Nat.reduceLT, Nat.reduceAdd, Nat.reduceMul, Nat.reduceSub, Nat.reduceLeDiff, Nat.reduceBEq, Int.reduceEq, Int.reduceNeg, tk, ntmps60, results60]
  refine hK2 _ ?_; clear hK2 K2
  rw [awp_block]
  refine loopW [0, 1, 7, 8] (fun i : Nat => stL 19 [(0, .d (.l 1 xs)), (1, .d (.i .i64 w)), (7, .d (.i .i64 xs.length)), (8, .d (.i .i64 i))] []) (fun i => i ≤ xs.length ∧ idxP (eqN w) xs 0 = idxP (eqN w) (xs.drop i) i) (fun i => xs.length - i) ?_ ?_
  · refine ⟨?_, 0, ?_, by omega, by first | rfl | simp⟩
    · simp only [bK, Nat.reduceEqDiff, reduceCtorEq, ↓reduceIte, Nat.reduceBEq, Nat.reduceLeDiff, Nat.reduceAdd, if_true, if_false]
    · simp only [bK, Nat.reduceEqDiff, reduceCtorEq, ↓reduceIte, Nat.reduceBEq, Nat.reduceLeDiff, Nat.reduceAdd, if_true, if_false]
      refine stL_eq ?_ ?_
      · simp only [Option.some.injEq, Ret.mk.injEq, List.cons.injEq, Prod.mk.injEq, AV.d.injEq, D.i.injEq, D.b.injEq, D.s.injEq, true_and, and_true]
        first | rfl | (simp only [List.drop_zero]; omega)
      · try rfl
  rintro i ⟨hi, hn⟩
  refine seqK fun K3 hK3 => ?_
  simp only [bW, ↓splitB_true, ↓splitB_false, nilCmp, opConv, eq_self, if_true, if_false, Nat.reduceEqDiff, reduceCtorEq, ↓reduceIte, Nat.reduceLT, Nat.reduceAdd, Nat.reduceMul, Nat.reduceSub, Nat.reduceLeDiff, Nat.reduceBEq, Int.reduceEq, Int.reduceNeg, tk, ntmps60, results60]
  refine hK3 _ ?_; clear hK3 K3
  refine seqK fun K3 hK3 => ?_
  simp only [bW, ↓splitB_true, ↓splitB_false, nilCmp, opConv, eq_self, if_true, if_false, Nat.reduceEqDiff, reduceCtorEq, ↓reduceIte, Nat.reduceLT, Nat.reduceAdd, Nat.reduceMul, Nat.reduceSub, Nat.reduceLeDiff, Nat.reduceBEq, Int.reduceEq, Int.reduceNeg, tk, ntmps60, results60]
  refine splitB_intro (fun hb => hK3 _ ?_) (fun hb => hK _ ?_) <;> clear hK3 K3
  · have hlt := of_decide_eq_true hb
    clear hb
    have hlt : i < xs.length := by omega
    have hrow := shLL_get h1 hlt
    have hst := idxP_step (eqN w) hlt (i : Int)
    generalize hrw : xs.getD i [] = row at hrow hst
    obtain ⟨c1, q1, rfl, e1, hrow⟩ := shL_cons hrow
    obtain rfl := shL_nil hrow
    obtain ⟨t, rfl⟩ := shD_i e1
    have hnm : (eqN w [.i .i64 t] = true) = (t = w) := propext ⟨fun h => of_decide_eq_true (show decide (t = w) = true from h), fun h => show decide (t = w) = true from decide_eq_true h⟩
    simp only [hnm] at hst
    refine seqK fun K4 hK4 => ?_
    rw [awp_block]
    refine seqK fun K5 hK5 => ?_
    simp only [bW, ↓splitB_true, ↓splitB_false, nilCmp, opConv, eq_self, if_true, if_false, Nat.reduceEqDiff, reduceCtorEq, ↓reduceIte, Nat.reduceLT, Nat.reduceAdd, Nat.reduceMul, Nat.reduceSub, Nat.reduceLeDiff, Nat.reduceBEq, Int.reduceEq, Int.reduceNeg, tk, ntmps60, results60]
    refine hK5 _ ?_; clear hK5 K5
    simp only [bW, ↓splitB_true, ↓splitB_false, nilCmp, opConv, eq_self, if_true, if_false, Nat.reduceEqDiff, reduceCtorEq, ↓reduceIte, Nat.reduceLT, Nat.reduceAdd, Nat.reduceMul, Nat.reduceSub, Nat.reduceLeDiff, Nat.reduceBEq, Int.reduceEq, Int.reduceNeg, tk, ntmps60, results60]
    refine ⟨⟨by omega, by omega⟩, ?_⟩
    rw [hrw]
    simp only [bW, ↓splitB_true, ↓splitB_false, nilCmp, opConv, eq_self, if_true, if_false, Nat.reduceEqDiff, reduceCtorEq, ↓reduceIte, Nat.reduceLT, Nat.reduceAdd, Nat.reduceMul, Nat.reduceSub, Nat.reduceLeDiff, Nat.reduceBEq, Int.reduceEq, Int.reduceNeg, tk, ntmps60, results60]
    refine splitB_intro (fun hb => ?_) (fun hb => hK4 _ ?_) <;> clear hK4 K4
    · have hb := of_decide_eq_true hb
      rw [if_pos hb.symm] at hst
      simp only [idxN]
      rw [hn, hst]
    have hb := of_decide_eq_false hb
    rw [if_neg (fun e => hb e.symm)] at hst
    simp only [bW, ↓splitB_true, ↓splitB_false, nilCmp, opConv, eq_self, if_true, if_false, Nat.reduceEqDiff, reduceCtorEq, ↓reduceIte, Nat.reduceLT, Nat.reduceAdd, Nat.reduceMul, Nat.reduceSub, Nat.reduceLeDiff, Nat.reduceBEq, Int.reduceEq, Int.reduceNeg, tk, ntmps60, results60]
    try simp (disch := omega) only [wrap64]
    refine ⟨?_, i + 1, ?_, ⟨?_, ?_⟩, ?_⟩
    · simp only [bK, Nat.reduceEqDiff, reduceCtorEq, ↓reduceIte, Nat.reduceBEq, Nat.reduceLeDiff, Nat.reduceAdd, if_true, if_false]
    · simp only [bK, Nat.reduceEqDiff, reduceCtorEq, ↓reduceIte, Nat.reduceBEq, Nat.reduceLeDiff, Nat.reduceAdd, if_true, if_false]
      refine stL_eq ?_ ?_
      · simp only [Option.some.injEq, Ret.mk.injEq, List.cons.injEq, Prod.mk.injEq, AV.d.injEq, D.i.injEq, D.b.injEq, D.s.injEq, true_and, and_true]
        try omega
      · try rfl
    · omega
    · rw [hn, hst]; rfl
    · omega
  · have hge := of_decide_eq_false hb
    have e : i = xs.length := by omega
    subst e
    clear hb hge
    rw [List.drop_length] at hn
    simp only [bW, ↓splitB_true, ↓splitB_false, nilCmp, opConv, eq_self, if_true, if_false, Nat.reduceEqDiff, reduceCtorEq, ↓reduceIte, Nat.reduceLT, Nat.reduceAdd, Nat.reduceMul, Nat.reduceSub, Nat.reduceLeDiff, Nat.reduceBEq, Int.reduceEq, Int.reduceNeg, tk, ntmps60, results60]
    simp only [idxN]
    rw [hn]; rfl

theorem f57_ok {S : Nat → Option Summ} (hS : SumOK prog S) (ds : List D) (r : D) (hr : F57 ds = some r) : FnOK prog 57 (ds.map .d) { ret := r } := by
  unfold F57 at hr
  split at hr
  case h_2 => cases hr
  rename_i xs w
  split at hr
  case isFalse => cases hr
  rename_i hc
  obtain ⟨h1, h2⟩ := hc
  simp only [Option.some.injEq] at hr
  subst hr
  refine fnOK_awp (A := ⟨tab, S, .x⟩) tab_ok hS mixed func57 rfl rfl rfl rfl (by show 2 ≤ 19; decide) rfl ?_
  refine seqK fun K hK => ?_
  simp only [bW, ↓splitB_true, ↓splitB_false, nilCmp, opConv, eq_self, if_true, if_false, Nat.reduceEqDiff, reduceCtorEq, ↓reduceIte, Nat.reduceLT, Nat.reduceAdd, Nat.reduceMul, Nat.reduceSub, Nat.reduceLeDiff, Nat.reduceBEq, Int.reduceEq, Int.reduceNeg, tk, ntmps57, results57]
  refine hK _ ?_; clear hK K
  refine seqK fun K hK => ?_
  refine seqK fun K2 hK2 => ?_
  simp only [bW, ↓splitB_true, ↓splitB_false, nilCmp, opConv, eq_self, if_true, if_false, Nat.reduceEqDiff, reduceCtorEq, ↓reduceIte, Nat.reduceLT, Nat.reduceAdd, Nat.reduceMul, Nat.reduceSub, Nat.reduceLeDiff, Nat.reduceBEq, Int.reduceEq, Int.reduceNeg, tk, ntmps57, results57]
  refine hK2 _ ?_; clear hK2 K2
  rw [awp_block]
  refine loopW [0, 1, 5] (fun i : Nat => stL 19 [(0, .d (.l 1 xs)), (1, .d (.i .i64 w)), (5, .d (.i .i64 i))] []) (fun i => i ≤ xs.length ∧ idxP (eqN w) xs 0 = idxP (eqN w) (xs.drop i) i) (fun i => xs.length - i) ?_ ?_
  · refine ⟨?_, 0, ?_, by omega, by first | rfl | simp⟩
    · simp only [bK, Nat.reduceEqDiff, reduceCtorEq, ↓reduceIte, Nat.reduceBEq, Nat.reduceLeDiff, Nat.reduceAdd, if_true, if_false]
    · simp only [bK, Nat.reduceEqDiff, reduceCtorEq, ↓reduceIte, Nat.reduceBEq, Nat.reduceLeDiff, Nat.reduceAdd, if_true, if_false]
      refine stL_eq ?_ ?_
      · simp only [Option.some.injEq, Ret.mk.injEq, List.cons.injEq, Prod.mk.injEq, AV.d.injEq, D.i.injEq, D.b.injEq, D.s.injEq, true_and, and_true]
        first | rfl | (simp only [List.drop_zero]; omega)
      · try rfl
  rintro i ⟨hi, hn⟩
  refine seqK fun K3 hK3 => ?_
  simp only [bW, ↓splitB_true, ↓splitB_false, nilCmp, opConv, eq_self, if_true, if_false, Nat.reduceEqDiff, reduceCtorEq, ↓reduceIte, Nat.reduceLT, Nat.reduceAdd, Nat.reduceMul, Nat.reduceSub, Nat.reduceLeDiff, Nat.reduceBEq, Int.reduceEq, Int.reduceNeg, tk, ntmps57, results57]
  refine splitB_intro (fun hb => hK3 _ ?_) (fun hb => hK _ ?_) <;> clear hK3 K3
  · have hlt := of_decide_eq_true hb
    clear hb
    have hlt : i < xs.length := by omega
    have hrow := shLL_get h1 hlt
    have hst := idxP_step (eqN w) hlt (i : Int)
    generalize hrw : xs.getD i [] = row at hrow hst
    obtain ⟨c1, q1, rfl, e1, hrow⟩ := shL_cons hrow
    obtain rfl := shL_nil hrow
    obtain ⟨t, rfl⟩ := shD_i e1
    have hnm : (eqN w [.i .i64 t] = true) = (t = w) := propext ⟨fun h => of_decide_eq_true (show decide (t = w) = true from h), fun h => show decide (t = w) = true from decide_eq_true h⟩
    simp only [hnm] at hst
    refine seqK fun K4 hK4 => ?_
    rw [awp_block]
    simp only [bW, ↓splitB_true, ↓splitB_false, nilCmp, opConv, eq_self, if_true, if_false, Nat.reduceEqDiff, reduceCtorEq, ↓reduceIte, Nat.reduceLT, Nat.reduceAdd, Nat.reduceMul, Nat.reduceSub, Nat.reduceLeDiff, Nat.reduceBEq, Int.reduceEq, Int.reduceNeg, tk, ntmps57, results57]
    refine ⟨⟨by omega, by omega⟩, ?_⟩
    rw [hrw]
    simp only [bW, ↓splitB_true, ↓splitB_false, nilCmp, opConv, eq_self, if_true, if_false, Nat.reduceEqDiff, reduceCtorEq, ↓reduceIte, Nat.reduceLT, Nat.reduceAdd, Nat.reduceMul, Nat.reduceSub, Nat.reduceLeDiff, Nat.reduceBEq, Int.reduceEq, Int.reduceNeg, tk, ntmps57, results57]
    refine splitB_intro (fun hb => ?_) (fun hb => hK4 _ ?_) <;> clear hK4 K4
    · have hb := of_decide_eq_true hb
      rw [if_pos hb] at hst
      simp only [idxN]
      rw [hn, hst]
    have hb := of_decide_eq_false hb
    rw [if_neg hb] at hst
    simp only [bW, ↓splitB_true, ↓splitB_false, nilCmp, opConv, eq_self, if_true, if_false, Nat.reduceEqDiff, reduceCtorEq, ↓reduceIte, Nat.reduceLT, Nat.reduceAdd, Nat.reduceMul, Nat.reduceSub, Nat.reduceLeDiff, Nat.reduceBEq, Int.reduceEq, Int.reduceNeg, tk, ntmps57, results57]
    try simp (disch := omega) only [wrap64]
    refine ⟨?_, i + 1, ?_, ⟨?_, ?_⟩, ?_⟩
    · simp only [bK, Nat.reduceEqDiff, reduceCtorEq, ↓reduceIte, Nat.reduceBEq, Nat.reduceLeDiff, Nat.reduceAdd, if_true, if_false]
    · simp only [bK, Nat.reduceEqDiff, reduceCtorEq, ↓reduceIte, Nat.reduceBEq, Nat.reduceLeDiff, Nat.reduceAdd, if_true, if_false]
      refine stL_eq ?_ ?_
      · simp only [Option.some.injEq, Ret.mk.injEq, List.cons.injEq, Prod.mk.injEq, AV.d.injEq, D.i.injEq, D.b.injEq, D.s.injEq, true_and, and_true]
        try omega
      · try rfl
    · omega
    · rw [hn, hst]; rfl
    · omega
  · have hge := of_decide_eq_false hb
    have e : i = xs.length := by omega
    subst e
    clear hb hge
    rw [List.drop_length] at hn
    simp only [bW, ↓splitB_true, ↓splitB_false, nilCmp, opConv, eq_self, if_true, if_false, Nat.reduceEqDiff, reduceCtorEq, ↓reduceIte, Nat.reduceLT, Nat.reduceAdd, Nat.reduceMul, Nat.reduceSub, Nat.reduceLeDiff, Nat.reduceBEq, Int.reduceEq, Int.reduceNeg, tk, ntmps57, results57]
    simp only [idxN]
    rw [hn]; rfl

theorem f98_ok {S : Nat → Option Summ} (hS : SumOK prog S) (ds : List D) (r : D) (hr : toP ins2 ds = some r) : FnOK prog 98 (ds.map .d) { ret := r } := by
  obtain ⟨xs, rfl, h1, h2, h3, rfl⟩ := toP_inv hr
  clear hr
  have hsz : ins2.length = 2 := rfl
  rw [hsz]
  have hsc := scal_ins h1
  refine fnOK_awp (A := ⟨tab, S, .x⟩) tab_ok hS mixed func98 rfl rfl rfl rfl (by show 1 ≤ 8; decide) rfl ?_
  refine seqK fun K hK => ?_
  simp only [bW, ↓splitB_true, ↓splitB_false, nilCmp, opConv, eq_self, if_true, if_false, Nat.reduceEqDiff, reduceCtorEq, ↓reduceIte, Nat.reduceLT, Nat.reduceAdd, Nat.reduceMul, Nat.reduceSub, Nat.reduceLeDiff, Nat.reduceBEq, Int.reduceEq, Int.reduceNeg, tk, ntmps98, results98]
  refine hK _ ?_; clear hK K
  refine seqK fun K hK => ?_
  simp only [bW, ↓splitB_true, ↓splitB_false, nilCmp, opConv, eq_self, if_true, if_false, Nat.reduceEqDiff, reduceCtorEq, ↓reduceIte, Nat.reduceLT, Nat.reduceAdd, Nat.reduceMul, Nat.reduceSub, Nat.reduceLeDiff, Nat.reduceBEq, Int.reduceEq, Int.reduceNeg, tk, ntmps98, results98]
  intro b hb
  refine splitB_intro (fun e => ?_) (fun e => hK _ ?_) <;> clear hK K
  · rw [hb e]
  clear e hb
  simp only [bW, ↓splitB_true, ↓splitB_false, nilCmp, opConv, eq_self, if_true, if_false, Nat.reduceEqDiff, reduceCtorEq, ↓reduceIte, Nat.reduceLT, Nat.reduceAdd, Nat.reduceMul, Nat.reduceSub, Nat.reduceLeDiff, Nat.reduceBEq, Int.reduceEq, Int.reduceNeg, tk, ntmps98, results98]
  refine ⟨⟨by omega, by omega⟩, ?_⟩
  simp only [hsc]
  try simp only [bW, ↓splitB_true, ↓splitB_false, nilCmp, opConv, eq_self, if_true, if_false, Nat.reduceEqDiff, reduceCtorEq, ↓reduceIte, Nat.reduceLT, Nat.reduceAdd, Nat.reduceMul, Nat.reduceSub, Nat.reduceLeDiff, Nat.reduceBEq, Int.reduceEq, Int.reduceNeg, tk, ntmps98, results98]
  try simp only [Option.some.injEq, Ret.mk.injEq, List.cons.injEq, Prod.mk.injEq, AV.d.injEq, D.i.injEq, D.b.injEq, D.s.injEq, true_and, and_true]

theorem f100_ok {S : Nat → Option Summ} (hS : SumOK prog S) (ds : List D) (r : D) (hr : heldP ins2 ds = some r) : FnOK prog 100 (ds.map .d) { ret := r } := by
  obtain ⟨xs, k, rfl, h1, h2, h2', h3, h4, rfl⟩ := heldP_inv hr
  clear hr
  have hsz : (ins2 : List Sh).length = 2 := rfl
  rw [hsz]
  refine fnOK_awp (A := ⟨tab, S, .x⟩) tab_ok hS mixed func100 rfl rfl rfl rfl (by show 2 ≤ 31; decide) rfl ?_
  refine seqK fun K hK => ?_
  simp only [bW, ↓splitB_true, ↓splitB_false, nilCmp, opConv, eq_self, if_true, if_false, Nat.reduceEqDiff, reduceCtorEq, ↓reduceIte, Nat.reduceLT, Nat.reduceAdd, Nat.reduceMul, Nat.reduceSub, Nat.reduceLeDiff, Nat.reduceBEq, Int.reduceEq, Int.reduceNeg, tk, ntmps100, results100]
  refine hK _ ?_; clear hK K
  refine seqK fun K hK => ?_
  refine seqK fun K2 hK2 => ?_
  simp only [bW, ↓splitB_true, ↓splitB_false, nilCmp, opConv, eq_self, if_true, if_false, Nat.reduceEqDiff, reduceCtorEq, ↓reduceIte, Nat.reduceLT, Nat.reduceAdd, Nat.reduceMul, Nat.reduceSub, Nat.reduceLeDiff, Nat.reduceBEq, Int.reduceEq, Int.reduceNeg, tk, ntmps100, results100]
  refine hK2 _ ?_; clear hK2 K2
  rw [awp_block]
  refine loopW [0, 1, 5] (fun x : Nat × Int => stL 31 [(0, .d (.l 2 xs)), (1, .d (.i .i64 x.2)), (5, .d (.i .i64 x.1))] []) (fun x => x.1 ≤ xs.length ∧ heldLL xs k = heldLL (xs.drop x.1) x.2 ∧ 0 ≤ x.2 ∧ x.2 + lvLL (xs.drop x.1) ≤ 2305843009213693952) (fun x => xs.length - x.1) ?_ ?_
  · refine ⟨?_, (0, k), ?_, ?_⟩
    · simp only [bK, Nat.reduceEqDiff, reduceCtorEq, ↓reduceIte, Nat.reduceBEq, Nat.reduceLeDiff, Nat.reduceAdd, if_true, if_false]
    · simp only [bK, Nat.reduceEqDiff, reduceCtorEq, ↓reduceIte, Nat.reduceBEq, Nat.reduceLeDiff, Nat.reduceAdd, if_true, if_false]
      refine stL_eq ?_ rfl
      simp only [Option.some.injEq, Ret.mk.injEq, List.cons.injEq, Prod.mk.injEq, AV.d.injEq, D.i.injEq, D.b.injEq, D.s.injEq, true_and, and_true]
      try rfl
    · exact ⟨by show 0 ≤ _; omega, rfl, h3, h4⟩
  rintro ⟨i, kk⟩ ⟨hi, hn, hk0, hkl⟩
  simp only at hi hn hk0 hkl
  refine seqK fun K3 hK3 => ?_
  simp only [bW, ↓splitB_true, ↓splitB_false, nilCmp, opConv, eq_self, if_true, if_false, Nat.reduceEqDiff, reduceCtorEq, ↓reduceIte, Nat.reduceLT, Nat.reduceAdd, Nat.reduceMul, Nat.reduceSub, Nat.reduceLeDiff, Nat.reduceBEq, Int.reduceEq, Int.reduceNeg, tk, ntmps100, results100]
  refine splitB_intro (fun hb => hK3 _ ?_) (fun hb => hK _ ?_) <;> clear hK3 K3
  · have hlt := of_decide_eq_true hb
    clear hb
    have hlt : i < xs.length := by omega
    have hrow := shLL_get h1 hlt
    have hln := lnLL_get h2' hlt
    have hst := heldLL_step (k := kk) hlt
    have hls := lvLL_step hlt
    generalize hrw : xs.getD i [] = row at hrow hln hst hls
    obtain ⟨ct1, qt1, rfl, et1, hrow⟩ := shL_cons hrow
    obtain ⟨ct2, qt2, rfl, et2, hrow⟩ := shL_cons hrow
    obtain rfl := shL_nil hrow
    obtain ⟨t1, rfl⟩ := shD_i et1
    obtain ⟨t2, rfl⟩ := shD_i et2
    simp only [lvL, lv] at hls
    refine seqK fun K4 hK4 => ?_
    rw [awp_block]
    refine seqK fun K5 hK5 => ?_
    simp only [bW, ↓splitB_true, ↓splitB_false, nilCmp, opConv, eq_self, if_true, if_false, Nat.reduceEqDiff, reduceCtorEq, ↓reduceIte, Nat.reduceLT, Nat.reduceAdd, Nat.reduceMul, Nat.reduceSub, Nat.reduceLeDiff, Nat.reduceBEq, Int.reduceEq, Int.reduceNeg, tk, ntmps100, results100]
    refine ⟨⟨by omega, by omega⟩, ?_⟩
    rw [hrw]
    simp only [bW, ↓splitB_true, ↓splitB_false, nilCmp, opConv, eq_self, if_true, if_false, Nat.reduceEqDiff, reduceCtorEq, ↓reduceIte, Nat.reduceLT, Nat.reduceAdd, Nat.reduceMul, Nat.reduceSub, Nat.reduceLeDiff, Nat.reduceBEq, Int.reduceEq, Int.reduceNeg, tk, ntmps100, results100]
    refine splitB_intro (fun hb => ?_) (fun hb => hK5 _ ?_) <;> clear hK5 K5
    · simp only [Bool.not_eq_true', decide_eq_false_iff_not] at hb
      rw [heldL_i0 hb] at hst
      rw [hn, hst, negOr_neg]
    simp only [Bool.not_eq_false', decide_eq_true_eq] at hb
    rw [heldL_i1 hb (by omega)] at hst
    refine seqK fun K5 hK5 => ?_
    simp only [bW, ↓splitB_true, ↓splitB_false, nilCmp, opConv, eq_self, if_true, if_false, Nat.reduceEqDiff, reduceCtorEq, ↓reduceIte, Nat.reduceLT, Nat.reduceAdd, Nat.reduceMul, Nat.reduceSub, Nat.reduceLeDiff, Nat.reduceBEq, Int.reduceEq, Int.reduceNeg, tk, ntmps100, results100]
    simp (disch := omega) only [wrap64]
    refine hK5 _ ?_; clear hK5 K5
    refine seqK fun K5 hK5 => ?_
    simp only [bW, ↓splitB_true, ↓splitB_false, nilCmp, opConv, eq_self, if_true, if_false, Nat.reduceEqDiff, reduceCtorEq, ↓reduceIte, Nat.reduceLT, Nat.reduceAdd, Nat.reduceMul, Nat.reduceSub, Nat.reduceLeDiff, Nat.reduceBEq, Int.reduceEq, Int.reduceNeg, tk, ntmps100, results100]
    refine ⟨⟨by omega, by omega⟩, ?_⟩
    rw [hrw]
    simp only [bW, ↓splitB_true, ↓splitB_false, nilCmp, opConv, eq_self, if_true, if_false, Nat.reduceEqDiff, reduceCtorEq, ↓reduceIte, Nat.reduceLT, Nat.reduceAdd, Nat.reduceMul, Nat.reduceSub, Nat.reduceLeDiff, Nat.reduceBEq, Int.reduceEq, Int.reduceNeg, tk, ntmps100, results100]
    refine splitB_intro (fun hb => ?_) (fun hb => hK5 _ ?_) <;> clear hK5 K5
    · simp only [Bool.not_eq_true', decide_eq_false_iff_not] at hb
      rw [heldL_i0 hb] at hst
      rw [hn, hst, negOr_neg]
    simp only [Bool.not_eq_false', decide_eq_true_eq] at hb
    rw [heldL_i1 hb (by omega)] at hst
    simp only [bW, ↓splitB_true, ↓splitB_false, nilCmp, opConv, eq_self, if_true, if_false, Nat.reduceEqDiff, reduceCtorEq, ↓reduceIte, Nat.reduceLT, Nat.reduceAdd, Nat.reduceMul, Nat.reduceSub, Nat.reduceLeDiff, Nat.reduceBEq, Int.reduceEq, Int.reduceNeg, tk, ntmps100, results100]
    simp (disch := omega) only [wrap64]
    refine hK4 _ ?_; clear hK4 K4
    rw [heldL_nil, negOr_pos (by omega)] at hst
    simp only [bW, ↓splitB_true, ↓splitB_false, nilCmp, opConv, eq_self, if_true, if_false, Nat.reduceEqDiff, reduceCtorEq, ↓reduceIte, Nat.reduceLT, Nat.reduceAdd, Nat.reduceMul, Nat.reduceSub, Nat.reduceLeDiff, Nat.reduceBEq, Int.reduceEq, Int.reduceNeg, tk, ntmps100, results100]
    try simp (disch := omega) only [wrap64]
    refine ⟨?_, (i + 1, kk + 1 + 1), ?_, ?_, ?_⟩
    · simp only [bK, Nat.reduceEqDiff, reduceCtorEq, ↓reduceIte, Nat.reduceBEq, Nat.reduceLeDiff, Nat.reduceAdd, if_true, if_false]
    · simp only [bK, Nat.reduceEqDiff, reduceCtorEq, ↓reduceIte, Nat.reduceBEq, Nat.reduceLeDiff, Nat.reduceAdd, if_true, if_false]
      refine stL_eq ?_ rfl
      simp only [Option.some.injEq, Ret.mk.injEq, List.cons.injEq, Prod.mk.injEq, AV.d.injEq, D.i.injEq, D.b.injEq, D.s.injEq, true_and, and_true]
      omega
    · exact ⟨by show i + 1 ≤ _; omega, hn.trans hst, by show 0 ≤ kk + 1 + 1; omega, by show kk + 1 + 1 + (lvLL (xs.drop (i + 1)) : Int) ≤ _; omega⟩
    · show xs.length - (i + 1) < xs.length - i
      omega
  · have hge := of_decide_eq_false hb
    have e : i = xs.length := by omega
    subst e
    rw [List.drop_length] at hn
    simp only [bW, ↓splitB_true, ↓splitB_false, nilCmp, opConv, eq_self, if_true, if_false, Nat.reduceEqDiff, reduceCtorEq, ↓reduceIte, Nat.reduceLT, Nat.reduceAdd, Nat.reduceMul, Nat.reduceSub, Nat.reduceLeDiff, Nat.reduceBEq, Int.reduceEq, Int.reduceNeg, tk, ntmps100, results100]
    rw [hn]; rfl

end Go.Fs.Sr

set_option linter.unusedVariables false
set_option linter.unusedSimpArgs false
set_option maxRecDepth 20000
set_option maxHeartbeats 2000000
namespace Go.Fs.Sr
open Go.Proofs.Try

theorem f61_ok {S : Nat → Option Summ} (hS : SumOK prog S) (s44 : S 44 = some (.own mtP)) (s23 : S 23 = some (.own (heldP [.i]))) (s100 : S 100 = some (.own (heldP ins2))) (ds : List D) (r : D) (hr : heldP lfun ds = some r) : FnOK prog 61 (ds.map .d) { ret := r } := by
  obtain ⟨xs, k, rfl, h1, h2, h2', h3, h4, rfl⟩ := heldP_inv hr
  clear hr
  have hsz : (lfun : List Sh).length = 6 := rfl
  rw [hsz]
  refine fnOK_awp (A := ⟨tab, S, .x⟩) tab_ok hS mixed func61 rfl rfl rfl rfl (by show 2 ≤ 69; decide) rfl ?_
  refine seqK fun K hK => ?_
  simp only [bW, ↓splitB_true, ↓splitB_false, nilCmp, opConv, eq_self, if_true, if_false, Nat.reduceEqDiff, reduceCtorEq, ↓reduceIte, Nat.reduceLT, Nat.reduceAdd, Nat.reduceMul, Nat.reduceSub, Nat.reduceLeDiff, Nat.reduceBEq, Int.reduceEq, Int.reduceNeg, tk, ntmps61, results61, s100, s23, s44]
  refine hK _ ?_; clear hK K
  refine seqK fun K hK => ?_
  refine seqK fun K2 hK2 => ?_
  simp only [bW, ↓splitB_true, ↓splitB_false, nilCmp, opConv, eq_self, if_true, if_false, Nat.reduceEqDiff, reduceCtorEq, ↓reduceIte, Nat.reduceLT, Nat.reduceAdd, Nat.reduceMul, Nat.reduceSub, Nat.reduceLeDiff, Nat.reduceBEq, Int.reduceEq, Int.reduceNeg, tk, ntmps61, results61, s100, s23, s44]
  refine hK2 _ ?_; clear hK2 K2
  rw [awp_block]
  refine loopW [0, 1, 5] (fun x : Nat × Int => stL 69 [(0, .d (.l 6 xs)), (1, .d (.i .i64 x.2)), (5, .d (.i .i64 x.1))] []) (fun x => x.1 ≤ xs.length ∧ heldLL xs k = heldLL (xs.drop x.1) x.2 ∧ 0 ≤ x.2 ∧ x.2 + lvLL (xs.drop x.1) ≤ 2305843009213693952) (fun x => xs.length - x.1) ?_ ?_
  · refine ⟨?_, (0, k), ?_, ?_⟩
    · simp only [bK, Nat.reduceEqDiff, reduceCtorEq, ↓reduceIte, Nat.reduceBEq, Nat.reduceLeDiff, Nat.reduceAdd, if_true, if_false]
    · simp only [bK, Nat.reduceEqDiff, reduceCtorEq, ↓reduceIte, Nat.reduceBEq, Nat.reduceLeDiff, Nat.reduceAdd, if_true, if_false]
      refine stL_eq ?_ rfl
      simp only [Option.some.injEq, Ret.mk.injEq, List.cons.injEq, Prod.mk.injEq, AV.d.injEq, D.i.injEq, D.b.injEq, D.s.injEq, true_and, and_true]
      try rfl
    · exact ⟨by show 0 ≤ _; omega, rfl, h3, h4⟩
  rintro ⟨i, kk⟩ ⟨hi, hn, hk0, hkl⟩
  simp only at hi hn hk0 hkl
  refine seqK fun K3 hK3 => ?_
  simp only [bW, ↓splitB_true, ↓splitB_false, nilCmp, opConv, eq_self, if_true, if_false, Nat.reduceEqDiff, reduceCtorEq, ↓reduceIte, Nat.reduceLT, Nat.reduceAdd, Nat.reduceMul, Nat.reduceSub, Nat.reduceLeDiff, Nat.reduceBEq, Int.reduceEq, Int.reduceNeg, tk, ntmps61, results61, s100, s23, s44]
  refine splitB_intro (fun hb => hK3 _ ?_) (fun hb => hK _ ?_) <;> clear hK3 K3
  · have hlt := of_decide_eq_true hb
    clear hb
    have hlt : i < xs.length := by omega
    have hrow := shLL_get h1 hlt
    have hln := lnLL_get h2' hlt
    have hst := heldLL_step (k := kk) hlt
    have hls := lvLL_step hlt
    generalize hrw : xs.getD i [] = row at hrow hln hst hls
    obtain ⟨ct1, qt1, rfl, et1, hrow⟩ := shL_cons hrow
    obtain ⟨ct2, qt2, rfl, et2, hrow⟩ := shL_cons hrow
    obtain ⟨ct3, qt3, rfl, et3, hrow⟩ := shL_cons hrow
    obtain ⟨ct4, qt4, rfl, et4, hrow⟩ := shL_cons hrow
    obtain ⟨ct5, qt5, rfl, et5, hrow⟩ := shL_cons hrow
    obtain ⟨ct6, qt6, rfl, et6, hrow⟩ := shL_cons hrow
    obtain rfl := shL_nil hrow
    obtain ⟨t1, rfl⟩ := shD_s et1
    obtain ⟨t2, rfl⟩ := shD_s et2
    obtain ⟨zt3, t3, rfl, hzt3, et3⟩ := shD_l2 et3
    obtain rfl : zt3 = 1 := hzt3
    obtain ⟨t4, rfl⟩ := shD_i et4
    obtain ⟨t5, rfl⟩ := shD_i et5
    obtain ⟨zt6, t6, rfl, hzt6, et6⟩ := shD_l2 et6
    obtain rfl : zt6 = 2 := hzt6
    simp only [lnL_cons, lnL_nil, lnD_s, lnD_i, lnD_b, lnD_l, and_true, true_and] at hln
    obtain ⟨⟨kt3, kt3'⟩, ⟨kt6, kt6'⟩⟩ := hln
    simp only [lvL, lv] at hls
    refine seqK fun K4 hK4 => ?_
    rw [awp_block]
    refine seqK fun K5 hK5 => ?_
    refine seqK fun K6 hK6 => ?_
    refine awp_quiet (by decide) ?_
    simp only [bW, ↓splitB_true, ↓splitB_false, nilCmp, opConv, eq_self, if_true, if_false, Nat.reduceEqDiff, reduceCtorEq, ↓reduceIte, Nat.reduceLT, Nat.reduceAdd, Nat.reduceMul, Nat.reduceSub, Nat.reduceLeDiff, Nat.reduceBEq, Int.reduceEq, Int.reduceNeg, tk, bQ, ntmps61, results61, s100, s23, s44]
    refine ⟨⟨by omega, by omega⟩, ?_⟩
    rw [hrw]
    simp only [bW, ↓splitB_true, ↓splitB_false, nilCmp, opConv, eq_self, if_true, if_false, Nat.reduceEqDiff, reduceCtorEq, ↓reduceIte, Nat.reduceLT, Nat.reduceAdd, Nat.reduceMul, Nat.reduceSub, Nat.reduceLeDiff, Nat.reduceBEq, Int.reduceEq, Int.reduceNeg, tk, bQ, ntmps61, results61, s100, s23, s44]
    refine OkO_mtP (by omega) ?_
    simp only [bW, ↓splitB_true, ↓splitB_false, nilCmp, opConv, eq_self, if_true, if_false, Nat.reduceEqDiff, reduceCtorEq, ↓reduceIte, Nat.reduceLT, Nat.reduceAdd, Nat.reduceMul, Nat.reduceSub, Nat.reduceLeDiff, Nat.reduceBEq, Int.reduceEq, Int.reduceNeg, tk, bQ, ntmps61, results61, s100, s23, s44]
    refine hK6 _ ?_; clear hK6 K6
    simp only [bW, ↓splitB_true, ↓splitB_false, nilCmp, opConv, eq_self, if_true, if_false, Nat.reduceEqDiff, reduceCtorEq, ↓reduceIte, Nat.reduceLT, Nat.reduceAdd, Nat.reduceMul, Nat.reduceSub, Nat.reduceLeDiff, Nat.reduceBEq, Int.reduceEq, Int.reduceNeg, tk, ntmps61, results61, s100, s23, s44]
    refine splitB_intro (fun hb => ?_) (fun hb => hK5 _ ?_) <;> clear hK5 K5
    · simp only [Bool.not_eq_true', decide_eq_false_iff_not] at hb
      rw [heldL_s0 hb] at hst
      rw [hn, hst, negOr_neg]
    simp only [Bool.not_eq_false', decide_eq_true_eq] at hb
    rw [heldL_s1 hb (by omega)] at hst
    refine seqK fun K5 hK5 => ?_
    simp only [bW, ↓splitB_true, ↓splitB_false, nilCmp, opConv, eq_self, if_true, if_false, Nat.reduceEqDiff, reduceCtorEq, ↓reduceIte, Nat.reduceLT, Nat.reduceAdd, Nat.reduceMul, Nat.reduceSub, Nat.reduceLeDiff, Nat.reduceBEq, Int.reduceEq, Int.reduceNeg, tk, ntmps61, results61, s100, s23, s44]
    simp (disch := omega) only [wrap64]
    refine hK5 _ ?_; clear hK5 K5
    refine seqK fun K5 hK5 => ?_
    refine seqK fun K6 hK6 => ?_
    refine awp_quiet (by decide) ?_
    simp only [bW, ↓splitB_true, ↓splitB_false, nilCmp, opConv, eq_self, if_true, if_false, Nat.reduceEqDiff, reduceCtorEq, ↓reduceIte, Nat.reduceLT, Nat.reduceAdd, Nat.reduceMul, Nat.reduceSub, Nat.reduceLeDiff, Nat.reduceBEq, Int.reduceEq, Int.reduceNeg, tk, bQ, ntmps61, results61, s100, s23, s44]
    refine ⟨⟨by omega, by omega⟩, ?_⟩
    rw [hrw]
    simp only [bW, ↓splitB_true, ↓splitB_false, nilCmp, opConv, eq_self, if_true, if_false, Nat.reduceEqDiff, reduceCtorEq, ↓reduceIte, Nat.reduceLT, Nat.reduceAdd, Nat.reduceMul, Nat.reduceSub, Nat.reduceLeDiff, Nat.reduceBEq, Int.reduceEq, Int.reduceNeg, tk, bQ, ntmps61, results61, s100, s23, s44]
    refine OkO_mtP (by omega) ?_
    simp only [bW, ↓splitB_true, ↓splitB_false, nilCmp, opConv, eq_self, if_true, if_false, Nat.reduceEqDiff, reduceCtorEq, ↓reduceIte, Nat.reduceLT, Nat.reduceAdd, Nat.reduceMul, Nat.reduceSub, Nat.reduceLeDiff, Nat.reduceBEq, Int.reduceEq, Int.reduceNeg, tk, bQ, ntmps61, results61, s100, s23, s44]
    refine hK6 _ ?_; clear hK6 K6
    simp only [bW, ↓splitB_true, ↓splitB_false, nilCmp, opConv, eq_self, if_true, if_false, Nat.reduceEqDiff, reduceCtorEq, ↓reduceIte, Nat.reduceLT, Nat.reduceAdd, Nat.reduceMul, Nat.reduceSub, Nat.reduceLeDiff, Nat.reduceBEq, Int.reduceEq, Int.reduceNeg, tk, ntmps61, results61, s100, s23, s44]
    refine splitB_intro (fun hb => ?_) (fun hb => hK5 _ ?_) <;> clear hK5 K5
    · simp only [Bool.not_eq_true', decide_eq_false_iff_not] at hb
      rw [heldL_s0 hb] at hst
      rw [hn, hst, negOr_neg]
    simp only [Bool.not_eq_false', decide_eq_true_eq] at hb
    rw [heldL_s1 hb (by omega)] at hst
    refine seqK fun K5 hK5 => ?_
    simp only [bW, ↓splitB_true, ↓splitB_false, nilCmp, opConv, eq_self, if_true, if_false, Nat.reduceEqDiff, reduceCtorEq, ↓reduceIte, Nat.reduceLT, Nat.reduceAdd, Nat.reduceMul, Nat.reduceSub, Nat.reduceLeDiff, Nat.reduceBEq, Int.reduceEq, Int.reduceNeg, tk, ntmps61, results61, s100, s23, s44]
    simp (disch := omega) only [wrap64]
    refine hK5 _ ?_; clear hK5 K5
    refine seqK fun K5 hK5 => ?_
    simp only [bW, ↓splitB_true, ↓splitB_false, nilCmp, opConv, eq_self, if_true, if_false, Nat.reduceEqDiff, reduceCtorEq, ↓reduceIte, Nat.reduceLT, Nat.reduceAdd, Nat.reduceMul, Nat.reduceSub, Nat.reduceLeDiff, Nat.reduceBEq, Int.reduceEq, Int.reduceNeg, tk, ntmps61, results61, s100, s23, s44]
    refine ⟨⟨by omega, by omega⟩, ?_⟩
    rw [hrw]
    simp only [bW, ↓splitB_true, ↓splitB_false, nilCmp, opConv, eq_self, if_true, if_false, Nat.reduceEqDiff, reduceCtorEq, ↓reduceIte, Nat.reduceLT, Nat.reduceAdd, Nat.reduceMul, Nat.reduceSub, Nat.reduceLeDiff, Nat.reduceBEq, Int.reduceEq, Int.reduceNeg, tk, ntmps61, results61, s100, s23, s44]
    refine OkO_heldP rfl et3 kt3 kt3' (by omega) (by omega) ?_
    simp only [bW, ↓splitB_true, ↓splitB_false, nilCmp, opConv, eq_self, if_true, if_false, Nat.reduceEqDiff, reduceCtorEq, ↓reduceIte, Nat.reduceLT, Nat.reduceAdd, Nat.reduceMul, Nat.reduceSub, Nat.reduceLeDiff, Nat.reduceBEq, Int.reduceEq, Int.reduceNeg, tk, ntmps61, results61, s100, s23, s44]
    refine hK5 _ ?_; clear hK5 K5
    refine seqK fun K5 hK5 => ?_
    simp only [bW, ↓splitB_true, ↓splitB_false, nilCmp, opConv, eq_self, if_true, if_false, Nat.reduceEqDiff, reduceCtorEq, ↓reduceIte, Nat.reduceLT, Nat.reduceAdd, Nat.reduceMul, Nat.reduceSub, Nat.reduceLeDiff, Nat.reduceBEq, Int.reduceEq, Int.reduceNeg, tk, ntmps61, results61, s100, s23, s44]
    refine splitB_intro (fun hb => ?_) (fun hb => hK5 _ ?_) <;> clear hK5 K5
    · have hb := of_decide_eq_true hb
      rw [heldL_l0 hb] at hst
      rw [hn, hst, negOr_neg]
    have hb := of_decide_eq_false hb
    have hkt3 := heldLL_k t3 (kk + 1 + 1) (by omega)
    rw [heldL_l1 hb] at hst
    refine seqK fun K5 hK5 => ?_
    simp only [bW, ↓splitB_true, ↓splitB_false, nilCmp, opConv, eq_self, if_true, if_false, Nat.reduceEqDiff, reduceCtorEq, ↓reduceIte, Nat.reduceLT, Nat.reduceAdd, Nat.reduceMul, Nat.reduceSub, Nat.reduceLeDiff, Nat.reduceBEq, Int.reduceEq, Int.reduceNeg, tk, ntmps61, results61, s100, s23, s44]
    refine ⟨⟨by omega, by omega⟩, ?_⟩
    rw [hrw]
    simp only [bW, ↓splitB_true, ↓splitB_false, nilCmp, opConv, eq_self, if_true, if_false, Nat.reduceEqDiff, reduceCtorEq, ↓reduceIte, Nat.reduceLT, Nat.reduceAdd, Nat.reduceMul, Nat.reduceSub, Nat.reduceLeDiff, Nat.reduceBEq, Int.reduceEq, Int.reduceNeg, tk, ntmps61, results61, s100, s23, s44]
    refine splitB_intro (fun hb => ?_) (fun hb => hK5 _ ?_) <;> clear hK5 K5
    · simp only [Bool.not_eq_true', decide_eq_false_iff_not] at hb
      rw [heldL_i0 hb] at hst
      rw [hn, hst, negOr_neg]
    simp only [Bool.not_eq_false', decide_eq_true_eq] at hb
    rw [heldL_i1 hb (by omega)] at hst
    refine seqK fun K5 hK5 => ?_
    simp only [bW, ↓splitB_true, ↓splitB_false, nilCmp, opConv, eq_self, if_true, if_false, Nat.reduceEqDiff, reduceCtorEq, ↓reduceIte, Nat.reduceLT, Nat.reduceAdd, Nat.reduceMul, Nat.reduceSub, Nat.reduceLeDiff, Nat.reduceBEq, Int.reduceEq, Int.reduceNeg, tk, ntmps61, results61, s100, s23, s44]
    simp (disch := omega) only [wrap64]
    refine hK5 _ ?_; clear hK5 K5
    refine seqK fun K5 hK5 => ?_
    simp only [bW, ↓splitB_true, ↓splitB_false, nilCmp, opConv, eq_self, if_true, if_false, Nat.reduceEqDiff, reduceCtorEq, ↓reduceIte, Nat.reduceLT, Nat.reduceAdd, Nat.reduceMul, Nat.reduceSub, Nat.reduceLeDiff, Nat.reduceBEq, Int.reduceEq, Int.reduceNeg, tk, ntmps61, results61, s100, s23, s44]
    refine ⟨⟨by omega, by omega⟩, ?_⟩
    rw [hrw]
    simp only [bW, ↓splitB_true, ↓splitB_false, nilCmp, opConv, eq_self, if_true, if_false, Nat.reduceEqDiff, reduceCtorEq, ↓reduceIte, Nat.reduceLT, Nat.reduceAdd, Nat.reduceMul, Nat.reduceSub, Nat.reduceLeDiff, Nat.reduceBEq, Int.reduceEq, Int.reduceNeg, tk, ntmps61, results61, s100, s23, s44]
    refine splitB_intro (fun hb => ?_) (fun hb => hK5 _ ?_) <;> clear hK5 K5
    · simp only [Bool.not_eq_true', decide_eq_false_iff_not] at hb
      rw [heldL_i0 hb] at hst
      rw [hn, hst, negOr_neg]
    simp only [Bool.not_eq_false', decide_eq_true_eq] at hb
    rw [heldL_i1 hb (by omega)] at hst
    refine seqK fun K5 hK5 => ?_
    simp only [bW, ↓splitB_true, ↓splitB_false, nilCmp, opConv, eq_self, if_true, if_false, Nat.reduceEqDiff, reduceCtorEq, ↓reduceIte, Nat.reduceLT, Nat.reduceAdd, Nat.reduceMul, Nat.reduceSub, Nat.reduceLeDiff, Nat.reduceBEq, Int.reduceEq, Int.reduceNeg, tk, ntmps61, results61, s100, s23, s44]
    simp (disch := omega) only [wrap64]
    refine hK5 _ ?_; clear hK5 K5
    refine seqK fun K5 hK5 => ?_
    simp only [bW, ↓splitB_true, ↓splitB_false, nilCmp, opConv, eq_self, if_true, if_false, Nat.reduceEqDiff, reduceCtorEq, ↓reduceIte, Nat.reduceLT, Nat.reduceAdd, Nat.reduceMul, Nat.reduceSub, Nat.reduceLeDiff, Nat.reduceBEq, Int.reduceEq, Int.reduceNeg, tk, ntmps61, results61, s100, s23, s44]
    refine ⟨⟨by omega, by omega⟩, ?_⟩
    rw [hrw]
    simp only [bW, ↓splitB_true, ↓splitB_false, nilCmp, opConv, eq_self, if_true, if_false, Nat.reduceEqDiff, reduceCtorEq, ↓reduceIte, Nat.reduceLT, Nat.reduceAdd, Nat.reduceMul, Nat.reduceSub, Nat.reduceLeDiff, Nat.reduceBEq, Int.reduceEq, Int.reduceNeg, tk, ntmps61, results61, s100, s23, s44]
    refine OkO_heldP rfl et6 kt6 kt6' (by omega) (by omega) ?_
    simp only [bW, ↓splitB_true, ↓splitB_false, nilCmp, opConv, eq_self, if_true, if_false, Nat.reduceEqDiff, reduceCtorEq, ↓reduceIte, Nat.reduceLT, Nat.reduceAdd, Nat.reduceMul, Nat.reduceSub, Nat.reduceLeDiff, Nat.reduceBEq, Int.reduceEq, Int.reduceNeg, tk, ntmps61, results61, s100, s23, s44]
    refine hK5 _ ?_; clear hK5 K5
    simp only [bW, ↓splitB_true, ↓splitB_false, nilCmp, opConv, eq_self, if_true, if_false, Nat.reduceEqDiff, reduceCtorEq, ↓reduceIte, Nat.reduceLT, Nat.reduceAdd, Nat.reduceMul, Nat.reduceSub, Nat.reduceLeDiff, Nat.reduceBEq, Int.reduceEq, Int.reduceNeg, tk, ntmps61, results61, s100, s23, s44]
    refine splitB_intro (fun hb => ?_) (fun hb => hK4 _ ?_) <;> clear hK4 K4
    · have hb := of_decide_eq_true hb
      rw [heldL_l0 hb] at hst
      rw [hn, hst, negOr_neg]
    have hb := of_decide_eq_false hb
    have hkt6 := heldLL_k t6 (heldLL t3 (kk + 1 + 1) + 1 + 1) (by omega)
    rw [heldL_l1 hb] at hst
    rw [heldL_nil, negOr_pos (by omega)] at hst
    simp only [bW, ↓splitB_true, ↓splitB_false, nilCmp, opConv, eq_self, if_true, if_false, Nat.reduceEqDiff, reduceCtorEq, ↓reduceIte, Nat.reduceLT, Nat.reduceAdd, Nat.reduceMul, Nat.reduceSub, Nat.reduceLeDiff, Nat.reduceBEq, Int.reduceEq, Int.reduceNeg, tk, ntmps61, results61, s100, s23, s44]
    try simp (disch := omega) only [wrap64]
    refine ⟨?_, (i + 1, heldLL t6 (heldLL t3 (kk + 1 + 1) + 1 + 1)), ?_, ?_, ?_⟩
    · simp only [bK, Nat.reduceEqDiff, reduceCtorEq, ↓reduceIte, Nat.reduceBEq, Nat.reduceLeDiff, Nat.reduceAdd, if_true, if_false]
    · simp only [bK, Nat.reduceEqDiff, reduceCtorEq, ↓reduceIte, Nat.reduceBEq, Nat.reduceLeDiff, Nat.reduceAdd, if_true, if_false]
      refine stL_eq ?_ rfl
      simp only [Option.some.injEq, Ret.mk.injEq, List.cons.injEq, Prod.mk.injEq, AV.d.injEq, D.i.injEq, D.b.injEq, D.s.injEq, true_and, and_true]
      omega
    · exact ⟨by show i + 1 ≤ _; omega, hn.trans hst, by show 0 ≤ heldLL t6 (heldLL t3 (kk + 1 + 1) + 1 + 1); omega, by show heldLL t6 (heldLL t3 (kk + 1 + 1) + 1 + 1) + (lvLL (xs.drop (i + 1)) : Int) ≤ _; omega⟩
    · show xs.length - (i + 1) < xs.length - i
      omega
  · have hge := of_decide_eq_false hb
    have e : i = xs.length := by omega
    subst e
    rw [List.drop_length] at hn
    simp only [bW, ↓splitB_true, ↓splitB_false, nilCmp, opConv, eq_self, if_true, if_false, Nat.reduceEqDiff, reduceCtorEq, ↓reduceIte, Nat.reduceLT, Nat.reduceAdd, Nat.reduceMul, Nat.reduceSub, Nat.reduceLeDiff, Nat.reduceBEq, Int.reduceEq, Int.reduceNeg, tk, ntmps61, results61, s100, s23, s44]
    rw [hn]; rfl

end Go.Fs.Sr

set_option linter.unusedVariables false
set_option linter.constructorNameAsVariable false
namespace Go.Fs
/-! ### a region whose order is left open: operations that make something new may move ahead of reads -/
def Ext (H H' : Nat → Option Ob) : Prop := ∀ k o, H k = some o → H' k = some o
theorem Ext.refl (H : Nat → Option Ob) : Ext H H := fun _ _ h => h
theorem ext_refl (H : Nat → Option Ob) : Ext H H = True := eq_true (Ext.refl H)
def noneB (x : Option Ob) : Bool := match x with
  | none => true
  | some _ => false
theorem noneB_none : noneB none = true := rfl
theorem ext_upd {H H' : Nat → Option Ob} {k : Nat} {o : Option Ob} (h : noneB (H k) = true) (he : Ext H H') : Ext H (upd H' k o) = True := eq_true fun j p hj => by
  by_cases e : j = k
  · subst e; rw [hj] at h; cases h
  · simp only [upd, if_neg e]; exact he j p hj

theorem opLoad_ext {T : Tab} {H H' : Nat → Option Ob} (he : Ext H H') {ty : TypeId} {p av : AV} (h : opLoad T H ty p = some av) : opLoad T H' ty p = some av := by
  unfold opLoad at h ⊢
  obtain ⟨ti, h1, h⟩ := Option.bind_eq_some_iff.1 h
  obtain ⟨ag, h2, h⟩ := Option.bind_eq_some_iff.1 h
  rw [h1, Option.bind_some, h2, Option.bind_some]
  split at h
  case isFalse => cases h
  rename_i hc
  rw [if_pos hc]
  split at h
  · split at h
    · rename_i hk; simp only [he _ _ hk]; exact h
    · cases h
  · exact h
  · exact h
  · split at h
    · rename_i hk; simp only [he _ _ hk]; exact h
    · cases h
  · cases h
theorem opField_ext {T : Tab} {H H' : Nat → Option Ob} (he : Ext H H') {ty : TypeId} {p av : AV} {f : Nat} (h : opField T H ty p f = some av) : opField T H' ty p f = some av := by
  unfold opField at h ⊢
  obtain ⟨ti, h1, h⟩ := Option.bind_eq_some_iff.1 h
  rw [h1, Option.bind_some]
  split at h
  case h_2 => cases h
  rename_i fs hk
  try rw [hk]
  obtain ⟨x, h2, h⟩ := Option.bind_eq_some_iff.1 h
  simp only [h2, Option.bind_some]
  split at h
  · split at h
    · rename_i hk; simp only [he _ _ hk]; exact h
    · cases h
  · split at h
    · rename_i hk; simp only [he _ _ hk]; exact h
    · cases h
  · exact h
  · exact h
  · cases h
theorem opIndex_ext {T : Tab} {H H' : Nat → Option Ob} (he : Ext H H') {ty : TypeId} {x ix av : AV} (h : opIndex T H ty x ix = some av) : opIndex T H' ty x ix = some av := by
  unfold opIndex at h ⊢
  obtain ⟨ti, h1, h⟩ := Option.bind_eq_some_iff.1 h
  rw [h1, Option.bind_some]
  split at h
  case h_2 => cases h
  rename_i e hk
  try rw [hk]
  obtain ⟨te, h2, h⟩ := Option.bind_eq_some_iff.1 h
  simp only [h2, Option.bind_some]
  split at h
  case h_2 => cases h
  split at h
  · split at h
    · rename_i hk; simp only [he _ _ hk]; exact h
    · cases h
  · exact h
  · cases h
/-- Reads that are moved. -/
def rdB (o : Oper) : Bool := o.guard.isNone && match o.op with
  | .move _ => true
  | .assign _ => true
  | .load _ _ => true
  | .fieldAddr _ _ _ => true
  | .indexAddr _ _ _ => true
  | _ => false
/-- Operations that may be moved ahead. -/
def frB (o : Oper) : Bool := o.guard.isNone && match o.op with
  | .move _ => true
  | .assign _ => true
  | .load _ _ => true
  | .fieldAddr _ _ _ => true
  | .indexAddr _ _ _ => true
  | .alloc _ => true
  | .box _ _ => true
  | .build _ _ => true
  | .buildSlice _ _ _ => true
  | .unOp _ _ _ => true
  | .call c => match c.callee with
    | .value _ => true
    | .builtin _ => true
    | _ => false
  | _ => false

theorem putK_frame {s s' : St} {d : Nat} {av : AV} {H : Nat → Option Ob} {K K' : St → Prop} (hn : s.n = s'.n) (hk : ∀ av H, K ⟨s.n, upd s.env d av, H⟩ → K' ⟨s'.n, upd s'.env d av, H⟩) (h : putK s (some d) av H K) : putK s' (some d) av H K' :=
  ⟨by rw [← hn]; exact h.1, hk _ _ h.2⟩
theorem callW_frame {A : Env} {s s' : St} {d : Nat} {f : FuncId} {args : List AV} {K K' : St → Prop} (hn : s.n = s'.n) (hh : s.heap = s'.heap) (hk : ∀ av H, K ⟨s.n, upd s.env d av, H⟩ → K' ⟨s'.n, upd s'.env d av, H⟩) (h : callW A s (some d) f args K) : callW A s' (some d) f args K' := by
  unfold callW at h ⊢
  rw [← hh]
  split at h
  · exact h
  · exact OkO_mono (fun ds h => OkO_mono (fun r h => ⟨by rw [← hh]; exact h.1, by rw [← hh]; exact putK_frame hn hk h.2⟩) h) h
  · exact OkO_mono (fun H1 h => ⟨by rw [← hh]; exact h.1, OkO_mono (fun ds h => OkO_mono (fun r h => putK_frame hn hk h) h) h.2⟩) h
  · split at h
    · exact h
    · split at h
      · exact ⟨h.1, OkO_mono (fun ds h => OkO_mono (fun r h => ⟨by rw [← hh]; exact h.1, by rw [← hh]; exact h.2.1, by rw [← hh]; exact putK_frame hn hk h.2.2⟩) h) h.2⟩
      · exact h
    · refine OkO_mono (fun x h => ?_) h
      unfold ioK at h ⊢
      rw [← hh]
      refine OkO_mono (fun ds h => OkO_mono (fun r h => ?_) h) h
      unfold ioK2 at h ⊢
      rw [← hh]
      exact ⟨h.1, h.2.1, OkO_mono (fun os h => ⟨by rw [← hh]; exact h.1, by rw [← hh]; exact putK_frame hn hk h.2⟩) h.2.2⟩
theorem awpG_frame {A : Env} {ops : Array Oper} {o : Oper} {s s' : St} {d : Nat} (hf : frB o = true) (hd : o.dst = some d) (ha : Agree ops o s s') (hn : s.n = s'.n) {K K' : St → Prop} (hk : ∀ av H, K ⟨s.n, upd s.env d av, H⟩ → K' ⟨s'.n, upd s'.env d av, H⟩) (h : awpG A ops.toList o s K) : awpG A ops.toList o s' K' := by
  simp only [frB, Bool.and_eq_true, Option.isNone_iff_eq_none] at hf
  obtain ⟨hg, hf⟩ := hf
  unfold awpG at h ⊢
  rw [hg] at h ⊢
  simp only at h ⊢
  have val : valW A o s K → valW A o s' K' := fun h => by
    unfold valW at h ⊢
    rw [← valOp_congr ha]
    refine OkO_mono (fun y h => ?_) h
    unfold valK at h ⊢
    rw [hd] at h ⊢
    exact putK_frame hn hk h
  unfold awpOp at h ⊢
  split at hf <;> rename_i hop <;> simp only [hop] at h ⊢ <;> try exact val h
  · rename_i c
    cases hc : c.callee with
    | invoke r m => rw [hc] at hf; cases hf
    | builtin b => rw [hc] at h; simp only at h ⊢; exact val h
    | value f =>
      rw [hc] at h
      simp only at h ⊢
      have e1 := ha.ev (x := f) (by rw [hop]; simp [Op.operands, Call.operands, hc])
      have e2 := zargs_congr (T := A.T) (s := s) (s' := s') c.args.toList c.argTypes.toList fun x hx => ha.ev (x := x) (by rw [hop]; simp [Op.operands, Call.operands, hc]; exact .inr (by simpa using hx))
      rw [← e1, ← e2]
      rw [hd] at h ⊢
      split at h
      · exact callW_frame hn ha.1 hk h
      · exact ⟨h.1, callW_frame hn ha.1 hk h.2⟩
      · exact h
  · cases hf

theorem rd_det {A : Env} {ops : Array Oper} {o : Oper} {s : St} {d : Nat} (hr : rdB o = true) (hd : o.dst = some d) {N : St → Prop} (h : awpG A ops.toList o s fun s' => s'.heap = s.heap ∧ N s') :
    ∃ av, d < s.n ∧ N ⟨s.n, upd s.env d av, s.heap⟩ ∧ ∀ (s' : St), s'.n = s.n → (∀ t ∈ o.looksAt ops, s.env t = s'.env t) → Ext s.heap s'.heap → ∀ N' : St → Prop, N' ⟨s'.n, upd s'.env d av, s'.heap⟩ → awpG A ops.toList o s' fun s'' => s''.heap = s'.heap ∧ N' s'' := by
  simp only [rdB, Bool.and_eq_true, Option.isNone_iff_eq_none] at hr
  obtain ⟨hg, hr⟩ := hr
  unfold awpG at h ⊢
  rw [hg] at h ⊢
  simp only at h ⊢
  have key : ∀ {v : Option (AV × (Nat → Option Ob))} (e : valOp A.T s o = v), OkO v (valK s o.dst fun s' => s'.heap = s.heap ∧ N s') →
      (∀ (av : AV) (s' : St), v = some (av, s.heap) → s'.n = s.n → (∀ t ∈ o.looksAt ops, s.env t = s'.env t) → Ext s.heap s'.heap → valOp A.T s' o = some (av, s'.heap)) →
      ∃ av, d < s.n ∧ N ⟨s.n, upd s.env d av, s.heap⟩ ∧ ∀ (s' : St), s'.n = s.n → (∀ t ∈ o.looksAt ops, s.env t = s'.env t) → Ext s.heap s'.heap → ∀ N' : St → Prop, N' ⟨s'.n, upd s'.env d av, s'.heap⟩ → valW A o s' fun s'' => s''.heap = s'.heap ∧ N' s'' := by
    intro v e h hst
    obtain ⟨⟨av, H1⟩, rfl, h⟩ := OkO_inv h
    unfold valK at h
    rw [hd] at h
    obtain ⟨h1, h2, h3⟩ := h
    simp only at h1 h2 h3
    subst h2
    refine ⟨av, h1, h3, fun s' hn ha he N' hN => ?_⟩
    unfold valW
    rw [hst av s' rfl hn ha he, OkO_some]
    unfold valK
    rw [hd]
    exact ⟨by rw [hn]; exact h1, rfl, hN⟩
  have ev : ∀ {s' : St} (ha : ∀ t ∈ o.looksAt ops, s.env t = s'.env t) {x : Operand}, x ∈ o.op.operands.toList → s.ev x = s'.ev x := fun {s'} ha {x} hx => by
    cases x with
    | tmp t => exact ha t (List.mem_append_left _ (List.mem_filterMap.2 ⟨.tmp t, hx, rfl⟩))
    | _ => rfl
  have map1 : ∀ {x : Option AV} {H : Nat → Option Ob} {av : AV}, x.map (·, H) = some (av, H) → x = some av := fun {x H av} h => by
    cases x with
    | none => cases h
    | some y => simp at h; rw [h]
  unfold awpOp at h ⊢
  split at hr <;> rename_i hop <;> simp only [hop] at h ⊢ <;> try (cases hr; done)
  · refine key rfl h fun av s' hv hn ha he => ?_
    have e1 := ev ha (x := _) (by rw [hop]; simp [Op.operands]; rfl)
    simp only [valOp, hop, Option.some.injEq, Prod.mk.injEq, and_true] at hv ⊢
    rw [← e1]; exact hv
  · refine key rfl h fun av s' hv hn ha he => ?_
    have e1 := ev ha (x := _) (by rw [hop]; simp [Op.operands]; rfl)
    simp only [valOp, hop, Option.some.injEq, Prod.mk.injEq, and_true] at hv ⊢
    rw [← e1]; exact hv
  · refine key rfl h fun av s' hv hn ha he => ?_
    have e1 := ev ha (x := _) (by rw [hop]; simp [Op.operands]; rfl)
    simp only [valOp, hop] at hv ⊢
    rw [← e1, opLoad_ext he (map1 hv)]
    rfl
  · refine key rfl h fun av s' hv hn ha he => ?_
    have e1 := ev ha (x := _) (by rw [hop]; simp [Op.operands]; rfl)
    simp only [valOp, hop] at hv ⊢
    rw [← e1, opField_ext he (map1 hv)]
    rfl
  · rename_i ty x i
    refine key rfl h fun av s' hv hn ha he => ?_
    have e1 := ev ha (x := x) (by rw [hop]; simp [Op.operands])
    have e2 := ev ha (x := i) (by rw [hop]; simp [Op.operands])
    simp only [valOp, hop] at hv ⊢
    rw [← e1, ← e2]
    unfold dem1 at hv ⊢
    obtain ⟨⟨x', H'⟩, hx, hv⟩ := Option.bind_eq_some_iff.1 hv
    obtain ⟨av', h1, h2⟩ := Option.map_eq_some_iff.1 hv
    simp only [Prod.mk.injEq] at h2
    obtain ⟨rfl, rfl⟩ := h2
    simp only at h1
    have hd2 : demote s'.heap (s.ev x) = some (x', s'.heap) := by
      generalize s.ev x = q at hx
      have d1 : ∀ {q x' : AV}, demote1 s.heap q = some (x', s.heap) → demote1 s'.heap q = some (x', s'.heap) := by
        intro q x' hx
        unfold demote1 at hx ⊢
        split at hx
        · split at hx
          · rename_i k ve i o xo sz xs dp fz ve' hk
            rw [he _ _ hk]
            simp only
            split at hx
            · rename_i hc
              rw [if_pos hc]
              simp only [Option.some.injEq, Prod.mk.injEq] at hx ⊢
              refine ⟨hx.1, ?_⟩
              have hx2 := hx.2
              split at hx2
              · rename_i hdf
                have := congrFun hx2 k
                rw [upd_same, hk] at this
                simp only [Option.some.injEq, Ob.row.injEq] at this
                obtain ⟨_, _, _, hfz, _⟩ := this
                rw [← hfz] at hdf
                simp at hdf
              · rename_i hdf; rw [if_neg hdf]
            · cases hx
          · cases hx
        · simp only [Option.some.injEq, Prod.mk.injEq, and_true] at hx ⊢; exact hx
      cases q <;> simp only [demote] at hx ⊢ <;> try exact d1 hx
      rename_i cs
      obtain ⟨⟨cs', H2⟩, hc, he2⟩ := Option.map_eq_some_iff.1 hx
      simp only [Prod.mk.injEq] at he2
      obtain ⟨rfl, rfl⟩ := he2
      unfold opIndex at h1
      obtain ⟨ti, _, h1⟩ := Option.bind_eq_some_iff.1 h1
      split at h1
      · obtain ⟨te, _, h1⟩ := Option.bind_eq_some_iff.1 h1
        split at h1 <;> cases h1
      · cases h1
    rw [hd2]
    show Option.map _ (opIndex A.T s'.heap ty x' (s.ev i)) = _
    rw [opIndex_ext he h1]
    rfl
end Go.Fs
