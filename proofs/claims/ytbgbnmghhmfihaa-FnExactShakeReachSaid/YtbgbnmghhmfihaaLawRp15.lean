/- A part of the proof: an evaluator of the program's code over plain data, proved sound, and walks of the program's functions by it. No conditions beyond those in the theorems. -/
import Derived.Test.YtbgbnmghhmfihaaLawRp9
import Derived.Test.YtbgbnmghhmfihaaLawRp13
import Derived.Test.YtbgbnmghhmfihaaLawRp10
set_option linter.unusedVariables false
set_option linter.unusedSimpArgs false
set_option maxRecDepth 20000
set_option maxHeartbeats 2000000
namespace Go.Fs.Sr
open Go.Proofs.Try

theorem f131c_ok {S : Nat → Option Summ} (hS : SumOK prog S) (s91 : S 91 = some (.own F91)) (xs : List (List D)) (h1 : shLL ins2 xs = true) (h2 : xs.length ≤ 140737488355328) : FnOK prog 131 [.d (.l 2 xs), .d (.f 91 [])] { ret := .i .i64 (idxP (fun x => !insB x) xs 0) } := by
  refine fnOK_awp (A := ⟨tab, S, .x⟩) tab_ok hS mixed func131 rfl rfl rfl rfl (by show 2 ≤ 19; decide) rfl ?_
  refine seqK fun K hK => ?_
  simp only [bW, ↓splitB_true, ↓splitB_false, nilCmp, opConv, eq_self, if_true, if_false, Nat.reduceEqDiff, reduceCtorEq, ↓reduceIte, Nat.reduceLT, Nat.reduceAdd, Nat.reduceMul, Nat.reduceSub, Nat.reduceLeDiff, Nat.reduceBEq, Int.reduceEq, Int.reduceNeg, tk, ntmps131, results131, s91, F91]
  refine hK _ ?_; clear hK K
  refine seqK fun K hK => ?_
  refine seqK fun K2 hK2 => ?_
  simp only [bW, ↓splitB_true, ↓splitB_false, nilCmp, opConv, eq_self, if_true, if_false, Nat.reduceEqDiff, reduceCtorEq, ↓reduceIte, Nat.reduceLT, Nat.reduceAdd, Nat.reduceMul, Nat.reduceSub, Nat.reduceLeDiff, Nat.reduceBEq, Int.reduceEq, Int.reduceNeg, tk, ntmps131, results131, s91, F91]
  refine hK2 _ ?_; clear hK2 K2
  rw [awp_block]
  refine loopW [0, 1, 7, 8] (fun i : Nat => stL 19 [(0, .d (.l 2 xs)), (1, .d (.f 91 [])), (7, .d (.i .i64 xs.length)), (8, .d (.i .i64 i))] []) (fun i => i ≤ xs.length ∧ idxP (fun x => !insB x) xs 0 = idxP (fun x => !insB x) (xs.drop i) i) (fun i => xs.length - i) ?_ ?_
  · refine ⟨?_, 0, ?_, by omega, by first | rfl | simp⟩
    · simp only [bK, Nat.reduceEqDiff, reduceCtorEq, ↓reduceIte, Nat.reduceBEq, Nat.reduceLeDiff, Nat.reduceAdd, if_true, if_false]
    · simp only [bK, Nat.reduceEqDiff, reduceCtorEq, ↓reduceIte, Nat.reduceBEq, Nat.reduceLeDiff, Nat.reduceAdd, if_true, if_false]
      refine stL_eq ?_ ?_
      · simp only [Option.some.injEq, Ret.mk.injEq, List.cons.injEq, Prod.mk.injEq, AV.d.injEq, D.i.injEq, D.b.injEq, D.s.injEq, true_and, and_true]
        first | rfl | (simp only [List.drop_zero]; omega)
      · try rfl
  rintro i ⟨hi, hn⟩
  refine seqK fun K3 hK3 => ?_
  simp only [bW, ↓splitB_true, ↓splitB_false, nilCmp, opConv, eq_self, if_true, if_false, Nat.reduceEqDiff, reduceCtorEq, ↓reduceIte, Nat.reduceLT, Nat.reduceAdd, Nat.reduceMul, Nat.reduceSub, Nat.reduceLeDiff, Nat.reduceBEq, Int.reduceEq, Int.reduceNeg, tk, ntmps131, results131, s91, F91]
  refine hK3 _ ?_; clear hK3 K3
  refine seqK fun K3 hK3 => ?_
  simp only [bW, ↓splitB_true, ↓splitB_false, nilCmp, opConv, eq_self, if_true, if_false, Nat.reduceEqDiff, reduceCtorEq, ↓reduceIte, Nat.reduceLT, Nat.reduceAdd, Nat.reduceMul, Nat.reduceSub, Nat.reduceLeDiff, Nat.reduceBEq, Int.reduceEq, Int.reduceNeg, tk, ntmps131, results131, s91, F91]
  refine splitB_intro (fun hb => hK3 _ ?_) (fun hb => hK _ ?_) <;> clear hK3 K3
  · have hlt := of_decide_eq_true hb
    clear hb
    have hlt : i < xs.length := by omega
    have hrow := shLL_get h1 hlt
    have hst := idxP_step (fun x => !insB x) hlt (i : Int)
    generalize hrw : xs.getD i [] = row at hrow hst
    obtain ⟨c1, q1, rfl, e1, hrow⟩ := shL_cons hrow
    obtain ⟨c2, q2, rfl, e2, hrow⟩ := shL_cons hrow
    obtain rfl := shL_nil hrow
    obtain ⟨op, rfl⟩ := shD_i e1
    obtain ⟨a, rfl⟩ := shD_i e2
    have hnm : ((!insB [.i .i64 op, .i .i64 a]) = true) = (¬ insP op a) := by simp [insB]
    simp only [hnm] at hst
    refine seqK fun K4 hK4 => ?_
    rw [awp_block]
    refine seqK fun K5 hK5 => ?_
    simp only [bW, ↓splitB_true, ↓splitB_false, nilCmp, opConv, eq_self, if_true, if_false, Nat.reduceEqDiff, reduceCtorEq, ↓reduceIte, Nat.reduceLT, Nat.reduceAdd, Nat.reduceMul, Nat.reduceSub, Nat.reduceLeDiff, Nat.reduceBEq, Int.reduceEq, Int.reduceNeg, tk, ntmps131, results131, s91, F91]
    refine hK5 _ ?_; clear hK5 K5
    simp only [bW, ↓splitB_true, ↓splitB_false, nilCmp, opConv, eq_self, if_true, if_false, Nat.reduceEqDiff, reduceCtorEq, ↓reduceIte, Nat.reduceLT, Nat.reduceAdd, Nat.reduceMul, Nat.reduceSub, Nat.reduceLeDiff, Nat.reduceBEq, Int.reduceEq, Int.reduceNeg, tk, ntmps131, results131, s91, F91]
    refine ⟨⟨by omega, by omega⟩, ?_⟩
    rw [hrw]
    simp only [bW, ↓splitB_true, ↓splitB_false, nilCmp, opConv, eq_self, if_true, if_false, Nat.reduceEqDiff, reduceCtorEq, ↓reduceIte, Nat.reduceLT, Nat.reduceAdd, Nat.reduceMul, Nat.reduceSub, Nat.reduceLeDiff, Nat.reduceBEq, Int.reduceEq, Int.reduceNeg, tk, ntmps131, results131, s91, F91]
    refine splitB_intro (fun hb => ?_) (fun hb => hK4 _ ?_) <;> clear hK4 K4
    · have hb := of_decide_eq_true hb
      rw [if_pos hb] at hst
      rw [hn, hst]
    have hb := of_decide_eq_false hb
    rw [if_neg hb] at hst
    simp only [bW, ↓splitB_true, ↓splitB_false, nilCmp, opConv, eq_self, if_true, if_false, Nat.reduceEqDiff, reduceCtorEq, ↓reduceIte, Nat.reduceLT, Nat.reduceAdd, Nat.reduceMul, Nat.reduceSub, Nat.reduceLeDiff, Nat.reduceBEq, Int.reduceEq, Int.reduceNeg, tk, ntmps131, results131, s91, F91]
    try simp (disch := omega) only [wrap64]
    refine ⟨?_, i + 1, ?_, ⟨?_, ?_⟩, ?_⟩
    · simp only [bK, Nat.reduceEqDiff, reduceCtorEq, ↓reduceIte, Nat.reduceBEq, Nat.reduceLeDiff, Nat.reduceAdd, if_true, if_false]
    · simp only [bK, Nat.reduceEqDiff, reduceCtorEq, ↓reduceIte, Nat.reduceBEq, Nat.reduceLeDiff, Nat.reduceAdd, if_true, if_false]
      refine stL_eq ?_ ?_
      · simp only [Option.some.injEq, Ret.mk.injEq, List.cons.injEq, Prod.mk.injEq, AV.d.injEq, D.i.injEq, D.b.injEq, D.s.injEq, true_and, and_true]
        try omega
      · try rfl
    · omega
    · rw [hn, hst]; rfl
    · omega
  · have hge := of_decide_eq_false hb
    have e : i = xs.length := by omega
    subst e
    clear hb hge
    rw [List.drop_length] at hn
    simp only [bW, ↓splitB_true, ↓splitB_false, nilCmp, opConv, eq_self, if_true, if_false, Nat.reduceEqDiff, reduceCtorEq, ↓reduceIte, Nat.reduceLT, Nat.reduceAdd, Nat.reduceMul, Nat.reduceSub, Nat.reduceLeDiff, Nat.reduceBEq, Int.reduceEq, Int.reduceNeg, tk, ntmps131, results131, s91, F91]
    rw [hn]; rfl

theorem f133a_ok {S : Nat → Option Summ} (hS : SumOK prog S) (s152 : S 152 = some (.own F152)) (xs : List (List D)) (h1 : shLL [.i] xs = true) (h2 : xs.length ≤ 140737488355328) : FnOK prog 133 [.d (.l 1 xs), .d (.f 152 [])] { ret := .i .i64 (idxP (fun x => !typB x) xs 0) } := by
  refine fnOK_awp (A := ⟨tab, S, .x⟩) tab_ok hS mixed func133 rfl rfl rfl rfl (by show 2 ≤ 19; decide) rfl ?_
  refine seqK fun K hK => ?_
  simp only [bW, ↓splitB_true, ↓splitB_false, nilCmp, opConv, eq_self, if_true, if_false, Nat.reduceEqDiff, reduceCtorEq, ↓reduceIte, Nat.reduceLT, Nat.reduceAdd, Nat.reduceMul, Nat.reduceSub, Nat.reduceLeDiff, Nat.reduceBEq, Int.reduceEq, Int.reduceNeg, tk, ntmps133, results133, s152, F152]
  refine hK _ ?_; clear hK K
  refine seqK fun K hK => ?_
  refine seqK fun K2 hK2 => ?_
  simp only [bW, ↓splitB_true, ↓splitB_false, nilCmp, opConv, eq_self, if_true, if_false, Nat.reduceEqDiff, reduceCtorEq, ↓reduceIte, Nat.reduceLT, Nat.reduceAdd, Nat.reduceMul, Nat.reduceSub, Nat.reduceLeDiff, Nat.reduceBEq, Int.reduceEq, Int.reduceNeg, tk, ntmps133, results133, s152, F152]
  refine hK2 _ ?_; clear hK2 K2
  rw [awp_block]
  refine loopW [0, 1, 7, 8] (fun i : Nat => stL 19 [(0, .d (.l 1 xs)), (1, .d (.f 152 [])), (7, .d (.i .i64 xs.length)), (8, .d (.i .i64 i))] []) (fun i => i ≤ xs.length ∧ idxP (fun x => !typB x) xs 0 = idxP (fun x => !typB x) (xs.drop i) i) (fun i => xs.length - i) ?_ ?_
  · refine ⟨?_, 0, ?_, by omega, by first | rfl | simp⟩
    · simp only [bK, Nat.reduceEqDiff, reduceCtorEq, ↓reduceIte, Nat.reduceBEq, Nat.reduceLeDiff, Nat.reduceAdd, if_true, if_false]
    · simp only [bK, Nat.reduceEqDiff, reduceCtorEq, ↓reduceIte, Nat.reduceBEq, Nat.reduceLeDiff, Nat.reduceAdd, if_true, if_false]
      refine stL_eq ?_ ?_
      · simp only [Option.some.injEq, Ret.mk.injEq, List.cons.injEq, Prod.mk.injEq, AV.d.injEq, D.i.injEq, D.b.injEq, D.s.injEq, true_and, and_true]
        first | rfl | (simp only [List.drop_zero]; omega)
      · try rfl
  rintro i ⟨hi, hn⟩
  refine seqK fun K3 hK3 => ?_
  simp only [bW, ↓splitB_true, ↓splitB_false, nilCmp, opConv, eq_self, if_true, if_false, Nat.reduceEqDiff, reduceCtorEq, ↓reduceIte, Nat.reduceLT, Nat.reduceAdd, Nat.reduceMul, Nat.reduceSub, Nat.reduceLeDiff, Nat.reduceBEq, Int.reduceEq, Int.reduceNeg, tk, ntmps133, results133, s152, F152]
  refine hK3 _ ?_; clear hK3 K3
  refine seqK fun K3 hK3 => ?_
  simp only [bW, ↓splitB_true, ↓splitB_false, nilCmp, opConv, eq_self, if_true, if_false, Nat.reduceEqDiff, reduceCtorEq, ↓reduceIte, Nat.reduceLT, Nat.reduceAdd, Nat.reduceMul, Nat.reduceSub, Nat.reduceLeDiff, Nat.reduceBEq, Int.reduceEq, Int.reduceNeg, tk, ntmps133, results133, s152, F152]
  refine splitB_intro (fun hb => hK3 _ ?_) (fun hb => hK _ ?_) <;> clear hK3 K3
  · have hlt := of_decide_eq_true hb
    clear hb
    have hlt : i < xs.length := by omega
    have hrow := shLL_get h1 hlt
    have hst := idxP_step (fun x => !typB x) hlt (i : Int)
    generalize hrw : xs.getD i [] = row at hrow hst
    obtain ⟨c1, q1, rfl, e1, hrow⟩ := shL_cons hrow
    obtain rfl := shL_nil hrow
    obtain ⟨v, rfl⟩ := shD_i e1
    have hnm : ((!typB [.i .i64 v]) = true) = (¬ (1 ≤ v ∧ v ≤ 3)) := by rw [typB, numOf, Bool.not_eq_true', decide_eq_false_iff_not]
    simp only [hnm] at hst
    refine seqK fun K4 hK4 => ?_
    rw [awp_block]
    refine seqK fun K5 hK5 => ?_
    simp only [bW, ↓splitB_true, ↓splitB_false, nilCmp, opConv, eq_self, if_true, if_false, Nat.reduceEqDiff, reduceCtorEq, ↓reduceIte, Nat.reduceLT, Nat.reduceAdd, Nat.reduceMul, Nat.reduceSub, Nat.reduceLeDiff, Nat.reduceBEq, Int.reduceEq, Int.reduceNeg, tk, ntmps133, results133, s152, F152]
    refine hK5 _ ?_; clear hK5 K5
    simp only [bW, ↓splitB_true, ↓splitB_false, nilCmp, opConv, eq_self, if_true, if_false, Nat.reduceEqDiff, reduceCtorEq, ↓reduceIte, Nat.reduceLT, Nat.reduceAdd, Nat.reduceMul, Nat.reduceSub, Nat.reduceLeDiff, Nat.reduceBEq, Int.reduceEq, Int.reduceNeg, tk, ntmps133, results133, s152, F152]
    refine ⟨⟨by omega, by omega⟩, ?_⟩
    rw [hrw]
    simp only [bW, ↓splitB_true, ↓splitB_false, nilCmp, opConv, eq_self, if_true, if_false, Nat.reduceEqDiff, reduceCtorEq, ↓reduceIte, Nat.reduceLT, Nat.reduceAdd, Nat.reduceMul, Nat.reduceSub, Nat.reduceLeDiff, Nat.reduceBEq, Int.reduceEq, Int.reduceNeg, tk, ntmps133, results133, s152, F152]
    refine splitB_intro (fun hb => ?_) (fun hb => hK4 _ ?_) <;> clear hK4 K4
    · have hb := of_decide_eq_true hb
      rw [if_pos hb] at hst
      rw [hn, hst]
    have hb := of_decide_eq_false hb
    rw [if_neg hb] at hst
    simp only [bW, ↓splitB_true, ↓splitB_false, nilCmp, opConv, eq_self, if_true, if_false, Nat.reduceEqDiff, reduceCtorEq, ↓reduceIte, Nat.reduceLT, Nat.reduceAdd, Nat.reduceMul, Nat.reduceSub, Nat.reduceLeDiff, Nat.reduceBEq, Int.reduceEq, Int.reduceNeg, tk, ntmps133, results133, s152, F152]
    try simp (disch := omega) only [wrap64]
    refine ⟨?_, i + 1, ?_, ⟨?_, ?_⟩, ?_⟩
    · simp only [bK, Nat.reduceEqDiff, reduceCtorEq, ↓reduceIte, Nat.reduceBEq, Nat.reduceLeDiff, Nat.reduceAdd, if_true, if_false]
    · simp only [bK, Nat.reduceEqDiff, reduceCtorEq, ↓reduceIte, Nat.reduceBEq, Nat.reduceLeDiff, Nat.reduceAdd, if_true, if_false]
      refine stL_eq ?_ ?_
      · simp only [Option.some.injEq, Ret.mk.injEq, List.cons.injEq, Prod.mk.injEq, AV.d.injEq, D.i.injEq, D.b.injEq, D.s.injEq, true_and, and_true]
        try omega
      · try rfl
    · omega
    · rw [hn, hst]; rfl
    · omega
  · have hge := of_decide_eq_false hb
    have e : i = xs.length := by omega
    subst e
    clear hb hge
    rw [List.drop_length] at hn
    simp only [bW, ↓splitB_true, ↓splitB_false, nilCmp, opConv, eq_self, if_true, if_false, Nat.reduceEqDiff, reduceCtorEq, ↓reduceIte, Nat.reduceLT, Nat.reduceAdd, Nat.reduceMul, Nat.reduceSub, Nat.reduceLeDiff, Nat.reduceBEq, Int.reduceEq, Int.reduceNeg, tk, ntmps133, results133, s152, F152]
    rw [hn]; rfl

theorem f133b_ok {S : Nat → Option Summ} (hS : SumOK prog S) (s94 : S 94 = some (.own F94)) (xs : List (List D)) (fs ys : List (List D)) (h3 : fs.length ≤ 140737488355328) (h1 : shLL [.i] xs = true) (h2 : xs.length ≤ 140737488355328) : FnOK prog 133 [.d (.l 1 xs), .d (.f 94 [.p [.l 6 fs, .l 1 ys]])] { ret := .i .i64 (idxP (fun x => !plcB fs.length x) xs 0) } := by
  refine fnOK_awp (A := ⟨tab, S, .x⟩) tab_ok hS mixed func133 rfl rfl rfl rfl (by show 2 ≤ 19; decide) rfl ?_
  refine seqK fun K hK => ?_
  simp only [bW, ↓splitB_true, ↓splitB_false, nilCmp, opConv, eq_self, if_true, if_false, Nat.reduceEqDiff, reduceCtorEq, ↓reduceIte, Nat.reduceLT, Nat.reduceAdd, Nat.reduceMul, Nat.reduceSub, Nat.reduceLeDiff, Nat.reduceBEq, Int.reduceEq, Int.reduceNeg, tk, ntmps133, results133, s94, F94]
  refine hK _ ?_; clear hK K
  refine seqK fun K hK => ?_
  refine seqK fun K2 hK2 => ?_
  simp only [bW, ↓splitB_true, ↓splitB_false, nilCmp, opConv, eq_self, if_true, if_false, Nat.reduceEqDiff, reduceCtorEq, ↓reduceIte, Nat.reduceLT, Nat.reduceAdd, Nat.reduceMul, Nat.reduceSub, Nat.reduceLeDiff, Nat.reduceBEq, Int.reduceEq, Int.reduceNeg, tk, ntmps133, results133, s94, F94]
  refine hK2 _ ?_; clear hK2 K2
  rw [awp_block]
  refine loopW [0, 1, 7, 8] (fun i : Nat => stL 19 [(0, .d (.l 1 xs)), (1, .d (.f 94 [.p [.l 6 fs, .l 1 ys]])), (7, .d (.i .i64 xs.length)), (8, .d (.i .i64 i))] []) (fun i => i ≤ xs.length ∧ idxP (fun x => !plcB fs.length x) xs 0 = idxP (fun x => !plcB fs.length x) (xs.drop i) i) (fun i => xs.length - i) ?_ ?_
  · refine ⟨?_, 0, ?_, by omega, by first | rfl | simp⟩
    · simp only [bK, Nat.reduceEqDiff, reduceCtorEq, ↓reduceIte, Nat.reduceBEq, Nat.reduceLeDiff, Nat.reduceAdd, if_true, if_false]
    · simp only [bK, Nat.reduceEqDiff, reduceCtorEq, ↓reduceIte, Nat.reduceBEq, Nat.reduceLeDiff, Nat.reduceAdd, if_true, if_false]
      refine stL_eq ?_ ?_
      · simp only [Option.some.injEq, Ret.mk.injEq, List.cons.injEq, Prod.mk.injEq, AV.d.injEq, D.i.injEq, D.b.injEq, D.s.injEq, true_and, and_true]
        first | rfl | (simp only [List.drop_zero]; omega)
      · try rfl
  rintro i ⟨hi, hn⟩
  refine seqK fun K3 hK3 => ?_
  simp only [bW, ↓splitB_true, ↓splitB_false, nilCmp, opConv, eq_self, if_true, if_false, Nat.reduceEqDiff, reduceCtorEq, ↓reduceIte, Nat.reduceLT, Nat.reduceAdd, Nat.reduceMul, Nat.reduceSub, Nat.reduceLeDiff, Nat.reduceBEq, Int.reduceEq, Int.reduceNeg, tk, ntmps133, results133, s94, F94]
  refine hK3 _ ?_; clear hK3 K3
  refine seqK fun K3 hK3 => ?_
  simp only [bW, ↓splitB_true, ↓splitB_false, nilCmp, opConv, eq_self, if_true, if_false, Nat.reduceEqDiff, reduceCtorEq, ↓reduceIte, Nat.reduceLT, Nat.reduceAdd, Nat.reduceMul, Nat.reduceSub, Nat.reduceLeDiff, Nat.reduceBEq, Int.reduceEq, Int.reduceNeg, tk, ntmps133, results133, s94, F94]
  refine splitB_intro (fun hb => hK3 _ ?_) (fun hb => hK _ ?_) <;> clear hK3 K3
  · have hlt := of_decide_eq_true hb
    clear hb
    have hlt : i < xs.length := by omega
    have hrow := shLL_get h1 hlt
    have hst := idxP_step (fun x => !plcB fs.length x) hlt (i : Int)
    generalize hrw : xs.getD i [] = row at hrow hst
    obtain ⟨c1, q1, rfl, e1, hrow⟩ := shL_cons hrow
    obtain rfl := shL_nil hrow
    obtain ⟨v, rfl⟩ := shD_i e1
    have hnm : ((!plcB fs.length [.i .i64 v]) = true) = (¬ (0 ≤ v ∧ v < (fs.length : Int))) := by rw [plcB, numOf, Bool.not_eq_true', decide_eq_false_iff_not]
    simp only [hnm] at hst
    refine seqK fun K4 hK4 => ?_
    rw [awp_block]
    refine seqK fun K5 hK5 => ?_
    simp only [bW, ↓splitB_true, ↓splitB_false, nilCmp, opConv, eq_self, if_true, if_false, Nat.reduceEqDiff, reduceCtorEq, ↓reduceIte, Nat.reduceLT, Nat.reduceAdd, Nat.reduceMul, Nat.reduceSub, Nat.reduceLeDiff, Nat.reduceBEq, Int.reduceEq, Int.reduceNeg, tk, ntmps133, results133, s94, F94]
    refine hK5 _ ?_; clear hK5 K5
    simp only [bW, ↓splitB_true, ↓splitB_false, nilCmp, opConv, eq_self, if_true, if_false, Nat.reduceEqDiff, reduceCtorEq, ↓reduceIte, Nat.reduceLT, Nat.reduceAdd, Nat.reduceMul, Nat.reduceSub, Nat.reduceLeDiff, Nat.reduceBEq, Int.reduceEq, Int.reduceNeg, tk, ntmps133, results133, s94, F94]
    refine ⟨⟨by omega, by omega⟩, ?_⟩
    rw [hrw]
    simp only [bW, ↓splitB_true, ↓splitB_false, nilCmp, opConv, eq_self, if_true, if_false, Nat.reduceEqDiff, reduceCtorEq, ↓reduceIte, Nat.reduceLT, Nat.reduceAdd, Nat.reduceMul, Nat.reduceSub, Nat.reduceLeDiff, Nat.reduceBEq, Int.reduceEq, Int.reduceNeg, tk, ntmps133, results133, s94, F94]
    refine ⟨h3, ?_⟩
    refine splitB_intro (fun hb => ?_) (fun hb => hK4 _ ?_) <;> clear hK4 K4
    · have hb := of_decide_eq_true hb
      rw [if_pos hb] at hst
      rw [hn, hst]
    have hb := of_decide_eq_false hb
    rw [if_neg hb] at hst
    simp only [bW, ↓splitB_true, ↓splitB_false, nilCmp, opConv, eq_self, if_true, if_false, Nat.reduceEqDiff, reduceCtorEq, ↓reduceIte, Nat.reduceLT, Nat.reduceAdd, Nat.reduceMul, Nat.reduceSub, Nat.reduceLeDiff, Nat.reduceBEq, Int.reduceEq, Int.reduceNeg, tk, ntmps133, results133, s94, F94]
    try simp (disch := omega) only [wrap64]
    refine ⟨?_, i + 1, ?_, ⟨?_, ?_⟩, ?_⟩
    · simp only [bK, Nat.reduceEqDiff, reduceCtorEq, ↓reduceIte, Nat.reduceBEq, Nat.reduceLeDiff, Nat.reduceAdd, if_true, if_false]
    · simp only [bK, Nat.reduceEqDiff, reduceCtorEq, ↓reduceIte, Nat.reduceBEq, Nat.reduceLeDiff, Nat.reduceAdd, if_true, if_false]
      refine stL_eq ?_ ?_
      · simp only [Option.some.injEq, Ret.mk.injEq, List.cons.injEq, Prod.mk.injEq, AV.d.injEq, D.i.injEq, D.b.injEq, D.s.injEq, true_and, and_true]
        try omega
      · try rfl
    · omega
    · rw [hn, hst]; rfl
    · omega
  · have hge := of_decide_eq_false hb
    have e : i = xs.length := by omega
    subst e
    clear hb hge
    rw [List.drop_length] at hn
    simp only [bW, ↓splitB_true, ↓splitB_false, nilCmp, opConv, eq_self, if_true, if_false, Nat.reduceEqDiff, reduceCtorEq, ↓reduceIte, Nat.reduceLT, Nat.reduceAdd, Nat.reduceMul, Nat.reduceSub, Nat.reduceLeDiff, Nat.reduceBEq, Int.reduceEq, Int.reduceNeg, tk, ntmps133, results133, s94, F94]
    rw [hn]; rfl

end Go.Fs.Sr

set_option linter.unusedVariables false
set_option linter.unusedSimpArgs false
set_option maxRecDepth 20000
set_option maxHeartbeats 2000000
namespace Go.Fs.Sr
open Go.Proofs.Try

theorem f131_ok {S : Nat → Option Summ} (hS : SumOK prog S) (s91 : S 91 = some (.own (F91))) (ds : List D) (r : D) (hr : F131 ds = some r) : FnOK prog 131 (ds.map .d) { ret := r } := by
  unfold F131 at hr
  split at hr
  · split at hr
    case isFalse => cases hr
    rename_i hc
    simp only [Option.some.injEq] at hr
    subst hr
    exact f131c_ok hS s91 _ hc.1 hc.2
  · cases hr

theorem f133_ok {S : Nat → Option Summ} (hS : SumOK prog S) (s152 : S 152 = some (.own F152)) (s94 : S 94 = some (.own F94)) (ds : List D) (r : D) (hr : F133 ds = some r) : FnOK prog 133 (ds.map .d) { ret := r } := by
  unfold F133 at hr
  split at hr
  · split at hr
    case isFalse => cases hr
    rename_i hc
    simp only [Option.some.injEq] at hr
    subst hr
    exact f133a_ok hS s152 _ hc.1 hc.2
  · split at hr
    case isFalse => cases hr
    rename_i hc
    simp only [Option.some.injEq] at hr
    subst hr
    exact f133b_ok hS s94 _ _ _ hc.2.2 hc.1 hc.2.1
  · cases hr

theorem f90_ok {S : Nat → Option Summ} (hS : SumOK prog S) (s131 : S 131 = some (.own F131)) (ds : List D) (r : D) (hr : F90 ds = some r) : FnOK prog 90 (ds.map .d) { ret := r } := by
  unfold F90 at hr
  split at hr
  case h_2 => cases hr
  rename_i xs
  split at hr
  case isFalse => cases hr
  rename_i hc
  obtain ⟨h1, h2⟩ := hc
  simp only [Option.some.injEq] at hr
  subst hr
  refine fnOK_awp (A := ⟨tab, S, .x⟩) tab_ok hS mixed func90 rfl rfl rfl rfl (by show 2 ≤ 9; decide) rfl ?_
  simp only [bW, ↓splitB_true, ↓splitB_false, nilCmp, opConv, eq_self, if_true, if_false, Nat.reduceEqDiff, reduceCtorEq, ↓reduceIte, Nat.reduceLT, Nat.reduceAdd, Nat.reduceMul, Nat.reduceSub, Nat.reduceLeDiff, Nat.reduceBEq, Int.reduceEq, Int.reduceNeg, tk, ntmps90, results90, s131, F131]
  refine ⟨⟨h1, by omega⟩, ?_⟩
  try simp only [bW, ↓splitB_true, ↓splitB_false, nilCmp, opConv, eq_self, if_true, if_false, Nat.reduceEqDiff, reduceCtorEq, ↓reduceIte, Nat.reduceLT, Nat.reduceAdd, Nat.reduceMul, Nat.reduceSub, Nat.reduceLeDiff, Nat.reduceBEq, Int.reduceEq, Int.reduceNeg, tk, ntmps90, results90, s131, F131]
  simp only [Option.some.injEq, Ret.mk.injEq, List.cons.injEq, Prod.mk.injEq, AV.d.injEq, D.i.injEq, D.b.injEq, D.s.injEq, true_and, and_true]
  rw [Bool.eq_iff_iff, decide_eq_true_eq]
  exact idxP_any _ _ _ (by omega)

theorem f93a_ok {S : Nat → Option Summ} (hS : SumOK prog S) (s133 : S 133 = some (.own F133)) (xs : List (List D)) (h1 : shLL [.i] xs = true) (h2 : xs.length ≤ 140737488355328) : FnOK prog 93 [.d (.l 1 xs), .d (.f 152 [])] { ret := .b (xs.any (fun x => !typB x)) } := by
  refine fnOK_awp (A := ⟨tab, S, .x⟩) tab_ok hS mixed func93 rfl rfl rfl rfl (by show 2 ≤ 9; decide) rfl ?_
  simp only [bW, ↓splitB_true, ↓splitB_false, nilCmp, opConv, eq_self, if_true, if_false, Nat.reduceEqDiff, reduceCtorEq, ↓reduceIte, Nat.reduceLT, Nat.reduceAdd, Nat.reduceMul, Nat.reduceSub, Nat.reduceLeDiff, Nat.reduceBEq, Int.reduceEq, Int.reduceNeg, tk, ntmps93, results93, s133, F133]
  refine ⟨⟨h1, by omega⟩, ?_⟩
  try simp only [bW, ↓splitB_true, ↓splitB_false, nilCmp, opConv, eq_self, if_true, if_false, Nat.reduceEqDiff, reduceCtorEq, ↓reduceIte, Nat.reduceLT, Nat.reduceAdd, Nat.reduceMul, Nat.reduceSub, Nat.reduceLeDiff, Nat.reduceBEq, Int.reduceEq, Int.reduceNeg, tk, ntmps93, results93, s133, F133]
  simp only [Option.some.injEq, Ret.mk.injEq, List.cons.injEq, Prod.mk.injEq, AV.d.injEq, D.i.injEq, D.b.injEq, D.s.injEq, true_and, and_true]
  rw [Bool.eq_iff_iff, decide_eq_true_eq]
  exact idxP_any _ _ _ (by omega)

theorem f93b_ok {S : Nat → Option Summ} (hS : SumOK prog S) (s133 : S 133 = some (.own F133)) (xs : List (List D)) (fs ys : List (List D)) (h3 : fs.length ≤ 140737488355328) (h1 : shLL [.i] xs = true) (h2 : xs.length ≤ 140737488355328) : FnOK prog 93 [.d (.l 1 xs), .d (.f 94 [.p [.l 6 fs, .l 1 ys]])] { ret := .b (xs.any (fun x => !plcB fs.length x)) } := by
  refine fnOK_awp (A := ⟨tab, S, .x⟩) tab_ok hS mixed func93 rfl rfl rfl rfl (by show 2 ≤ 9; decide) rfl ?_
  simp only [bW, ↓splitB_true, ↓splitB_false, nilCmp, opConv, eq_self, if_true, if_false, Nat.reduceEqDiff, reduceCtorEq, ↓reduceIte, Nat.reduceLT, Nat.reduceAdd, Nat.reduceMul, Nat.reduceSub, Nat.reduceLeDiff, Nat.reduceBEq, Int.reduceEq, Int.reduceNeg, tk, ntmps93, results93, s133, F133]
  refine ⟨⟨h1, by omega, h3⟩, ?_⟩
  try simp only [bW, ↓splitB_true, ↓splitB_false, nilCmp, opConv, eq_self, if_true, if_false, Nat.reduceEqDiff, reduceCtorEq, ↓reduceIte, Nat.reduceLT, Nat.reduceAdd, Nat.reduceMul, Nat.reduceSub, Nat.reduceLeDiff, Nat.reduceBEq, Int.reduceEq, Int.reduceNeg, tk, ntmps93, results93, s133, F133]
  simp only [Option.some.injEq, Ret.mk.injEq, List.cons.injEq, Prod.mk.injEq, AV.d.injEq, D.i.injEq, D.b.injEq, D.s.injEq, true_and, and_true]
  rw [Bool.eq_iff_iff, decide_eq_true_eq]
  exact idxP_any _ _ _ (by omega)

theorem f93_ok {S : Nat → Option Summ} (hS : SumOK prog S) (s133 : S 133 = some (.own F133)) (ds : List D) (r : D) (hr : F93 ds = some r) : FnOK prog 93 (ds.map .d) { ret := r } := by
  unfold F93 at hr
  split at hr
  · split at hr
    case isFalse => cases hr
    rename_i hc
    simp only [Option.some.injEq] at hr
    subst hr
    exact f93a_ok hS s133 _ hc.1 hc.2
  · split at hr
    case isFalse => cases hr
    rename_i hc
    simp only [Option.some.injEq] at hr
    subst hr
    exact f93b_ok hS s133 _ _ _ hc.2.2 hc.1 hc.2.1
  · cases hr

theorem f130_ok {S : Nat → Option Summ} (hS : SumOK prog S) (s93 : S 93 = some (.own F93)) (ds : List D) (r : D) (hr : F130 ds = some r) : FnOK prog 130 (ds.map .d) { ret := r } := by
  unfold F130 at hr
  split at hr
  case h_2 => cases hr
  rename_i xs
  split at hr
  case isFalse => cases hr
  rename_i hc
  obtain ⟨h1, h2⟩ := hc
  simp only [Option.some.injEq] at hr
  subst hr
  refine fnOK_awp (A := ⟨tab, S, .x⟩) tab_ok hS mixed func130 rfl rfl rfl rfl (by show 1 ≤ 11; decide) rfl ?_
  simp only [bW, ↓splitB_true, ↓splitB_false, nilCmp, opConv, eq_self, if_true, if_false, Nat.reduceEqDiff, reduceCtorEq, ↓reduceIte, Nat.reduceLT, Nat.reduceAdd, Nat.reduceMul, Nat.reduceSub, Nat.reduceLeDiff, Nat.reduceBEq, Int.reduceEq, Int.reduceNeg, tk, ntmps130, results130, s93, F93]
  simp only [argsB]
  refine splitB_intro (fun hb => ?_) (fun hb => ?_)
  · have hb := of_decide_eq_true hb
    rw [decide_eq_true (show xs.length ≤ 4 by omega), Bool.true_and]
    refine ⟨⟨h1, by omega⟩, ?_⟩
    try simp only [bW, ↓splitB_true, ↓splitB_false, nilCmp, opConv, eq_self, if_true, if_false, Nat.reduceEqDiff, reduceCtorEq, ↓reduceIte, Nat.reduceLT, Nat.reduceAdd, Nat.reduceMul, Nat.reduceSub, Nat.reduceLeDiff, Nat.reduceBEq, Int.reduceEq, Int.reduceNeg, tk, ntmps130, results130, s93, F93]
    simp only [Option.some.injEq, Ret.mk.injEq, List.cons.injEq, Prod.mk.injEq, AV.d.injEq, D.i.injEq, D.b.injEq, D.s.injEq, true_and, and_true]
    rw [any_not, Bool.not_not]
  · have hb := of_decide_eq_false hb
    rw [decide_eq_false (show ¬ xs.length ≤ 4 by omega), Bool.false_and]
    try trivial

theorem f89_ok {S : Nat → Option Summ} (hS : SumOK prog S) (s88 : S 88 = some (.own F85)) (s130 : S 130 = some (.own F130)) (s117 : S 117 = some (.own F117)) (s99 : S 99 = some (.own F99)) (ds : List D) (r : D) (hr : F89 ds = some r) : FnOK prog 89 (ds.map .d) { ret := r } := by
  unfold F89 at hr
  split at hr
  case h_2 => cases hr
  rename_i w xs ty sl
  split at hr
  case isFalse => cases hr
  rename_i hc
  obtain ⟨h1, h2, h3⟩ := hc
  simp only [Option.some.injEq] at hr
  subst hr
  refine fnOK_awp (A := ⟨tab, S, .x⟩) tab_ok hS mixed func89 rfl rfl rfl rfl (by show 4 ≤ 27; decide) rfl ?_
  simp only [bW, ↓splitB_true, ↓splitB_false, nilCmp, opConv, eq_self, if_true, if_false, Nat.reduceEqDiff, reduceCtorEq, ↓reduceIte, Nat.reduceLT, Nat.reduceAdd, Nat.reduceMul, Nat.reduceSub, Nat.reduceLeDiff, Nat.reduceBEq, Int.reduceEq, Int.reduceNeg, tk, ntmps89, results89, s88, s130, s117, s99, F85, F130, F117, F99]
  refine ⟨by omega, ?_⟩
  have hm : (⟨#[109, 97, 105, 110]⟩ : ByteArray) = mainW := rfl
  simp only [headB, nameB]
  rw [hm]
  generalize lexB w = p
  generalize decide (w = mainW) = q
  generalize argsB xs = a
  generalize decide (1 ≤ ty ∧ ty ≤ 3) = b
  generalize decide (0 ≤ sl ∧ sl ≤ 1000) = c
  have h4 : shLL [.i] xs = true ∧ xs.length ≤ 140737488355328 := ⟨h2, h3⟩
  generalize (shLL [.i] xs = true ∧ xs.length ≤ 140737488355328) = P at h4 ⊢
  cases p <;> cases q <;> cases a <;> cases b <;> simp only [splitB_true, splitB_false, Bool.true_or, Bool.false_or, Bool.true_and, Bool.false_and, h4, and_self, and_true, true_and]

end Go.Fs.Sr

set_option linter.unusedVariables false
set_option linter.unusedSimpArgs false
set_option maxRecDepth 20000
set_option maxHeartbeats 2000000
namespace Go.Fs.Sr
open Go.Proofs.Try

theorem f86_ok {S : Nat → Option Summ} (hS : SumOK prog S) (s125 : S 125 = some (.own F125)) (s126 : S 126 = some (.own F126)) (s127 : S 127 = some (.own F92)) (ds : List D) (r : D) (hr : F86 ds = some r) : FnOK prog 86 (ds.map .d) { ret := r } := by
  unfold F86 at hr
  split at hr
  case h_2 => cases hr
  rename_i w bb xs ty sl cs
  split at hr
  case isFalse => cases hr
  rename_i hc
  obtain ⟨h1, h2, h3, h4, h5⟩ := hc
  simp only [Option.some.injEq] at hr
  subst hr
  refine fnOK_awp (A := ⟨tab, S, .x⟩) tab_ok hS mixed func86 rfl rfl rfl rfl (by show 1 ≤ 65; decide) rfl ?_
  refine seqK fun K hK => ?_
  simp only [bW, ↓splitB_true, ↓splitB_false, nilCmp, opConv, eq_self, if_true, if_false, Nat.reduceEqDiff, reduceCtorEq, ↓reduceIte, Nat.reduceLT, Nat.reduceAdd, Nat.reduceMul, Nat.reduceSub, Nat.reduceLeDiff, Nat.reduceBEq, Int.reduceEq, Int.reduceNeg, tk, ntmps86, results86, s125, s126, s127, F125, F126, F92]
  refine hK _ ?_; clear hK K
  refine seqK fun K hK => ?_
  simp only [bW, ↓splitB_true, ↓splitB_false, nilCmp, opConv, eq_self, if_true, if_false, Nat.reduceEqDiff, reduceCtorEq, ↓reduceIte, Nat.reduceLT, Nat.reduceAdd, Nat.reduceMul, Nat.reduceSub, Nat.reduceLeDiff, Nat.reduceBEq, Int.reduceEq, Int.reduceNeg, tk, ntmps86, results86, s125, s126, s127, F125, F126, F92]
  refine ⟨by omega, ?_⟩
  have hcase : (nameB w = true ∧ xs.length ≤ 4 ∧ (1 ≤ ty ∧ ty ≤ 3) ∧ (0 ≤ sl ∧ sl ≤ 1000) ∧ cs.length ≤ 460) ∨ ¬ (nameB w = true ∧ xs.length ≤ 4 ∧ (1 ≤ ty ∧ ty ≤ 3) ∧ (0 ≤ sl ∧ sl ≤ 1000) ∧ cs.length ≤ 460) := Decidable.em _
  rcases hcase with ⟨c1, c2, c3, c4, c5⟩ | hc
  rotate_left
  · have hf : (headB w xs ty sl && codeB cs) = false := by
      rw [Bool.eq_false_iff]
      intro h
      simp only [headB, argsB, codeB, Bool.and_eq_true, decide_eq_true_eq] at h
      exact hc ⟨h.1.1, h.1.2.1.1, h.1.2.2.1, h.1.2.2.2, h.2.1⟩
    rw [hf]
    refine splitB_intro (fun hb1 => ?_) (fun hb1 => ?_)
    · trivial
    refine splitB_intro (fun hb2 => ?_) (fun hb2 => ?_)
    · trivial
    refine splitB_intro (fun hb3 => ?_) (fun hb3 => ?_)
    · trivial
    refine splitB_intro (fun hb4 => ?_) (fun hb4 => ?_)
    · trivial
    refine splitB_intro (fun hb5 => ?_) (fun hb5 => ?_)
    · trivial
    refine splitB_intro (fun hb6 => ?_) (fun hb6 => ?_)
    · trivial
    have hb2 := of_decide_eq_false hb2
    have hb3 := of_decide_eq_false hb3
    have hb4 := of_decide_eq_false hb4
    have hb5 := of_decide_eq_false hb5
    have hb6 := of_decide_eq_false hb6
    refine absurd ⟨?_, by omega, ?_, by omega, by omega⟩ hc
    · simpa using hb1
    · exact Decidable.byContradiction fun h => hb3 ((tyText_nil ty).2 h)
  have hf : (headB w xs ty sl && codeB cs) = (xs.all typB && cs.all insB) := by
    simp only [headB, argsB, codeB]
    rw [c1, decide_eq_true c2, decide_eq_true c3, decide_eq_true c4, decide_eq_true c5]
    simp
  rw [c1]
  have c3' : ¬ tyText ty = ⟨#[]⟩ := fun h => (tyText_nil ty).1 h c3
  rw [decide_eq_false c3', decide_eq_false (show ¬ (4 : Int) < (xs.length : Int) by omega), decide_eq_false (show ¬ sl < 0 by omega), decide_eq_false (show ¬ 1000 < sl by omega), decide_eq_false (show ¬ (460 : Int) < (cs.length : Int) by omega)]
  simp only [bW, ↓splitB_true, ↓splitB_false, nilCmp, opConv, eq_self, if_true, if_false, Nat.reduceEqDiff, reduceCtorEq, ↓reduceIte, Nat.reduceLT, Nat.reduceAdd, Nat.reduceMul, Nat.reduceSub, Nat.reduceLeDiff, Nat.reduceBEq, Int.reduceEq, Int.reduceNeg, tk, ntmps86, results86, s125, s126, s127, F125, F126, F92]
  refine hK _ ?_; clear hK K
  refine seqK fun K hK => ?_
  refine seqK fun K2 hK2 => ?_
  simp only [bW, ↓splitB_true, ↓splitB_false, nilCmp, opConv, eq_self, if_true, if_false, Nat.reduceEqDiff, reduceCtorEq, ↓reduceIte, Nat.reduceLT, Nat.reduceAdd, Nat.reduceMul, Nat.reduceSub, Nat.reduceLeDiff, Nat.reduceBEq, Int.reduceEq, Int.reduceNeg, tk, ntmps86, results86, s125, s126, s127, F125, F126, F92]
  refine hK2 _ ?_; clear hK2 K2
  rw [awp_block]
  refine loopW [1, 3] (fun i : Nat => stL 65 [(1, .a 500000 0), (3, .d (.i .i64 i))] [(500000, some (.box [.d (.s w), .d (.b bb), .d (.l 1 xs), .d (.i .i64 ty), .d (.i .i64 sl), .d (.l 2 cs)]))]) (fun i => i ≤ xs.length ∧ xs.all typB = (xs.drop i).all typB) (fun i => xs.length - i) ?_ ?_
  · refine ⟨?_, 0, ?_, by omega, by first | rfl | simp⟩
    · simp only [bK, Nat.reduceEqDiff, reduceCtorEq, ↓reduceIte, Nat.reduceBEq, Nat.reduceLeDiff, Nat.reduceAdd, if_true, if_false]
    · simp only [bK, Nat.reduceEqDiff, reduceCtorEq, ↓reduceIte, Nat.reduceBEq, Nat.reduceLeDiff, Nat.reduceAdd, if_true, if_false]
      refine stL_eq ?_ ?_
      · simp only [Option.some.injEq, Ret.mk.injEq, List.cons.injEq, Prod.mk.injEq, AV.d.injEq, D.i.injEq, D.b.injEq, D.s.injEq, true_and, and_true]
        first | rfl | (simp only [List.drop_zero]; omega)
      · try rfl
  rintro i ⟨hi, hn⟩
  refine seqK fun K3 hK3 => ?_
  simp only [bW, ↓splitB_true, ↓splitB_false, nilCmp, opConv, eq_self, if_true, if_false, Nat.reduceEqDiff, reduceCtorEq, ↓reduceIte, Nat.reduceLT, Nat.reduceAdd, Nat.reduceMul, Nat.reduceSub, Nat.reduceLeDiff, Nat.reduceBEq, Int.reduceEq, Int.reduceNeg, tk, ntmps86, results86, s125, s126, s127, F125, F126, F92]
  refine splitB_intro (fun hb => hK3 _ ?_) (fun hb => hK _ ?_) <;> clear hK3 K3
  · have hlt := of_decide_eq_true hb
    clear hb
    have hlt : i < xs.length := by omega
    have hrow := shLL_get h2 hlt
    have hst := all_step typB (xs := xs) hlt
    generalize hrw : xs.getD i [] = row at hrow hst
    obtain ⟨c1', q1, rfl, e1, hrow⟩ := shL_cons hrow
    obtain rfl := shL_nil hrow
    obtain ⟨v, rfl⟩ := shD_i e1
    have hnm : typB [.i .i64 v] = decide (1 ≤ v ∧ v ≤ 3) := rfl
    rw [hnm] at hst
    refine seqK fun K4 hK4 => ?_
    rw [awp_block]
    simp only [bW, ↓splitB_true, ↓splitB_false, nilCmp, opConv, eq_self, if_true, if_false, Nat.reduceEqDiff, reduceCtorEq, ↓reduceIte, Nat.reduceLT, Nat.reduceAdd, Nat.reduceMul, Nat.reduceSub, Nat.reduceLeDiff, Nat.reduceBEq, Int.reduceEq, Int.reduceNeg, tk, ntmps86, results86, s125, s126, s127, F125, F126, F92]
    refine ⟨⟨by omega, by omega⟩, ?_⟩
    rw [hrw]
    simp only [bW, ↓splitB_true, ↓splitB_false, nilCmp, opConv, eq_self, if_true, if_false, Nat.reduceEqDiff, reduceCtorEq, ↓reduceIte, Nat.reduceLT, Nat.reduceAdd, Nat.reduceMul, Nat.reduceSub, Nat.reduceLeDiff, Nat.reduceBEq, Int.reduceEq, Int.reduceNeg, tk, ntmps86, results86, s125, s126, s127, F125, F126, F92]
    refine splitB_intro (fun hb => ?_) (fun hb => hK4 _ ?_) <;> clear hK4 K4
    · have hb := (tyText_nil v).1 (of_decide_eq_true hb)
      rw [decide_eq_false hb, Bool.false_and] at hst
      rw [hf, hn, hst, Bool.false_and]
    have hb : 1 ≤ v ∧ v ≤ 3 := Decidable.byContradiction fun h => of_decide_eq_false hb ((tyText_nil v).2 h)
    rw [decide_eq_true hb, Bool.true_and] at hst
    simp only [bW, ↓splitB_true, ↓splitB_false, nilCmp, opConv, eq_self, if_true, if_false, Nat.reduceEqDiff, reduceCtorEq, ↓reduceIte, Nat.reduceLT, Nat.reduceAdd, Nat.reduceMul, Nat.reduceSub, Nat.reduceLeDiff, Nat.reduceBEq, Int.reduceEq, Int.reduceNeg, tk, ntmps86, results86, s125, s126, s127, F125, F126, F92]
    try simp (disch := omega) only [wrap64]
    refine ⟨?_, i + 1, ?_, ⟨?_, ?_⟩, ?_⟩
    · simp only [bK, Nat.reduceEqDiff, reduceCtorEq, ↓reduceIte, Nat.reduceBEq, Nat.reduceLeDiff, Nat.reduceAdd, if_true, if_false]
    · simp only [bK, Nat.reduceEqDiff, reduceCtorEq, ↓reduceIte, Nat.reduceBEq, Nat.reduceLeDiff, Nat.reduceAdd, if_true, if_false]
      refine stL_eq ?_ ?_
      · simp only [Option.some.injEq, Ret.mk.injEq, List.cons.injEq, Prod.mk.injEq, AV.d.injEq, D.i.injEq, D.b.injEq, D.s.injEq, true_and, and_true]
        try omega
      · try rfl
    · omega
    · rw [hn, hst]
    · omega
  · have hge := of_decide_eq_false hb
    have e : i = xs.length := by omega
    subst e
    clear hb hge
    rw [List.drop_length, List.all_nil] at hn
    rw [hn, Bool.true_and] at hf
    clear hn
    refine seqK fun K hK => ?_
    refine seqK fun K2 hK2 => ?_
    simp only [bW, ↓splitB_true, ↓splitB_false, nilCmp, opConv, eq_self, if_true, if_false, Nat.reduceEqDiff, reduceCtorEq, ↓reduceIte, Nat.reduceLT, Nat.reduceAdd, Nat.reduceMul, Nat.reduceSub, Nat.reduceLeDiff, Nat.reduceBEq, Int.reduceEq, Int.reduceNeg, tk, ntmps86, results86, s125, s126, s127, F125, F126, F92]
    refine hK2 _ ?_; clear hK2 K2
    rw [awp_block]
    refine loopW [1, 4] (fun i : Nat => stL 65 [(1, .a 500000 0), (4, .d (.i .i64 i))] [(500000, some (.box [.d (.s w), .d (.b bb), .d (.l 1 xs), .d (.i .i64 ty), .d (.i .i64 sl), .d (.l 2 cs)]))]) (fun i => i ≤ cs.length ∧ cs.all insB = (cs.drop i).all insB) (fun i => cs.length - i) ?_ ?_
    · refine ⟨?_, 0, ?_, by omega, by first | rfl | simp⟩
      · simp only [bK, Nat.reduceEqDiff, reduceCtorEq, ↓reduceIte, Nat.reduceBEq, Nat.reduceLeDiff, Nat.reduceAdd, if_true, if_false]
      · simp only [bK, Nat.reduceEqDiff, reduceCtorEq, ↓reduceIte, Nat.reduceBEq, Nat.reduceLeDiff, Nat.reduceAdd, if_true, if_false]
        refine stL_eq ?_ ?_
        · simp only [Option.some.injEq, Ret.mk.injEq, List.cons.injEq, Prod.mk.injEq, AV.d.injEq, D.i.injEq, D.b.injEq, D.s.injEq, true_and, and_true]
          first | rfl | (simp only [List.drop_zero]; omega)
        · try rfl
    rintro i ⟨hi, hn⟩
    refine seqK fun K3 hK3 => ?_
    simp only [bW, ↓splitB_true, ↓splitB_false, nilCmp, opConv, eq_self, if_true, if_false, Nat.reduceEqDiff, reduceCtorEq, ↓reduceIte, Nat.reduceLT, Nat.reduceAdd, Nat.reduceMul, Nat.reduceSub, Nat.reduceLeDiff, Nat.reduceBEq, Int.reduceEq, Int.reduceNeg, tk, ntmps86, results86, s125, s126, s127, F125, F126, F92]
    refine splitB_intro (fun hb => hK3 _ ?_) (fun hb => hK _ ?_) <;> clear hK3 K3
    · have hlt := of_decide_eq_true hb
      clear hb
      have hlt : i < cs.length := by omega
      have hrow := shLL_get h4 hlt
      have hst := all_step insB (xs := cs) hlt
      generalize hrw : cs.getD i [] = row at hrow hst
      obtain ⟨c1', q1, rfl, e1, hrow⟩ := shL_cons hrow
      obtain ⟨c2', q2, rfl, e2, hrow⟩ := shL_cons hrow
      obtain rfl := shL_nil hrow
      obtain ⟨op, rfl⟩ := shD_i e1
      obtain ⟨a, rfl⟩ := shD_i e2
      have hnm : insB [.i .i64 op, .i .i64 a] = decide (insP op a) := rfl
      rw [hnm] at hst
      refine seqK fun K4 hK4 => ?_
      rw [awp_block]
      simp only [bW, ↓splitB_true, ↓splitB_false, nilCmp, opConv, eq_self, if_true, if_false, Nat.reduceEqDiff, reduceCtorEq, ↓reduceIte, Nat.reduceLT, Nat.reduceAdd, Nat.reduceMul, Nat.reduceSub, Nat.reduceLeDiff, Nat.reduceBEq, Int.reduceEq, Int.reduceNeg, tk, ntmps86, results86, s125, s126, s127, F125, F126, F92]
      refine ⟨⟨by omega, by omega⟩, ?_⟩
      rw [hrw]
      simp only [bW, ↓splitB_true, ↓splitB_false, nilCmp, opConv, eq_self, if_true, if_false, Nat.reduceEqDiff, reduceCtorEq, ↓reduceIte, Nat.reduceLT, Nat.reduceAdd, Nat.reduceMul, Nat.reduceSub, Nat.reduceLeDiff, Nat.reduceBEq, Int.reduceEq, Int.reduceNeg, tk, ntmps86, results86, s125, s126, s127, F125, F126, F92]
      refine splitB_intro (fun hb => ?_) (fun hb => hK4 _ ?_) <;> clear hK4 K4
      · have hb : decide (insP op a) = false := by simpa using hb
        rw [hb, Bool.false_and] at hst
        rw [hf, hn, hst]
      have hb : decide (insP op a) = true := by simpa using hb
      rw [hb, Bool.true_and] at hst
      simp only [bW, ↓splitB_true, ↓splitB_false, nilCmp, opConv, eq_self, if_true, if_false, Nat.reduceEqDiff, reduceCtorEq, ↓reduceIte, Nat.reduceLT, Nat.reduceAdd, Nat.reduceMul, Nat.reduceSub, Nat.reduceLeDiff, Nat.reduceBEq, Int.reduceEq, Int.reduceNeg, tk, ntmps86, results86, s125, s126, s127, F125, F126, F92]
      try simp (disch := omega) only [wrap64]
      refine ⟨?_, i + 1, ?_, ⟨?_, ?_⟩, ?_⟩
      · simp only [bK, Nat.reduceEqDiff, reduceCtorEq, ↓reduceIte, Nat.reduceBEq, Nat.reduceLeDiff, Nat.reduceAdd, if_true, if_false]
      · simp only [bK, Nat.reduceEqDiff, reduceCtorEq, ↓reduceIte, Nat.reduceBEq, Nat.reduceLeDiff, Nat.reduceAdd, if_true, if_false]
        refine stL_eq ?_ ?_
        · simp only [Option.some.injEq, Ret.mk.injEq, List.cons.injEq, Prod.mk.injEq, AV.d.injEq, D.i.injEq, D.b.injEq, D.s.injEq, true_and, and_true]
          try omega
        · try rfl
      · omega
      · rw [hn, hst]
      · omega
    · have hge := of_decide_eq_false hb
      have e : i = cs.length := by omega
      subst e
      clear hb hge
      rw [List.drop_length, List.all_nil] at hn
      simp only [bW, ↓splitB_true, ↓splitB_false, nilCmp, opConv, eq_self, if_true, if_false, Nat.reduceEqDiff, reduceCtorEq, ↓reduceIte, Nat.reduceLT, Nat.reduceAdd, Nat.reduceMul, Nat.reduceSub, Nat.reduceLeDiff, Nat.reduceBEq, Int.reduceEq, Int.reduceNeg, tk, ntmps86, results86, s125, s126, s127, F125, F126, F92]
      rw [hf, hn]

end Go.Fs.Sr

set_option linter.unusedVariables false
namespace Go.Fs.Sr
theorem codeN_wt (x : List D) : codeN x ≤ wtL x := by
  unfold codeN
  split
  · simp only [wtL, wt]; omega
  · omega
theorem manyN_wt : ∀ (xs : List (List D)), manyN xs ≤ wtLL xs
  | [] => Nat.le_refl _
  | x :: xs => by
    have := manyN_wt xs
    have := codeN_wt x
    simp only [manyN, wtLL]
    omega
theorem manyN_drop : ∀ (xs : List (List D)) (i : Nat), manyN (xs.drop i) ≤ manyN xs
  | [], i => by simp
  | x :: xs, 0 => Nat.le_refl _
  | x :: xs, i + 1 => by
    have := manyN_drop xs i
    simp only [List.drop_succ_cons, manyN]
    omega
end Go.Fs.Sr

set_option linter.unusedVariables false
set_option linter.unusedSimpArgs false
set_option maxRecDepth 20000
set_option maxHeartbeats 2000000
namespace Go.Fs.Sr
open Go.Proofs.Try

theorem f53_ok {S : Nat → Option Summ} (hS : SumOK prog S) (s88 : S 88 = some (.own F85)) (s89 : S 89 = some (.own F89)) (s90 : S 90 = some (.own F90)) (s93 : S 93 = some (.own F93)) (ds : List D) (r : D) (hr : F53 ds = some r) : FnOK prog 53 (ds.map .d) { ret := r } := by
  unfold F53 at hr
  split at hr
  case h_2 => cases hr
  rename_i fs ns
  split at hr
  case isFalse => cases hr
  rename_i hc
  obtain ⟨h1, h2, h3, h4, h5, h6, h7⟩ := hc
  simp only [Option.some.injEq] at hr
  subst hr
  have hmw := manyN_wt fs
  refine fnOK_awp (A := ⟨tab, S, .x⟩) tab_ok hS mixed func53 rfl rfl rfl rfl (by show 1 ≤ 67; decide) rfl ?_
  refine seqK fun K hK => ?_
  simp only [bW, ↓splitB_true, ↓splitB_false, nilCmp, opConv, eq_self, if_true, if_false, Nat.reduceEqDiff, reduceCtorEq, ↓reduceIte, Nat.reduceLT, Nat.reduceAdd, Nat.reduceMul, Nat.reduceSub, Nat.reduceLeDiff, Nat.reduceBEq, Int.reduceEq, Int.reduceNeg, tk, ntmps53, results53, s88, s89, s90, s93, F85, F89, F90, F93]
  refine hK _ ?_; clear hK K
  refine seqK fun K hK => ?_
  simp only [bW, ↓splitB_true, ↓splitB_false, nilCmp, opConv, eq_self, if_true, if_false, Nat.reduceEqDiff, reduceCtorEq, ↓reduceIte, Nat.reduceLT, Nat.reduceAdd, Nat.reduceMul, Nat.reduceSub, Nat.reduceLeDiff, Nat.reduceBEq, Int.reduceEq, Int.reduceNeg, tk, ntmps53, results53, s88, s89, s90, s93, F85, F89, F90, F93]
  refine hK _ ?_; clear hK K
  refine seqK fun K hK => ?_
  refine seqK fun K2 hK2 => ?_
  simp only [bW, ↓splitB_true, ↓splitB_false, nilCmp, opConv, eq_self, if_true, if_false, Nat.reduceEqDiff, reduceCtorEq, ↓reduceIte, Nat.reduceLT, Nat.reduceAdd, Nat.reduceMul, Nat.reduceSub, Nat.reduceLeDiff, Nat.reduceBEq, Int.reduceEq, Int.reduceNeg, tk, ntmps53, results53, s88, s89, s90, s93, F85, F89, F90, F93]
  refine hK2 _ ?_; clear hK2 K2
  rw [awp_block]
  refine loopW [1, 3, 7, 8, 9] (fun i : Nat => stL 67 [(1, .a 500000 0), (3, .d (.i .i64 ((manyN fs : Int) - manyN (fs.drop i)))), (7, .d (.l 6 fs)), (8, .d (.i .i64 fs.length)), (9, .d (.i .i64 i))] [(500000, some (.box [.d (.l 6 fs), .d (.l 1 ns)]))]) (fun i => i ≤ fs.length ∧ fs.all funB = (fs.drop i).all funB) (fun i => fs.length - i) ?_ ?_
  · refine ⟨?_, 0, ?_, by omega, by first | rfl | simp⟩
    · simp only [bK, Nat.reduceEqDiff, reduceCtorEq, ↓reduceIte, Nat.reduceBEq, Nat.reduceLeDiff, Nat.reduceAdd, if_true, if_false]
    · simp only [bK, Nat.reduceEqDiff, reduceCtorEq, ↓reduceIte, Nat.reduceBEq, Nat.reduceLeDiff, Nat.reduceAdd, if_true, if_false]
      refine stL_eq ?_ ?_
      · simp only [Option.some.injEq, Ret.mk.injEq, List.cons.injEq, Prod.mk.injEq, AV.d.injEq, D.i.injEq, D.b.injEq, D.s.injEq, true_and, and_true]
        first | rfl | (simp only [List.drop_zero]; omega)
      · try rfl
  rintro i ⟨hi, hn⟩
  refine seqK fun K3 hK3 => ?_
  simp only [bW, ↓splitB_true, ↓splitB_false, nilCmp, opConv, eq_self, if_true, if_false, Nat.reduceEqDiff, reduceCtorEq, ↓reduceIte, Nat.reduceLT, Nat.reduceAdd, Nat.reduceMul, Nat.reduceSub, Nat.reduceLeDiff, Nat.reduceBEq, Int.reduceEq, Int.reduceNeg, tk, ntmps53, results53, s88, s89, s90, s93, F85, F89, F90, F93]
  refine hK3 _ ?_; clear hK3 K3
  refine seqK fun K3 hK3 => ?_
  simp only [bW, ↓splitB_true, ↓splitB_false, nilCmp, opConv, eq_self, if_true, if_false, Nat.reduceEqDiff, reduceCtorEq, ↓reduceIte, Nat.reduceLT, Nat.reduceAdd, Nat.reduceMul, Nat.reduceSub, Nat.reduceLeDiff, Nat.reduceBEq, Int.reduceEq, Int.reduceNeg, tk, ntmps53, results53, s88, s89, s90, s93, F85, F89, F90, F93]
  refine splitB_intro (fun hb => hK3 _ ?_) (fun hb => hK _ ?_) <;> clear hK3 K3
  · have hlt := of_decide_eq_true hb
    clear hb
    have hlt : i < fs.length := by omega
    have hrow := shLL_get h1 hlt
    have hok := okLL_get h2 hlt
    have hwt := wtLL_mono hlt
    have hst := all_step funB (xs := fs) hlt
    have hmn := manyN_step hlt
    have hml := manyN_drop fs i
    generalize hrw : fs.getD i [] = row at hrow hok hwt hst hmn
    obtain ⟨cm, qm, rfl, em, hrow⟩ := shL_cons hrow
    obtain ⟨cw, qw, rfl, ew, hrow⟩ := shL_cons hrow
    obtain ⟨ca, qa, rfl, ea, hrow⟩ := shL_cons hrow
    obtain ⟨cy, qy, rfl, ey, hrow⟩ := shL_cons hrow
    obtain ⟨cl, ql, rfl, el, hrow⟩ := shL_cons hrow
    obtain ⟨cc, qc, rfl, ec, hrow⟩ := shL_cons hrow
    obtain rfl := shL_nil hrow
    obtain ⟨m, rfl⟩ := shD_s em
    obtain ⟨w, rfl⟩ := shD_s ew
    obtain ⟨za, ps, rfl, hza, ha⟩ := shD_l2 ea
    obtain rfl : za = 1 := hza
    obtain ⟨ty, rfl⟩ := shD_i ey
    obtain ⟨sl, rfl⟩ := shD_i el
    obtain ⟨zc, cs, rfl, hzc, hc⟩ := shD_l2 ec
    obtain rfl : zc = 2 := hzc
    simp only [okL_cons, okL_nil, okD_s, okD_l, okD_i, okD_b, and_true, true_and] at hok
    obtain ⟨k1, k2, ⟨k3, k3'⟩, k4, k5, ⟨k6, k6'⟩⟩ := hok
    simp only [codeN] at hmn
    simp only [wtL, wt] at hwt
    have hnm : funB [.s m, .s w, .l 1 ps, .i .i64 ty, .i .i64 sl, .l 2 cs] = (lexB m && (headB w ps ty sl && codeB cs)) := rfl
    rw [hnm] at hst
    refine seqK fun K4 hK4 => ?_
    rw [awp_block]
    refine seqK fun K5 hK5 => ?_
    simp only [bW, ↓splitB_true, ↓splitB_false, nilCmp, opConv, eq_self, if_true, if_false, Nat.reduceEqDiff, reduceCtorEq, ↓reduceIte, Nat.reduceLT, Nat.reduceAdd, Nat.reduceMul, Nat.reduceSub, Nat.reduceLeDiff, Nat.reduceBEq, Int.reduceEq, Int.reduceNeg, tk, ntmps53, results53, s88, s89, s90, s93, F85, F89, F90, F93]
    refine ⟨⟨by omega, by omega⟩, ?_⟩
    rw [hrw]
    simp only [bW, ↓splitB_true, ↓splitB_false, nilCmp, opConv, eq_self, if_true, if_false, Nat.reduceEqDiff, reduceCtorEq, ↓reduceIte, Nat.reduceLT, Nat.reduceAdd, Nat.reduceMul, Nat.reduceSub, Nat.reduceLeDiff, Nat.reduceBEq, Int.reduceEq, Int.reduceNeg, tk, ntmps53, results53, s88, s89, s90, s93, F85, F89, F90, F93]
    refine hK5 _ ?_; clear hK5 K5
    refine seqK fun K5 hK5 => ?_
    simp only [bW, ↓splitB_true, ↓splitB_false, nilCmp, opConv, eq_self, if_true, if_false, Nat.reduceEqDiff, reduceCtorEq, ↓reduceIte, Nat.reduceLT, Nat.reduceAdd, Nat.reduceMul, Nat.reduceSub, Nat.reduceLeDiff, Nat.reduceBEq, Int.reduceEq, Int.reduceNeg, tk, ntmps53, results53, s88, s89, s90, s93, F85, F89, F90, F93]
    simp (disch := omega) only [wrap64]
    refine hK5 _ ?_; clear hK5 K5
    simp only [bW, ↓splitB_true, ↓splitB_false, nilCmp, opConv, eq_self, if_true, if_false, Nat.reduceEqDiff, reduceCtorEq, ↓reduceIte, Nat.reduceLT, Nat.reduceAdd, Nat.reduceMul, Nat.reduceSub, Nat.reduceLeDiff, Nat.reduceBEq, Int.reduceEq, Int.reduceNeg, tk, ntmps53, results53, s88, s89, s90, s93, F85, F89, F90, F93]
    refine ⟨by omega, ?_⟩
    have hbad : (lexB m && (headB w ps ty sl && codeB cs)) = false → imgB fs ns = false := fun h => by
      rw [h, Bool.false_and] at hst
      simp only [imgB]
      rw [hn, hst, Bool.false_and, Bool.and_false]
    refine splitB_intro (fun hb => ?_) (fun hb => ?_)
    · rw [hbad (by rw [show lexB m = false by simpa using hb, Bool.false_and])]
    have b1 : lexB m = true := by simpa using hb
    refine ⟨⟨k2, ha, k3⟩, ?_⟩
    refine splitB_intro (fun hb => ?_) (fun hb => ?_)
    · rw [hbad (by rw [show headB w ps ty sl = false by simpa using hb]; simp)]
    have b2 : headB w ps ty sl = true := by simpa using hb
    refine splitB_intro (fun hb => ?_) (fun hb => ?_)
    · have hb := of_decide_eq_true hb
      rw [hbad (by simp only [codeB]; rw [decide_eq_false (show ¬ cs.length ≤ 460 by omega)]; simp)]
    have b3 := of_decide_eq_false hb
    refine ⟨⟨hc, k6⟩, ?_⟩
    rw [any_not]
    refine splitB_intro (fun hb => ?_) (fun hb => hK4 _ ?_) <;> clear hK4 K4
    · rw [hbad (by simp only [codeB]; rw [show cs.all insB = false by simpa using hb]; simp)]
    have hall : cs.all insB = true := by simpa using hb
    have hcb : codeB cs = true := by
      simp only [codeB]
      rw [hall, decide_eq_true (show cs.length ≤ 460 by omega)]
      rfl
    rw [b1, b2, hcb] at hst
    simp only [Bool.true_and] at hst
    clear hbad
    simp only [bW, ↓splitB_true, ↓splitB_false, nilCmp, opConv, eq_self, if_true, if_false, Nat.reduceEqDiff, reduceCtorEq, ↓reduceIte, Nat.reduceLT, Nat.reduceAdd, Nat.reduceMul, Nat.reduceSub, Nat.reduceLeDiff, Nat.reduceBEq, Int.reduceEq, Int.reduceNeg, tk, ntmps53, results53, s88, s89, s90, s93, F85, F89, F90, F93]
    try simp (disch := omega) only [wrap64]
    refine ⟨?_, i + 1, ?_, ⟨?_, ?_⟩, ?_⟩
    · simp only [bK, Nat.reduceEqDiff, reduceCtorEq, ↓reduceIte, Nat.reduceBEq, Nat.reduceLeDiff, Nat.reduceAdd, if_true, if_false]
    · simp only [bK, Nat.reduceEqDiff, reduceCtorEq, ↓reduceIte, Nat.reduceBEq, Nat.reduceLeDiff, Nat.reduceAdd, if_true, if_false]
      refine stL_eq ?_ ?_
      · simp only [Option.some.injEq, Ret.mk.injEq, List.cons.injEq, Prod.mk.injEq, AV.d.injEq, D.i.injEq, D.b.injEq, D.s.injEq, true_and, and_true]
        try omega
      · try rfl
    · omega
    · rw [hn, hst]
    · omega
  · have hge := of_decide_eq_false hb
    have e : i = fs.length := by omega
    subst e
    clear hb hge
    rw [List.drop_length, List.all_nil] at hn
    simp only [bW, ↓splitB_true, ↓splitB_false, nilCmp, opConv, eq_self, if_true, if_false, Nat.reduceEqDiff, reduceCtorEq, ↓reduceIte, Nat.reduceLT, Nat.reduceAdd, Nat.reduceMul, Nat.reduceSub, Nat.reduceLeDiff, Nat.reduceBEq, Int.reduceEq, Int.reduceNeg, tk, ntmps53, results53, s88, s89, s90, s93, F85, F89, F90, F93]
    rw [show manyN (fs.drop fs.length) = 0 by rw [List.drop_length]; rfl]
    simp only [imgB]
    rw [hn, any_not, Bool.not_not, Bool.true_and]
    have e2 : ∀ P Q R S : Prop, (P → Q) → True := fun _ _ _ _ _ => trivial
    clear e2
    by_cases c1 : fs.length ≤ 72
    rotate_left
    · rw [decide_eq_false (show ¬ ((fs.length : Int) ≤ 72) by omega), decide_eq_false (fun h : fs.length ≤ 72 ∧ ns.length ≤ 8 => c1 h.1), Bool.false_and]
      trivial
    rw [decide_eq_true (show ((fs.length : Int) ≤ 72) by omega)]
    by_cases c2 : ns.length ≤ 8
    rotate_left
    · rw [decide_eq_false (show ¬ ((ns.length : Int) ≤ 8) by omega), decide_eq_false (fun h : fs.length ≤ 72 ∧ ns.length ≤ 8 => c2 h.2), Bool.false_and]
      trivial
    rw [decide_eq_true (show ((ns.length : Int) ≤ 8) by omega), decide_eq_true (show fs.length ≤ 72 ∧ ns.length ≤ 8 from ⟨c1, c2⟩), Bool.true_and]
    by_cases c3 : manyN fs ≤ 3680
    rotate_left
    · rw [decide_eq_false (show ¬ ((manyN fs : Int) - ((0 : Nat) : Int) ≤ 3680) by omega), decide_eq_false c3, Bool.false_and]
      trivial
    rw [decide_eq_true (show (manyN fs : Int) - ((0 : Nat) : Int) ≤ 3680 by omega), decide_eq_true c3, Bool.true_and]
    exact ⟨rfl, ⟨h5, by omega, by omega⟩, rfl⟩

end Go.Fs.Sr
