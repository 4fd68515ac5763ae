/- A part of the proof: an evaluator of the program's code over plain data, proved sound, and walks of the program's functions by it. No conditions beyond those in the theorems. -/
import Derived.Test.YtbgbnmghhmfihaaLawIp8
import Derived.Test.YtbgbnmghhmfihaaLawIp12
import Derived.Test.YtbgbnmghhmfihaaLawIp9
set_option linter.unusedVariables false
set_option linter.unusedSimpArgs false
set_option maxRecDepth 20000
set_option maxHeartbeats 2000000
namespace Go.Fs.Sr
open Go.Proofs.Try

theorem f88_ok {S : Nat → Option Summ} (hS : SumOK prog S) (s99 : S 99 = some (.own F99)) (s129 : S 129 = some (.own F124)) (ds : List D) (r : D) (hr : F85 ds = some r) : FnOK prog 88 (ds.map .d) { ret := r } := by
  unfold F85 at hr
  split at hr
  case h_2 => cases hr
  rename_i w
  split at hr
  case isFalse => cases hr
  rename_i hc
  have hc2 := hc
  simp only [Option.some.injEq] at hr
  subst hr
  refine fnOK_awp (A := ⟨tab, S, .x⟩) tab_ok hS mixed func88 rfl rfl rfl rfl (by show 1 ≤ 28; decide) rfl ?_
  refine seqK fun K hK => ?_
  simp only [bW, ↓splitB_true, ↓splitB_false, nilCmp, opConv, eq_self, if_true, if_false, Nat.reduceEqDiff, reduceCtorEq, ↓reduceIte, Nat.reduceLT, Nat.reduceAdd, Nat.reduceMul, Nat.reduceSub, Nat.reduceLeDiff, Nat.reduceBEq, Int.reduceEq, Int.reduceNeg, tk, ntmps88, results88, s99, s129, F99, F124, opByte]
  refine hK _ ?_; clear hK K
  refine seqK fun K hK => ?_
  refine seqK fun K2 hK2 => ?_
  simp only [bW, ↓splitB_true, ↓splitB_false, nilCmp, opConv, eq_self, if_true, if_false, Nat.reduceEqDiff, reduceCtorEq, ↓reduceIte, Nat.reduceLT, Nat.reduceAdd, Nat.reduceMul, Nat.reduceSub, Nat.reduceLeDiff, Nat.reduceBEq, Int.reduceEq, Int.reduceNeg, tk, ntmps88, results88, s99, s129, F99, F124, opByte]
  refine hK2 _ ?_; clear hK2 K2
  rw [awp_block]
  refine loopW [0, 5, 6] (fun i : Nat => stL 28 [(0, .d (.s w)), (5, .d (.i .i64 w.size)), (6, .d (.i .i64 i))] []) (fun i => i ≤ w.size ∧ w.data.toList.all low = (w.data.toList.drop i).all low) (fun i => w.size - i) ?_ ?_
  · refine ⟨?_, 0, ?_, by omega, by first | rfl | simp⟩
    · simp only [bK, Nat.reduceEqDiff, reduceCtorEq, ↓reduceIte, Nat.reduceBEq, Nat.reduceLeDiff, Nat.reduceAdd, if_true, if_false]
    · simp only [bK, Nat.reduceEqDiff, reduceCtorEq, ↓reduceIte, Nat.reduceBEq, Nat.reduceLeDiff, Nat.reduceAdd, if_true, if_false]
      refine stL_eq ?_ ?_
      · simp only [Option.some.injEq, Ret.mk.injEq, List.cons.injEq, Prod.mk.injEq, AV.d.injEq, D.i.injEq, D.b.injEq, D.s.injEq, true_and, and_true]
        first | rfl | (simp only [List.drop_zero]; omega)
      · try rfl
  rintro i ⟨hi, hn⟩
  refine seqK fun K3 hK3 => ?_
  simp only [bW, ↓splitB_true, ↓splitB_false, nilCmp, opConv, eq_self, if_true, if_false, Nat.reduceEqDiff, reduceCtorEq, ↓reduceIte, Nat.reduceLT, Nat.reduceAdd, Nat.reduceMul, Nat.reduceSub, Nat.reduceLeDiff, Nat.reduceBEq, Int.reduceEq, Int.reduceNeg, tk, ntmps88, results88, s99, s129, F99, F124, opByte]
  refine hK3 _ ?_; clear hK3 K3
  refine seqK fun K3 hK3 => ?_
  simp only [bW, ↓splitB_true, ↓splitB_false, nilCmp, opConv, eq_self, if_true, if_false, Nat.reduceEqDiff, reduceCtorEq, ↓reduceIte, Nat.reduceLT, Nat.reduceAdd, Nat.reduceMul, Nat.reduceSub, Nat.reduceLeDiff, Nat.reduceBEq, Int.reduceEq, Int.reduceNeg, tk, ntmps88, results88, s99, s129, F99, F124, opByte]
  refine splitB_intro (fun hb => hK3 _ ?_) (fun hb => hK _ ?_) <;> clear hK3 K3
  · have hlt := of_decide_eq_true hb
    clear hb
    have hlt : i < w.size := by omega
    have hst := low_step (w := w) hlt
    have hb0 : low (w.data.getD i 0) = decide (97 ≤ byteAt w i ∧ byteAt w i ≤ 122) := by
      rw [byteAt_nat]; simp only [low]; rw [decide_eq_decide]; omega
    rw [hb0] at hst
    refine seqK fun K4 hK4 => ?_
    rw [awp_block]
    refine seqK fun K5 hK5 => ?_
    simp only [bW, ↓splitB_true, ↓splitB_false, nilCmp, opConv, eq_self, if_true, if_false, Nat.reduceEqDiff, reduceCtorEq, ↓reduceIte, Nat.reduceLT, Nat.reduceAdd, Nat.reduceMul, Nat.reduceSub, Nat.reduceLeDiff, Nat.reduceBEq, Int.reduceEq, Int.reduceNeg, tk, ntmps88, results88, s99, s129, F99, F124, opByte]
    refine hK5 _ ?_; clear hK5 K5
    simp only [bW, ↓splitB_true, ↓splitB_false, nilCmp, opConv, eq_self, if_true, if_false, Nat.reduceEqDiff, reduceCtorEq, ↓reduceIte, Nat.reduceLT, Nat.reduceAdd, Nat.reduceMul, Nat.reduceSub, Nat.reduceLeDiff, Nat.reduceBEq, Int.reduceEq, Int.reduceNeg, tk, ntmps88, results88, s99, s129, F99, F124, opByte]
    refine ⟨⟨by omega, by omega⟩, ?_⟩
    generalize byteAt w i = c at hst ⊢
    refine splitB_intro (fun hb => ?_) (fun hb => ?_)
    · have hb := of_decide_eq_true hb
      rw [decide_eq_false (by omega), Bool.false_and] at hst
      simp only [lexB]
      rw [hn, hst, Bool.and_false, Bool.and_false]
    have hb := of_decide_eq_false hb
    refine ⟨⟨by omega, by omega⟩, ?_⟩
    refine splitB_intro (fun hb2 => ?_) (fun hb2 => hK4 _ ?_) <;> clear hK4 K4
    · have hb2 := of_decide_eq_true hb2
      rw [decide_eq_false (by omega), Bool.false_and] at hst
      simp only [lexB]
      rw [hn, hst, Bool.and_false, Bool.and_false]
    have hb2 := of_decide_eq_false hb2
    rw [decide_eq_true (by omega), Bool.true_and] at hst
    simp only [bW, ↓splitB_true, ↓splitB_false, nilCmp, opConv, eq_self, if_true, if_false, Nat.reduceEqDiff, reduceCtorEq, ↓reduceIte, Nat.reduceLT, Nat.reduceAdd, Nat.reduceMul, Nat.reduceSub, Nat.reduceLeDiff, Nat.reduceBEq, Int.reduceEq, Int.reduceNeg, tk, ntmps88, results88, s99, s129, F99, F124, opByte]
    try simp (disch := omega) only [wrap64]
    refine ⟨?_, i + 1, ?_, ⟨?_, ?_⟩, ?_⟩
    · simp only [bK, Nat.reduceEqDiff, reduceCtorEq, ↓reduceIte, Nat.reduceBEq, Nat.reduceLeDiff, Nat.reduceAdd, if_true, if_false]
    · simp only [bK, Nat.reduceEqDiff, reduceCtorEq, ↓reduceIte, Nat.reduceBEq, Nat.reduceLeDiff, Nat.reduceAdd, if_true, if_false]
      refine stL_eq ?_ ?_
      · simp only [Option.some.injEq, Ret.mk.injEq, List.cons.injEq, Prod.mk.injEq, AV.d.injEq, D.i.injEq, D.b.injEq, D.s.injEq, true_and, and_true]
        try omega
      · try rfl
    · omega
    · rw [hn, hst]
    · omega
  · have hge := of_decide_eq_false hb
    have e : i = w.size := by omega
    subst e
    clear hb hge
    rw [List.drop_eq_nil_of_le (by simp)] at hn
    simp only [bW, ↓splitB_true, ↓splitB_false, nilCmp, opConv, eq_self, if_true, if_false, Nat.reduceEqDiff, reduceCtorEq, ↓reduceIte, Nat.reduceLT, Nat.reduceAdd, Nat.reduceMul, Nat.reduceSub, Nat.reduceLeDiff, Nat.reduceBEq, Int.reduceEq, Int.reduceNeg, tk, ntmps88, results88, s99, s129, F99, F124, opByte]
    simp only [lexB]
    rw [hn, List.all_nil, Bool.and_true]
    by_cases h18 : 1 ≤ w.size ∧ w.size ≤ 8
    · have e1 : (decide (1 ≤ (w.size : Int) ∧ (w.size : Int) ≤ 8)) = true := decide_eq_true (by omega)
      rw [e1, decide_eq_true h18]
      trivial
    · have e1 : (decide (1 ≤ (w.size : Int) ∧ (w.size : Int) ≤ 8)) = false := decide_eq_false (by omega)
      rw [e1, decide_eq_false h18]
      trivial

end Go.Fs.Sr

set_option linter.unusedVariables false
set_option linter.unusedSimpArgs false
set_option maxRecDepth 20000
set_option maxHeartbeats 2000000
namespace Go.Fs.Sr
open Go.Proofs.Try

theorem f85_ok {S : Nat → Option Summ} (hS : SumOK prog S) (s124 : S 124 = some (.own F124)) (ds : List D) (r : D) (hr : F85 ds = some r) : FnOK prog 85 (ds.map .d) { ret := r } := by
  unfold F85 at hr
  split at hr
  case h_2 => cases hr
  rename_i w
  split at hr
  case isFalse => cases hr
  rename_i hc
  have hc2 := hc
  simp only [Option.some.injEq] at hr
  subst hr
  refine fnOK_awp (A := ⟨tab, S, .x⟩) tab_ok hS mixed func85 rfl rfl rfl rfl (by show 1 ≤ 32; decide) rfl ?_
  refine seqK fun K hK => ?_
  simp only [bW, ↓splitB_true, ↓splitB_false, nilCmp, opConv, eq_self, if_true, if_false, Nat.reduceEqDiff, reduceCtorEq, ↓reduceIte, Nat.reduceLT, Nat.reduceAdd, Nat.reduceMul, Nat.reduceSub, Nat.reduceLeDiff, Nat.reduceBEq, Int.reduceEq, Int.reduceNeg, tk, ntmps85, results85, s124, F124, opByte]
  refine hK _ ?_; clear hK K
  refine seqK fun K hK => ?_
  simp only [bW, ↓splitB_true, ↓splitB_false, nilCmp, opConv, eq_self, if_true, if_false, Nat.reduceEqDiff, reduceCtorEq, ↓reduceIte, Nat.reduceLT, Nat.reduceAdd, Nat.reduceMul, Nat.reduceSub, Nat.reduceLeDiff, Nat.reduceBEq, Int.reduceEq, Int.reduceNeg, tk, ntmps85, results85, s124, F124, opByte]
  have hcase : (1 ≤ w.size ∧ w.size ≤ 8 ∧ ownB w = false) ∨ ¬ (1 ≤ w.size ∧ w.size ≤ 8 ∧ ownB w = false) := Decidable.em _
  rcases hcase with ⟨c1, c2, c3⟩ | hc
  rotate_left
  · have hf : lexB w = false := by
      simp only [lexB]
      cases ho : ownB w with
      | true => simp
      | false =>
        have : ¬ (1 ≤ w.size ∧ w.size ≤ 8) := fun h => hc ⟨h.1, h.2, ho⟩
        rw [decide_eq_false this, Bool.false_and]
    rw [hf]
    refine splitB_intro (fun hb => ?_) (fun hb => ?_)
    · trivial
    have hb := of_decide_eq_false hb
    refine splitB_intro (fun hb2 => ?_) (fun hb2 => ?_)
    · trivial
    have hb2 := of_decide_eq_false hb2
    refine splitB_intro (fun hb3 => ?_) (fun hb3 => ?_)
    · trivial
    exact absurd ⟨by omega, by omega, hb3⟩ hc
  rw [c3]
  refine splitB_intro (fun hb => ?_) (fun hb => ?_)
  · exact absurd (of_decide_eq_true hb) (by omega)
  refine splitB_intro (fun hb => ?_) (fun hb => ?_)
  · exact absurd (of_decide_eq_true hb) (by omega)
  simp only [bW, ↓splitB_true, ↓splitB_false, nilCmp, opConv, eq_self, if_true, if_false, Nat.reduceEqDiff, reduceCtorEq, ↓reduceIte, Nat.reduceLT, Nat.reduceAdd, Nat.reduceMul, Nat.reduceSub, Nat.reduceLeDiff, Nat.reduceBEq, Int.reduceEq, Int.reduceNeg, tk, ntmps85, results85, s124, F124, opByte]
  refine hK _ ?_; clear hK K
  refine seqK fun K hK => ?_
  refine seqK fun K2 hK2 => ?_
  simp only [bW, ↓splitB_true, ↓splitB_false, nilCmp, opConv, eq_self, if_true, if_false, Nat.reduceEqDiff, reduceCtorEq, ↓reduceIte, Nat.reduceLT, Nat.reduceAdd, Nat.reduceMul, Nat.reduceSub, Nat.reduceLeDiff, Nat.reduceBEq, Int.reduceEq, Int.reduceNeg, tk, ntmps85, results85, s124, F124, opByte]
  refine hK2 _ ?_; clear hK2 K2
  rw [awp_block]
  refine loopW [0, 3] (fun i : Nat => stL 32 [(0, .d (.s w)), (3, .d (.i .i64 i))] []) (fun i => i ≤ w.size ∧ w.data.toList.all low = (w.data.toList.drop i).all low) (fun i => w.size - i) ?_ ?_
  · refine ⟨?_, 0, ?_, by omega, by first | rfl | simp⟩
    · simp only [bK, Nat.reduceEqDiff, reduceCtorEq, ↓reduceIte, Nat.reduceBEq, Nat.reduceLeDiff, Nat.reduceAdd, if_true, if_false]
    · simp only [bK, Nat.reduceEqDiff, reduceCtorEq, ↓reduceIte, Nat.reduceBEq, Nat.reduceLeDiff, Nat.reduceAdd, if_true, if_false]
      refine stL_eq ?_ ?_
      · simp only [Option.some.injEq, Ret.mk.injEq, List.cons.injEq, Prod.mk.injEq, AV.d.injEq, D.i.injEq, D.b.injEq, D.s.injEq, true_and, and_true]
        first | rfl | (simp only [List.drop_zero]; omega)
      · try rfl
  rintro i ⟨hi, hn⟩
  refine seqK fun K3 hK3 => ?_
  simp only [bW, ↓splitB_true, ↓splitB_false, nilCmp, opConv, eq_self, if_true, if_false, Nat.reduceEqDiff, reduceCtorEq, ↓reduceIte, Nat.reduceLT, Nat.reduceAdd, Nat.reduceMul, Nat.reduceSub, Nat.reduceLeDiff, Nat.reduceBEq, Int.reduceEq, Int.reduceNeg, tk, ntmps85, results85, s124, F124, opByte]
  refine splitB_intro (fun hb => hK3 _ ?_) (fun hb => hK _ ?_) <;> clear hK3 K3
  · have hlt := of_decide_eq_true hb
    clear hb
    have hlt : i < w.size := by omega
    have hst := low_step (w := w) hlt
    have hb0 : low (w.data.getD i 0) = decide (97 ≤ byteAt w i ∧ byteAt w i ≤ 122) := by
      rw [byteAt_nat]; simp only [low]; rw [decide_eq_decide]; omega
    rw [hb0] at hst
    refine seqK fun K4 hK4 => ?_
    rw [awp_block]
    simp only [bW, ↓splitB_true, ↓splitB_false, nilCmp, opConv, eq_self, if_true, if_false, Nat.reduceEqDiff, reduceCtorEq, ↓reduceIte, Nat.reduceLT, Nat.reduceAdd, Nat.reduceMul, Nat.reduceSub, Nat.reduceLeDiff, Nat.reduceBEq, Int.reduceEq, Int.reduceNeg, tk, ntmps85, results85, s124, F124, opByte]
    refine ⟨⟨by omega, by omega⟩, ?_⟩
    generalize byteAt w i = c at hst ⊢
    refine splitB_intro (fun hb => ?_) (fun hb => ?_)
    · have hb := of_decide_eq_true hb
      rw [decide_eq_false (by omega), Bool.false_and] at hst
      simp only [lexB]
      rw [hn, hst, Bool.and_false, Bool.and_false]
    have hb := of_decide_eq_false hb
    refine ⟨⟨by omega, by omega⟩, ?_⟩
    refine splitB_intro (fun hb2 => ?_) (fun hb2 => hK4 _ ?_) <;> clear hK4 K4
    · have hb2 := of_decide_eq_true hb2
      rw [decide_eq_false (by omega), Bool.false_and] at hst
      simp only [lexB]
      rw [hn, hst, Bool.and_false, Bool.and_false]
    have hb2 := of_decide_eq_false hb2
    rw [decide_eq_true (by omega), Bool.true_and] at hst
    simp only [bW, ↓splitB_true, ↓splitB_false, nilCmp, opConv, eq_self, if_true, if_false, Nat.reduceEqDiff, reduceCtorEq, ↓reduceIte, Nat.reduceLT, Nat.reduceAdd, Nat.reduceMul, Nat.reduceSub, Nat.reduceLeDiff, Nat.reduceBEq, Int.reduceEq, Int.reduceNeg, tk, ntmps85, results85, s124, F124, opByte]
    try simp (disch := omega) only [wrap64]
    refine ⟨?_, i + 1, ?_, ⟨?_, ?_⟩, ?_⟩
    · simp only [bK, Nat.reduceEqDiff, reduceCtorEq, ↓reduceIte, Nat.reduceBEq, Nat.reduceLeDiff, Nat.reduceAdd, if_true, if_false]
    · simp only [bK, Nat.reduceEqDiff, reduceCtorEq, ↓reduceIte, Nat.reduceBEq, Nat.reduceLeDiff, Nat.reduceAdd, if_true, if_false]
      refine stL_eq ?_ ?_
      · simp only [Option.some.injEq, Ret.mk.injEq, List.cons.injEq, Prod.mk.injEq, AV.d.injEq, D.i.injEq, D.b.injEq, D.s.injEq, true_and, and_true]
        try omega
      · try rfl
    · omega
    · rw [hn, hst]
    · omega
  · have hge := of_decide_eq_false hb
    have e : i = w.size := by omega
    subst e
    clear hb hge
    rw [List.drop_eq_nil_of_le (by simp)] at hn
    simp only [bW, ↓splitB_true, ↓splitB_false, nilCmp, opConv, eq_self, if_true, if_false, Nat.reduceEqDiff, reduceCtorEq, ↓reduceIte, Nat.reduceLT, Nat.reduceAdd, Nat.reduceMul, Nat.reduceSub, Nat.reduceLeDiff, Nat.reduceBEq, Int.reduceEq, Int.reduceNeg, tk, ntmps85, results85, s124, F124, opByte]
    simp only [lexB]
    rw [hn, c3, decide_eq_true ⟨c1, c2⟩]
    rfl

theorem f125_ok {S : Nat → Option Summ} (hS : SumOK prog S) (s85 : S 85 = some (.own F85)) (ds : List D) (r : D) (hr : F125 ds = some r) : FnOK prog 125 (ds.map .d) { ret := r } := by
  unfold F125 at hr
  split at hr
  case h_2 => cases hr
  rename_i w
  split at hr
  case isFalse => cases hr
  rename_i hc
  have hc2 := hc
  simp only [Option.some.injEq] at hr
  subst hr
  refine fnOK_awp (A := ⟨tab, S, .x⟩) tab_ok hS mixed func125 rfl rfl rfl rfl (by show 1 ≤ 9; decide) rfl ?_
  simp only [bW, ↓splitB_true, ↓splitB_false, nilCmp, opConv, eq_self, if_true, if_false, Nat.reduceEqDiff, reduceCtorEq, ↓reduceIte, Nat.reduceLT, Nat.reduceAdd, Nat.reduceMul, Nat.reduceSub, Nat.reduceLeDiff, Nat.reduceBEq, Int.reduceEq, Int.reduceNeg, tk, ntmps125, results125, s85, F85]
  refine ⟨by omega, ?_⟩
  have hm : (⟨#[109, 97, 105, 110]⟩ : ByteArray) = mainW := rfl
  simp only [nameB]
  cases hl : lexB w with
  | true => simp only [bW, ↓splitB_true, ↓splitB_false, nilCmp, opConv, eq_self, if_true, if_false, Nat.reduceEqDiff, reduceCtorEq, ↓reduceIte, Nat.reduceLT, Nat.reduceAdd, Nat.reduceMul, Nat.reduceSub, Nat.reduceLeDiff, Nat.reduceBEq, Int.reduceEq, Int.reduceNeg, tk, ntmps125, results125, s85, F85]; rw [Bool.true_or]
  | false => simp only [bW, ↓splitB_true, ↓splitB_false, nilCmp, opConv, eq_self, if_true, if_false, Nat.reduceEqDiff, reduceCtorEq, ↓reduceIte, Nat.reduceLT, Nat.reduceAdd, Nat.reduceMul, Nat.reduceSub, Nat.reduceLeDiff, Nat.reduceBEq, Int.reduceEq, Int.reduceNeg, tk, ntmps125, results125, s85, F85]; rw [hm, Bool.false_or]

end Go.Fs.Sr

set_option linter.unusedVariables false
set_option linter.unusedSimpArgs false
set_option maxRecDepth 20000
set_option maxHeartbeats 2000000
namespace Go.Fs.Sr
open Go.Proofs.Try

theorem f131c_ok {S : Nat → Option Summ} (hS : SumOK prog S) (s91 : S 91 = some (.own F91)) (xs : List (List D)) (h1 : shLL ins2 xs = true) (h2 : xs.length ≤ 140737488355328) : FnOK prog 131 [.d (.l 2 xs), .d (.f 91 [])] { ret := .i .i64 (idxP (fun x => !insB x) xs 0) } := by
  refine fnOK_awp (A := ⟨tab, S, .x⟩) tab_ok hS mixed func131 rfl rfl rfl rfl (by show 2 ≤ 19; decide) rfl ?_
  refine seqK fun K hK => ?_
  simp only [bW, ↓splitB_true, ↓splitB_false, nilCmp, opConv, eq_self, if_true, if_false, Nat.reduceEqDiff, reduceCtorEq, ↓reduceIte, Nat.reduceLT, Nat.reduceAdd, Nat.reduceMul, Nat.reduceSub, Nat.reduceLeDiff, Nat.reduceBEq, Int.reduceEq, Int.reduceNeg, tk, ntmps131, results131, s91, F91]
  refine hK _ ?_; clear hK K
  refine seqK fun K hK => ?_
  refine seqK fun K2 hK2 => ?_
  simp only [bW, ↓splitB_true, ↓splitB_false, nilCmp, opConv, eq_self, if_true, if_false, Nat.reduceEqDiff, reduceCtorEq, ↓reduceIte, Nat.reduceLT, Nat.reduceAdd, Nat.reduceMul, Nat.reduceSub, Nat.reduceLeDiff, Nat.reduceBEq, Int.reduceEq, Int.reduceNeg, tk, ntmps131, results131, s91, F91]
  refine hK2 _ ?_; clear hK2 K2
  rw [awp_block]
  refine loopW [0, 1, 7, 8] (fun i : Nat => stL 19 [(0, .d (.l 2 xs)), (1, .d (.f 91 [])), (7, .d (.i .i64 xs.length)), (8, .d (.i .i64 i))] []) (fun i => i ≤ xs.length ∧ idxP (fun x => !insB x) xs 0 = idxP (fun x => !insB x) (xs.drop i) i) (fun i => xs.length - i) ?_ ?_
  · refine ⟨?_, 0, ?_, by omega, by first | rfl | simp⟩
    · simp only [bK, Nat.reduceEqDiff, reduceCtorEq, ↓reduceIte, Nat.reduceBEq, Nat.reduceLeDiff, Nat.reduceAdd, if_true, if_false]
    · simp only [bK, Nat.reduceEqDiff, reduceCtorEq, ↓reduceIte, Nat.reduceBEq, Nat.reduceLeDiff, Nat.reduceAdd, if_true, if_false]
      refine stL_eq ?_ ?_
      · simp only [Option.some.injEq, Ret.mk.injEq, List.cons.injEq, Prod.mk.injEq, AV.d.injEq, D.i.injEq, D.b.injEq, D.s.injEq, true_and, and_true]
        first | rfl | (simp only [List.drop_zero]; omega)
      · try rfl
  rintro i ⟨hi, hn⟩
  refine seqK fun K3 hK3 => ?_
  simp only [bW, ↓splitB_true, ↓splitB_false, nilCmp, opConv, eq_self, if_true, if_false, Nat.reduceEqDiff, reduceCtorEq, ↓reduceIte, Nat.reduceLT, Nat.reduceAdd, Nat.reduceMul, Nat.reduceSub, Nat.reduceLeDiff, Nat.reduceBEq, Int.reduceEq, Int.reduceNeg, tk, ntmps131, results131, s91, F91]
  refine hK3 _ ?_; clear hK3 K3
  refine seqK fun K3 hK3 => ?_
  simp only [bW, ↓splitB_true, ↓splitB_false, nilCmp, opConv, eq_self, if_true, if_false, Nat.reduceEqDiff, reduceCtorEq, ↓reduceIte, Nat.reduceLT, Nat.reduceAdd, Nat.reduceMul, Nat.reduceSub, Nat.reduceLeDiff, Nat.reduceBEq, Int.reduceEq, Int.reduceNeg, tk, ntmps131, results131, s91, F91]
  refine splitB_intro (fun hb => hK3 _ ?_) (fun hb => hK _ ?_) <;> clear hK3 K3
  · have hlt := of_decide_eq_true hb
    clear hb
    have hlt : i < xs.length := by omega
    have hrow := shLL_get h1 hlt
    have hst := idxP_step (fun x => !insB x) hlt (i : Int)
    generalize hrw : xs.getD i [] = row at hrow hst
    obtain ⟨c1, q1, rfl, e1, hrow⟩ := shL_cons hrow
    obtain ⟨c2, q2, rfl, e2, hrow⟩ := shL_cons hrow
    obtain rfl := shL_nil hrow
    obtain ⟨op, rfl⟩ := shD_i e1
    obtain ⟨a, rfl⟩ := shD_i e2
    have hnm : ((!insB [.i .i64 op, .i .i64 a]) = true) = (¬ insP op a) := by simp [insB]
    simp only [hnm] at hst
    refine seqK fun K4 hK4 => ?_
    rw [awp_block]
    refine seqK fun K5 hK5 => ?_
    simp only [bW, ↓splitB_true, ↓splitB_false, nilCmp, opConv, eq_self, if_true, if_false, Nat.reduceEqDiff, reduceCtorEq, ↓reduceIte, Nat.reduceLT, Nat.reduceAdd, Nat.reduceMul, Nat.reduceSub, Nat.reduceLeDiff, Nat.reduceBEq, Int.reduceEq, Int.reduceNeg, tk, ntmps131, results131, s91, F91]
    refine hK5 _ ?_; clear hK5 K5
    simp only [bW, ↓splitB_true, ↓splitB_false, nilCmp, opConv, eq_self, if_true, if_false, Nat.reduceEqDiff, reduceCtorEq, ↓reduceIte, Nat.reduceLT, Nat.reduceAdd, Nat.reduceMul, Nat.reduceSub, Nat.reduceLeDiff, Nat.reduceBEq, Int.reduceEq, Int.reduceNeg, tk, ntmps131, results131, s91, F91]
    refine ⟨⟨by omega, by omega⟩, ?_⟩
    rw [hrw]
    simp only [bW, ↓splitB_true, ↓splitB_false, nilCmp, opConv, eq_self, if_true, if_false, Nat.reduceEqDiff, reduceCtorEq, ↓reduceIte, Nat.reduceLT, Nat.reduceAdd, Nat.reduceMul, Nat.reduceSub, Nat.reduceLeDiff, Nat.reduceBEq, Int.reduceEq, Int.reduceNeg, tk, ntmps131, results131, s91, F91]
    refine splitB_intro (fun hb => ?_) (fun hb => hK4 _ ?_) <;> clear hK4 K4
    · have hb := of_decide_eq_true hb
      rw [if_pos hb] at hst
      rw [hn, hst]
    have hb := of_decide_eq_false hb
    rw [if_neg hb] at hst
    simp only [bW, ↓splitB_true, ↓splitB_false, nilCmp, opConv, eq_self, if_true, if_false, Nat.reduceEqDiff, reduceCtorEq, ↓reduceIte, Nat.reduceLT, Nat.reduceAdd, Nat.reduceMul, Nat.reduceSub, Nat.reduceLeDiff, Nat.reduceBEq, Int.reduceEq, Int.reduceNeg, tk, ntmps131, results131, s91, F91]
    try simp (disch := omega) only [wrap64]
    refine ⟨?_, i + 1, ?_, ⟨?_, ?_⟩, ?_⟩
    · simp only [bK, Nat.reduceEqDiff, reduceCtorEq, ↓reduceIte, Nat.reduceBEq, Nat.reduceLeDiff, Nat.reduceAdd, if_true, if_false]
    · simp only [bK, Nat.reduceEqDiff, reduceCtorEq, ↓reduceIte, Nat.reduceBEq, Nat.reduceLeDiff, Nat.reduceAdd, if_true, if_false]
      refine stL_eq ?_ ?_
      · simp only [Option.some.injEq, Ret.mk.injEq, List.cons.injEq, Prod.mk.injEq, AV.d.injEq, D.i.injEq, D.b.injEq, D.s.injEq, true_and, and_true]
        try omega
      · try rfl
    · omega
    · rw [hn, hst]; rfl
    · omega
  · have hge := of_decide_eq_false hb
    have e : i = xs.length := by omega
    subst e
    clear hb hge
    rw [List.drop_length] at hn
    simp only [bW, ↓splitB_true, ↓splitB_false, nilCmp, opConv, eq_self, if_true, if_false, Nat.reduceEqDiff, reduceCtorEq, ↓reduceIte, Nat.reduceLT, Nat.reduceAdd, Nat.reduceMul, Nat.reduceSub, Nat.reduceLeDiff, Nat.reduceBEq, Int.reduceEq, Int.reduceNeg, tk, ntmps131, results131, s91, F91]
    rw [hn]; rfl

theorem f133a_ok {S : Nat → Option Summ} (hS : SumOK prog S) (s152 : S 152 = some (.own F152)) (xs : List (List D)) (h1 : shLL [.i] xs = true) (h2 : xs.length ≤ 140737488355328) : FnOK prog 133 [.d (.l 1 xs), .d (.f 152 [])] { ret := .i .i64 (idxP (fun x => !typB x) xs 0) } := by
  refine fnOK_awp (A := ⟨tab, S, .x⟩) tab_ok hS mixed func133 rfl rfl rfl rfl (by show 2 ≤ 19; decide) rfl ?_
  refine seqK fun K hK => ?_
  simp only [bW, ↓splitB_true, ↓splitB_false, nilCmp, opConv, eq_self, if_true, if_false, Nat.reduceEqDiff, reduceCtorEq, ↓reduceIte, Nat.reduceLT, Nat.reduceAdd, Nat.reduceMul, Nat.reduceSub, Nat.reduceLeDiff, Nat.reduceBEq, Int.reduceEq, Int.reduceNeg, tk, ntmps133, results133, s152, F152]
  refine hK _ ?_; clear hK K
  refine seqK fun K hK => ?_
  refine seqK fun K2 hK2 => ?_
  simp only [bW, ↓splitB_true, ↓splitB_false, nilCmp, opConv, eq_self, if_true, if_false, Nat.reduceEqDiff, reduceCtorEq, ↓reduceIte, Nat.reduceLT, Nat.reduceAdd, Nat.reduceMul, Nat.reduceSub, Nat.reduceLeDiff, Nat.reduceBEq, Int.reduceEq, Int.reduceNeg, tk, ntmps133, results133, s152, F152]
  refine hK2 _ ?_; clear hK2 K2
  rw [awp_block]
  refine loopW [0, 1, 7, 8] (fun i : Nat => stL 19 [(0, .d (.l 1 xs)), (1, .d (.f 152 [])), (7, .d (.i .i64 xs.length)), (8, .d (.i .i64 i))] []) (fun i => i ≤ xs.length ∧ idxP (fun x => !typB x) xs 0 = idxP (fun x => !typB x) (xs.drop i) i) (fun i => xs.length - i) ?_ ?_
  · refine ⟨?_, 0, ?_, by omega, by first | rfl | simp⟩
    · simp only [bK, Nat.reduceEqDiff, reduceCtorEq, ↓reduceIte, Nat.reduceBEq, Nat.reduceLeDiff, Nat.reduceAdd, if_true, if_false]
    · simp only [bK, Nat.reduceEqDiff, reduceCtorEq, ↓reduceIte, Nat.reduceBEq, Nat.reduceLeDiff, Nat.reduceAdd, if_true, if_false]
      refine stL_eq ?_ ?_
      · simp only [Option.some.injEq, Ret.mk.injEq, List.cons.injEq, Prod.mk.injEq, AV.d.injEq, D.i.injEq, D.b.injEq, D.s.injEq, true_and, and_true]
        first | rfl | (simp only [List.drop_zero]; omega)
      · try rfl
  rintro i ⟨hi, hn⟩
  refine seqK fun K3 hK3 => ?_
  simp only [bW, ↓splitB_true, ↓splitB_false, nilCmp, opConv, eq_self, if_true, if_false, Nat.reduceEqDiff, reduceCtorEq, ↓reduceIte, Nat.reduceLT, Nat.reduceAdd, Nat.reduceMul, Nat.reduceSub, Nat.reduceLeDiff, Nat.reduceBEq, Int.reduceEq, Int.reduceNeg, tk, ntmps133, results133, s152, F152]
  refine hK3 _ ?_; clear hK3 K3
  refine seqK fun K3 hK3 => ?_
  simp only [bW, ↓splitB_true, ↓splitB_false, nilCmp, opConv, eq_self, if_true, if_false, Nat.reduceEqDiff, reduceCtorEq, ↓reduceIte, Nat.reduceLT, Nat.reduceAdd, Nat.reduceMul, Nat.reduceSub, Nat.reduceLeDiff, Nat.reduceBEq, Int.reduceEq, Int.reduceNeg, tk, ntmps133, results133, s152, F152]
  refine splitB_intro (fun hb => hK3 _ ?_) (fun hb => hK _ ?_) <;> clear hK3 K3
  · have hlt := of_decide_eq_true hb
    clear hb
    have hlt : i < xs.length := by omega
    have hrow := shLL_get h1 hlt
    have hst := idxP_step (fun x => !typB x) hlt (i : Int)
    generalize hrw : xs.getD i [] = row at hrow hst
    obtain ⟨c1, q1, rfl, e1, hrow⟩ := shL_cons hrow
    obtain rfl := shL_nil hrow
    obtain ⟨v, rfl⟩ := shD_i e1
    have hnm : ((!typB [.i .i64 v]) = true) = (¬ (1 ≤ v ∧ v ≤ 3)) := by rw [typB, numOf, Bool.not_eq_true', decide_eq_false_iff_not]
    simp only [hnm] at hst
    refine seqK fun K4 hK4 => ?_
    rw [awp_block]
    refine seqK fun K5 hK5 => ?_
    simp only [bW, ↓splitB_true, ↓splitB_false, nilCmp, opConv, eq_self, if_true, if_false, Nat.reduceEqDiff, reduceCtorEq, ↓reduceIte, Nat.reduceLT, Nat.reduceAdd, Nat.reduceMul, Nat.reduceSub, Nat.reduceLeDiff, Nat.reduceBEq, Int.reduceEq, Int.reduceNeg, tk, ntmps133, results133, s152, F152]
    refine hK5 _ ?_; clear hK5 K5
    simp only [bW, ↓splitB_true, ↓splitB_false, nilCmp, opConv, eq_self, if_true, if_false, Nat.reduceEqDiff, reduceCtorEq, ↓reduceIte, Nat.reduceLT, Nat.reduceAdd, Nat.reduceMul, Nat.reduceSub, Nat.reduceLeDiff, Nat.reduceBEq, Int.reduceEq, Int.reduceNeg, tk, ntmps133, results133, s152, F152]
    refine ⟨⟨by omega, by omega⟩, ?_⟩
    rw [hrw]
    simp only [bW, ↓splitB_true, ↓splitB_false, nilCmp, opConv, eq_self, if_true, if_false, Nat.reduceEqDiff, reduceCtorEq, ↓reduceIte, Nat.reduceLT, Nat.reduceAdd, Nat.reduceMul, Nat.reduceSub, Nat.reduceLeDiff, Nat.reduceBEq, Int.reduceEq, Int.reduceNeg, tk, ntmps133, results133, s152, F152]
    refine splitB_intro (fun hb => ?_) (fun hb => hK4 _ ?_) <;> clear hK4 K4
    · have hb := of_decide_eq_true hb
      rw [if_pos hb] at hst
      rw [hn, hst]
    have hb := of_decide_eq_false hb
    rw [if_neg hb] at hst
    simp only [bW, ↓splitB_true, ↓splitB_false, nilCmp, opConv, eq_self, if_true, if_false, Nat.reduceEqDiff, reduceCtorEq, ↓reduceIte, Nat.reduceLT, Nat.reduceAdd, Nat.reduceMul, Nat.reduceSub, Nat.reduceLeDiff, Nat.reduceBEq, Int.reduceEq, Int.reduceNeg, tk, ntmps133, results133, s152, F152]
    try simp (disch := omega) only [wrap64]
    refine ⟨?_, i + 1, ?_, ⟨?_, ?_⟩, ?_⟩
    · simp only [bK, Nat.reduceEqDiff, reduceCtorEq, ↓reduceIte, Nat.reduceBEq, Nat.reduceLeDiff, Nat.reduceAdd, if_true, if_false]
    · simp only [bK, Nat.reduceEqDiff, reduceCtorEq, ↓reduceIte, Nat.reduceBEq, Nat.reduceLeDiff, Nat.reduceAdd, if_true, if_false]
      refine stL_eq ?_ ?_
      · simp only [Option.some.injEq, Ret.mk.injEq, List.cons.injEq, Prod.mk.injEq, AV.d.injEq, D.i.injEq, D.b.injEq, D.s.injEq, true_and, and_true]
        try omega
      · try rfl
    · omega
    · rw [hn, hst]; rfl
    · omega
  · have hge := of_decide_eq_false hb
    have e : i = xs.length := by omega
    subst e
    clear hb hge
    rw [List.drop_length] at hn
    simp only [bW, ↓splitB_true, ↓splitB_false, nilCmp, opConv, eq_self, if_true, if_false, Nat.reduceEqDiff, reduceCtorEq, ↓reduceIte, Nat.reduceLT, Nat.reduceAdd, Nat.reduceMul, Nat.reduceSub, Nat.reduceLeDiff, Nat.reduceBEq, Int.reduceEq, Int.reduceNeg, tk, ntmps133, results133, s152, F152]
    rw [hn]; rfl

theorem f133b_ok {S : Nat → Option Summ} (hS : SumOK prog S) (s94 : S 94 = some (.own F94)) (xs : List (List D)) (fs ys : List (List D)) (h3 : fs.length ≤ 140737488355328) (h1 : shLL [.i] xs = true) (h2 : xs.length ≤ 140737488355328) : FnOK prog 133 [.d (.l 1 xs), .d (.f 94 [.p [.l 6 fs, .l 1 ys]])] { ret := .i .i64 (idxP (fun x => !plcB fs.length x) xs 0) } := by
  refine fnOK_awp (A := ⟨tab, S, .x⟩) tab_ok hS mixed func133 rfl rfl rfl rfl (by show 2 ≤ 19; decide) rfl ?_
  refine seqK fun K hK => ?_
  simp only [bW, ↓splitB_true, ↓splitB_false, nilCmp, opConv, eq_self, if_true, if_false, Nat.reduceEqDiff, reduceCtorEq, ↓reduceIte, Nat.reduceLT, Nat.reduceAdd, Nat.reduceMul, Nat.reduceSub, Nat.reduceLeDiff, Nat.reduceBEq, Int.reduceEq, Int.reduceNeg, tk, ntmps133, results133, s94, F94]
  refine hK _ ?_; clear hK K
  refine seqK fun K hK => ?_
  refine seqK fun K2 hK2 => ?_
  simp only [bW, ↓splitB_true, ↓splitB_false, nilCmp, opConv, eq_self, if_true, if_false, Nat.reduceEqDiff, reduceCtorEq, ↓reduceIte, Nat.reduceLT, Nat.reduceAdd, Nat.reduceMul, Nat.reduceSub, Nat.reduceLeDiff, Nat.reduceBEq, Int.reduceEq, Int.reduceNeg, tk, ntmps133, results133, s94, F94]
  refine hK2 _ ?_; clear hK2 K2
  rw [awp_block]
  refine loopW [0, 1, 7, 8] (fun i : Nat => stL 19 [(0, .d (.l 1 xs)), (1, .d (.f 94 [.p [.l 6 fs, .l 1 ys]])), (7, .d (.i .i64 xs.length)), (8, .d (.i .i64 i))] []) (fun i => i ≤ xs.length ∧ idxP (fun x => !plcB fs.length x) xs 0 = idxP (fun x => !plcB fs.length x) (xs.drop i) i) (fun i => xs.length - i) ?_ ?_
  · refine ⟨?_, 0, ?_, by omega, by first | rfl | simp⟩
    · simp only [bK, Nat.reduceEqDiff, reduceCtorEq, ↓reduceIte, Nat.reduceBEq, Nat.reduceLeDiff, Nat.reduceAdd, if_true, if_false]
    · simp only [bK, Nat.reduceEqDiff, reduceCtorEq, ↓reduceIte, Nat.reduceBEq, Nat.reduceLeDiff, Nat.reduceAdd, if_true, if_false]
      refine stL_eq ?_ ?_
      · simp only [Option.some.injEq, Ret.mk.injEq, List.cons.injEq, Prod.mk.injEq, AV.d.injEq, D.i.injEq, D.b.injEq, D.s.injEq, true_and, and_true]
        first | rfl | (simp only [List.drop_zero]; omega)
      · try rfl
  rintro i ⟨hi, hn⟩
  refine seqK fun K3 hK3 => ?_
  simp only [bW, ↓splitB_true, ↓splitB_false, nilCmp, opConv, eq_self, if_true, if_false, Nat.reduceEqDiff, reduceCtorEq, ↓reduceIte, Nat.reduceLT, Nat.reduceAdd, Nat.reduceMul, Nat.reduceSub, Nat.reduceLeDiff, Nat.reduceBEq, Int.reduceEq, Int.reduceNeg, tk, ntmps133, results133, s94, F94]
  refine hK3 _ ?_; clear hK3 K3
  refine seqK fun K3 hK3 => ?_
  simp only [bW, ↓splitB_true, ↓splitB_false, nilCmp, opConv, eq_self, if_true, if_false, Nat.reduceEqDiff, reduceCtorEq, ↓reduceIte, Nat.reduceLT, Nat.reduceAdd, Nat.reduceMul, Nat.reduceSub, Nat.reduceLeDiff, Nat.reduceBEq, Int.reduceEq, Int.reduceNeg, tk, ntmps133, results133, s94, F94]
  refine splitB_intro (fun hb => hK3 _ ?_) (fun hb => hK _ ?_) <;> clear hK3 K3
  · have hlt := of_decide_eq_true hb
    clear hb
    have hlt : i < xs.length := by omega
    have hrow := shLL_get h1 hlt
    have hst := idxP_step (fun x => !plcB fs.length x) hlt (i : Int)
    generalize hrw : xs.getD i [] = row at hrow hst
    obtain ⟨c1, q1, rfl, e1, hrow⟩ := shL_cons hrow
    obtain rfl := shL_nil hrow
    obtain ⟨v, rfl⟩ := shD_i e1
    have hnm : ((!plcB fs.length [.i .i64 v]) = true) = (¬ (0 ≤ v ∧ v < (fs.length : Int))) := by rw [plcB, numOf, Bool.not_eq_true', decide_eq_false_iff_not]
    simp only [hnm] at hst
    refine seqK fun K4 hK4 => ?_
    rw [awp_block]
    refine seqK fun K5 hK5 => ?_
    simp only [bW, ↓splitB_true, ↓splitB_false, nilCmp, opConv, eq_self, if_true, if_false, Nat.reduceEqDiff, reduceCtorEq, ↓reduceIte, Nat.reduceLT, Nat.reduceAdd, Nat.reduceMul, Nat.reduceSub, Nat.reduceLeDiff, Nat.reduceBEq, Int.reduceEq, Int.reduceNeg, tk, ntmps133, results133, s94, F94]
    refine hK5 _ ?_; clear hK5 K5
    simp only [bW, ↓splitB_true, ↓splitB_false, nilCmp, opConv, eq_self, if_true, if_false, Nat.reduceEqDiff, reduceCtorEq, ↓reduceIte, Nat.reduceLT, Nat.reduceAdd, Nat.reduceMul, Nat.reduceSub, Nat.reduceLeDiff, Nat.reduceBEq, Int.reduceEq, Int.reduceNeg, tk, ntmps133, results133, s94, F94]
    refine ⟨⟨by omega, by omega⟩, ?_⟩
    rw [hrw]
    simp only [bW, ↓splitB_true, ↓splitB_false, nilCmp, opConv, eq_self, if_true, if_false, Nat.reduceEqDiff, reduceCtorEq, ↓reduceIte, Nat.reduceLT, Nat.reduceAdd, Nat.reduceMul, Nat.reduceSub, Nat.reduceLeDiff, Nat.reduceBEq, Int.reduceEq, Int.reduceNeg, tk, ntmps133, results133, s94, F94]
    refine ⟨h3, ?_⟩
    refine splitB_intro (fun hb => ?_) (fun hb => hK4 _ ?_) <;> clear hK4 K4
    · have hb := of_decide_eq_true hb
      rw [if_pos hb] at hst
      rw [hn, hst]
    have hb := of_decide_eq_false hb
    rw [if_neg hb] at hst
    simp only [bW, ↓splitB_true, ↓splitB_false, nilCmp, opConv, eq_self, if_true, if_false, Nat.reduceEqDiff, reduceCtorEq, ↓reduceIte, Nat.reduceLT, Nat.reduceAdd, Nat.reduceMul, Nat.reduceSub, Nat.reduceLeDiff, Nat.reduceBEq, Int.reduceEq, Int.reduceNeg, tk, ntmps133, results133, s94, F94]
    try simp (disch := omega) only [wrap64]
    refine ⟨?_, i + 1, ?_, ⟨?_, ?_⟩, ?_⟩
    · simp only [bK, Nat.reduceEqDiff, reduceCtorEq, ↓reduceIte, Nat.reduceBEq, Nat.reduceLeDiff, Nat.reduceAdd, if_true, if_false]
    · simp only [bK, Nat.reduceEqDiff, reduceCtorEq, ↓reduceIte, Nat.reduceBEq, Nat.reduceLeDiff, Nat.reduceAdd, if_true, if_false]
      refine stL_eq ?_ ?_
      · simp only [Option.some.injEq, Ret.mk.injEq, List.cons.injEq, Prod.mk.injEq, AV.d.injEq, D.i.injEq, D.b.injEq, D.s.injEq, true_and, and_true]
        try omega
      · try rfl
    · omega
    · rw [hn, hst]; rfl
    · omega
  · have hge := of_decide_eq_false hb
    have e : i = xs.length := by omega
    subst e
    clear hb hge
    rw [List.drop_length] at hn
    simp only [bW, ↓splitB_true, ↓splitB_false, nilCmp, opConv, eq_self, if_true, if_false, Nat.reduceEqDiff, reduceCtorEq, ↓reduceIte, Nat.reduceLT, Nat.reduceAdd, Nat.reduceMul, Nat.reduceSub, Nat.reduceLeDiff, Nat.reduceBEq, Int.reduceEq, Int.reduceNeg, tk, ntmps133, results133, s94, F94]
    rw [hn]; rfl

end Go.Fs.Sr

set_option linter.unusedVariables false
set_option linter.unusedSimpArgs false
set_option maxRecDepth 20000
set_option maxHeartbeats 2000000
namespace Go.Fs.Sr
open Go.Proofs.Try

theorem f131_ok {S : Nat → Option Summ} (hS : SumOK prog S) (s91 : S 91 = some (.own (F91))) (ds : List D) (r : D) (hr : F131 ds = some r) : FnOK prog 131 (ds.map .d) { ret := r } := by
  unfold F131 at hr
  split at hr
  · split at hr
    case isFalse => cases hr
    rename_i hc
    simp only [Option.some.injEq] at hr
    subst hr
    exact f131c_ok hS s91 _ hc.1 hc.2
  · cases hr

theorem f133_ok {S : Nat → Option Summ} (hS : SumOK prog S) (s152 : S 152 = some (.own F152)) (s94 : S 94 = some (.own F94)) (ds : List D) (r : D) (hr : F133 ds = some r) : FnOK prog 133 (ds.map .d) { ret := r } := by
  unfold F133 at hr
  split at hr
  · split at hr
    case isFalse => cases hr
    rename_i hc
    simp only [Option.some.injEq] at hr
    subst hr
    exact f133a_ok hS s152 _ hc.1 hc.2
  · split at hr
    case isFalse => cases hr
    rename_i hc
    simp only [Option.some.injEq] at hr
    subst hr
    exact f133b_ok hS s94 _ _ _ hc.2.2 hc.1 hc.2.1
  · cases hr

theorem f90_ok {S : Nat → Option Summ} (hS : SumOK prog S) (s131 : S 131 = some (.own F131)) (ds : List D) (r : D) (hr : F90 ds = some r) : FnOK prog 90 (ds.map .d) { ret := r } := by
  unfold F90 at hr
  split at hr
  case h_2 => cases hr
  rename_i xs
  split at hr
  case isFalse => cases hr
  rename_i hc
  obtain ⟨h1, h2⟩ := hc
  simp only [Option.some.injEq] at hr
  subst hr
  refine fnOK_awp (A := ⟨tab, S, .x⟩) tab_ok hS mixed func90 rfl rfl rfl rfl (by show 2 ≤ 9; decide) rfl ?_
  simp only [bW, ↓splitB_true, ↓splitB_false, nilCmp, opConv, eq_self, if_true, if_false, Nat.reduceEqDiff, reduceCtorEq, ↓reduceIte, Nat.reduceLT, Nat.reduceAdd, Nat.reduceMul, Nat.reduceSub, Nat.reduceLeDiff, Nat.reduceBEq, Int.reduceEq, Int.reduceNeg, tk, ntmps90, results90, s131, F131]
  refine ⟨⟨h1, by omega⟩, ?_⟩
  try simp only [bW, ↓splitB_true, ↓splitB_false, nilCmp, opConv, eq_self, if_true, if_false, Nat.reduceEqDiff, reduceCtorEq, ↓reduceIte, Nat.reduceLT, Nat.reduceAdd, Nat.reduceMul, Nat.reduceSub, Nat.reduceLeDiff, Nat.reduceBEq, Int.reduceEq, Int.reduceNeg, tk, ntmps90, results90, s131, F131]
  simp only [Option.some.injEq, Ret.mk.injEq, List.cons.injEq, Prod.mk.injEq, AV.d.injEq, D.i.injEq, D.b.injEq, D.s.injEq, true_and, and_true]
  rw [Bool.eq_iff_iff, decide_eq_true_eq]
  exact idxP_any _ _ _ (by omega)

theorem f93a_ok {S : Nat → Option Summ} (hS : SumOK prog S) (s133 : S 133 = some (.own F133)) (xs : List (List D)) (h1 : shLL [.i] xs = true) (h2 : xs.length ≤ 140737488355328) : FnOK prog 93 [.d (.l 1 xs), .d (.f 152 [])] { ret := .b (xs.any (fun x => !typB x)) } := by
  refine fnOK_awp (A := ⟨tab, S, .x⟩) tab_ok hS mixed func93 rfl rfl rfl rfl (by show 2 ≤ 9; decide) rfl ?_
  simp only [bW, ↓splitB_true, ↓splitB_false, nilCmp, opConv, eq_self, if_true, if_false, Nat.reduceEqDiff, reduceCtorEq, ↓reduceIte, Nat.reduceLT, Nat.reduceAdd, Nat.reduceMul, Nat.reduceSub, Nat.reduceLeDiff, Nat.reduceBEq, Int.reduceEq, Int.reduceNeg, tk, ntmps93, results93, s133, F133]
  refine ⟨⟨h1, by omega⟩, ?_⟩
  try simp only [bW, ↓splitB_true, ↓splitB_false, nilCmp, opConv, eq_self, if_true, if_false, Nat.reduceEqDiff, reduceCtorEq, ↓reduceIte, Nat.reduceLT, Nat.reduceAdd, Nat.reduceMul, Nat.reduceSub, Nat.reduceLeDiff, Nat.reduceBEq, Int.reduceEq, Int.reduceNeg, tk, ntmps93, results93, s133, F133]
  simp only [Option.some.injEq, Ret.mk.injEq, List.cons.injEq, Prod.mk.injEq, AV.d.injEq, D.i.injEq, D.b.injEq, D.s.injEq, true_and, and_true]
  rw [Bool.eq_iff_iff, decide_eq_true_eq]
  exact idxP_any _ _ _ (by omega)

theorem f93b_ok {S : Nat → Option Summ} (hS : SumOK prog S) (s133 : S 133 = some (.own F133)) (xs : List (List D)) (fs ys : List (List D)) (h3 : fs.length ≤ 140737488355328) (h1 : shLL [.i] xs = true) (h2 : xs.length ≤ 140737488355328) : FnOK prog 93 [.d (.l 1 xs), .d (.f 94 [.p [.l 6 fs, .l 1 ys]])] { ret := .b (xs.any (fun x => !plcB fs.length x)) } := by
  refine fnOK_awp (A := ⟨tab, S, .x⟩) tab_ok hS mixed func93 rfl rfl rfl rfl (by show 2 ≤ 9; decide) rfl ?_
  simp only [bW, ↓splitB_true, ↓splitB_false, nilCmp, opConv, eq_self, if_true, if_false, Nat.reduceEqDiff, reduceCtorEq, ↓reduceIte, Nat.reduceLT, Nat.reduceAdd, Nat.reduceMul, Nat.reduceSub, Nat.reduceLeDiff, Nat.reduceBEq, Int.reduceEq, Int.reduceNeg, tk, ntmps93, results93, s133, F133]
  refine ⟨⟨h1, by omega, h3⟩, ?_⟩
  try simp only [bW, ↓splitB_true, ↓splitB_false, nilCmp, opConv, eq_self, if_true, if_false, Nat.reduceEqDiff, reduceCtorEq, ↓reduceIte, Nat.reduceLT, Nat.reduceAdd, Nat.reduceMul, Nat.reduceSub, Nat.reduceLeDiff, Nat.reduceBEq, Int.reduceEq, Int.reduceNeg, tk, ntmps93, results93, s133, F133]
  simp only [Option.some.injEq, Ret.mk.injEq, List.cons.injEq, Prod.mk.injEq, AV.d.injEq, D.i.injEq, D.b.injEq, D.s.injEq, true_and, and_true]
  rw [Bool.eq_iff_iff, decide_eq_true_eq]
  exact idxP_any _ _ _ (by omega)

theorem f93_ok {S : Nat → Option Summ} (hS : SumOK prog S) (s133 : S 133 = some (.own F133)) (ds : List D) (r : D) (hr : F93 ds = some r) : FnOK prog 93 (ds.map .d) { ret := r } := by
  unfold F93 at hr
  split at hr
  · split at hr
    case isFalse => cases hr
    rename_i hc
    simp only [Option.some.injEq] at hr
    subst hr
    exact f93a_ok hS s133 _ hc.1 hc.2
  · split at hr
    case isFalse => cases hr
    rename_i hc
    simp only [Option.some.injEq] at hr
    subst hr
    exact f93b_ok hS s133 _ _ _ hc.2.2 hc.1 hc.2.1
  · cases hr

theorem f130_ok {S : Nat → Option Summ} (hS : SumOK prog S) (s93 : S 93 = some (.own F93)) (ds : List D) (r : D) (hr : F130 ds = some r) : FnOK prog 130 (ds.map .d) { ret := r } := by
  unfold F130 at hr
  split at hr
  case h_2 => cases hr
  rename_i xs
  split at hr
  case isFalse => cases hr
  rename_i hc
  obtain ⟨h1, h2⟩ := hc
  simp only [Option.some.injEq] at hr
  subst hr
  refine fnOK_awp (A := ⟨tab, S, .x⟩) tab_ok hS mixed func130 rfl rfl rfl rfl (by show 1 ≤ 11; decide) rfl ?_
  simp only [bW, ↓splitB_true, ↓splitB_false, nilCmp, opConv, eq_self, if_true, if_false, Nat.reduceEqDiff, reduceCtorEq, ↓reduceIte, Nat.reduceLT, Nat.reduceAdd, Nat.reduceMul, Nat.reduceSub, Nat.reduceLeDiff, Nat.reduceBEq, Int.reduceEq, Int.reduceNeg, tk, ntmps130, results130, s93, F93]
  simp only [argsB]
  refine splitB_intro (fun hb => ?_) (fun hb => ?_)
  · have hb := of_decide_eq_true hb
    rw [decide_eq_true (show xs.length ≤ 4 by omega), Bool.true_and]
    refine ⟨⟨h1, by omega⟩, ?_⟩
    try simp only [bW, ↓splitB_true, ↓splitB_false, nilCmp, opConv, eq_self, if_true, if_false, Nat.reduceEqDiff, reduceCtorEq, ↓reduceIte, Nat.reduceLT, Nat.reduceAdd, Nat.reduceMul, Nat.reduceSub, Nat.reduceLeDiff, Nat.reduceBEq, Int.reduceEq, Int.reduceNeg, tk, ntmps130, results130, s93, F93]
    simp only [Option.some.injEq, Ret.mk.injEq, List.cons.injEq, Prod.mk.injEq, AV.d.injEq, D.i.injEq, D.b.injEq, D.s.injEq, true_and, and_true]
    rw [any_not, Bool.not_not]
  · have hb := of_decide_eq_false hb
    rw [decide_eq_false (show ¬ xs.length ≤ 4 by omega), Bool.false_and]
    try trivial

theorem f89_ok {S : Nat → Option Summ} (hS : SumOK prog S) (s88 : S 88 = some (.own F85)) (s130 : S 130 = some (.own F130)) (s117 : S 117 = some (.own F117)) (s99 : S 99 = some (.own F99)) (ds : List D) (r : D) (hr : F89 ds = some r) : FnOK prog 89 (ds.map .d) { ret := r } := by
  unfold F89 at hr
  split at hr
  case h_2 => cases hr
  rename_i w xs ty sl
  split at hr
  case isFalse => cases hr
  rename_i hc
  obtain ⟨h1, h2, h3⟩ := hc
  simp only [Option.some.injEq] at hr
  subst hr
  refine fnOK_awp (A := ⟨tab, S, .x⟩) tab_ok hS mixed func89 rfl rfl rfl rfl (by show 4 ≤ 27; decide) rfl ?_
  simp only [bW, ↓splitB_true, ↓splitB_false, nilCmp, opConv, eq_self, if_true, if_false, Nat.reduceEqDiff, reduceCtorEq, ↓reduceIte, Nat.reduceLT, Nat.reduceAdd, Nat.reduceMul, Nat.reduceSub, Nat.reduceLeDiff, Nat.reduceBEq, Int.reduceEq, Int.reduceNeg, tk, ntmps89, results89, s88, s130, s117, s99, F85, F130, F117, F99]
  refine ⟨by omega, ?_⟩
  have hm : (⟨#[109, 97, 105, 110]⟩ : ByteArray) = mainW := rfl
  simp only [headB, nameB]
  rw [hm]
  generalize lexB w = p
  generalize decide (w = mainW) = q
  generalize argsB xs = a
  generalize decide (1 ≤ ty ∧ ty ≤ 3) = b
  generalize decide (0 ≤ sl ∧ sl ≤ 1000) = c
  have h4 : shLL [.i] xs = true ∧ xs.length ≤ 140737488355328 := ⟨h2, h3⟩
  generalize (shLL [.i] xs = true ∧ xs.length ≤ 140737488355328) = P at h4 ⊢
  cases p <;> cases q <;> cases a <;> cases b <;> simp only [splitB_true, splitB_false, Bool.true_or, Bool.false_or, Bool.true_and, Bool.false_and, h4, and_self, and_true, true_and]

end Go.Fs.Sr

set_option linter.unusedVariables false
set_option linter.unusedSimpArgs false
set_option maxRecDepth 20000
set_option maxHeartbeats 2000000
namespace Go.Fs.Sr
open Go.Proofs.Try

theorem f86_ok {S : Nat → Option Summ} (hS : SumOK prog S) (s125 : S 125 = some (.own F125)) (s126 : S 126 = some (.own F126)) (s127 : S 127 = some (.own F92)) (ds : List D) (r : D) (hr : F86 ds = some r) : FnOK prog 86 (ds.map .d) { ret := r } := by
  unfold F86 at hr
  split at hr
  case h_2 => cases hr
  rename_i w bb xs ty sl cs
  split at hr
  case isFalse => cases hr
  rename_i hc
  obtain ⟨h1, h2, h3, h4, h5⟩ := hc
  simp only [Option.some.injEq] at hr
  subst hr
  refine fnOK_awp (A := ⟨tab, S, .x⟩) tab_ok hS mixed func86 rfl rfl rfl rfl (by show 1 ≤ 65; decide) rfl ?_
  refine seqK fun K hK => ?_
  simp only [bW, ↓splitB_true, ↓splitB_false, nilCmp, opConv, eq_self, if_true, if_false, Nat.reduceEqDiff, reduceCtorEq, ↓reduceIte, Nat.reduceLT, Nat.reduceAdd, Nat.reduceMul, Nat.reduceSub, Nat.reduceLeDiff, Nat.reduceBEq, Int.reduceEq, Int.reduceNeg, tk, ntmps86, results86, s125, s126, s127, F125, F126, F92]
  refine hK _ ?_; clear hK K
  refine seqK fun K hK => ?_
  simp only [bW, ↓splitB_true, ↓splitB_false, nilCmp, opConv, eq_self, if_true, if_false, Nat.reduceEqDiff, reduceCtorEq, ↓reduceIte, Nat.reduceLT, Nat.reduceAdd, Nat.reduceMul, Nat.reduceSub, Nat.reduceLeDiff, Nat.reduceBEq, Int.reduceEq, Int.reduceNeg, tk, ntmps86, results86, s125, s126, s127, F125, F126, F92]
  refine ⟨by omega, ?_⟩
  have hcase : (nameB w = true ∧ xs.length ≤ 4 ∧ (1 ≤ ty ∧ ty ≤ 3) ∧ (0 ≤ sl ∧ sl ≤ 1000) ∧ cs.length ≤ 460) ∨ ¬ (nameB w = true ∧ xs.length ≤ 4 ∧ (1 ≤ ty ∧ ty ≤ 3) ∧ (0 ≤ sl ∧ sl ≤ 1000) ∧ cs.length ≤ 460) := Decidable.em _
  rcases hcase with ⟨c1, c2, c3, c4, c5⟩ | hc
  rotate_left
  · have hf : (headB w xs ty sl && codeB cs) = false := by
      rw [Bool.eq_false_iff]
      intro h
      simp only [headB, argsB, codeB, Bool.and_eq_true, decide_eq_true_eq] at h
      exact hc ⟨h.1.1, h.1.2.1.1, h.1.2.2.1, h.1.2.2.2, h.2.1⟩
    rw [hf]
    refine splitB_intro (fun hb1 => ?_) (fun hb1 => ?_)
    · trivial
    refine splitB_intro (fun hb2 => ?_) (fun hb2 => ?_)
    · trivial
    refine splitB_intro (fun hb3 => ?_) (fun hb3 => ?_)
    · trivial
    refine splitB_intro (fun hb4 => ?_) (fun hb4 => ?_)
    · trivial
    refine splitB_intro (fun hb5 => ?_) (fun hb5 => ?_)
    · trivial
    refine splitB_intro (fun hb6 => ?_) (fun hb6 => ?_)
    · trivial
    have hb2 := of_decide_eq_false hb2
    have hb3 := of_decide_eq_false hb3
    have hb4 := of_decide_eq_false hb4
    have hb5 := of_decide_eq_false hb5
    have hb6 := of_decide_eq_false hb6
    refine absurd ⟨?_, by omega, ?_, by omega, by omega⟩ hc
    · simpa using hb1
    · exact Decidable.byContradiction fun h => hb3 ((tyText_nil ty).2 h)
  have hf : (headB w xs ty sl && codeB cs) = (xs.all typB && cs.all insB) := by
    simp only [headB, argsB, codeB]
    rw [c1, decide_eq_true c2, decide_eq_true c3, decide_eq_true c4, decide_eq_true c5]
    simp
  rw [c1]
  have c3' : ¬ tyText ty = ⟨#[]⟩ := fun h => (tyText_nil ty).1 h c3
  rw [decide_eq_false c3', decide_eq_false (show ¬ (4 : Int) < (xs.length : Int) by omega), decide_eq_false (show ¬ sl < 0 by omega), decide_eq_false (show ¬ 1000 < sl by omega), decide_eq_false (show ¬ (460 : Int) < (cs.length : Int) by omega)]
  simp only [bW, ↓splitB_true, ↓splitB_false, nilCmp, opConv, eq_self, if_true, if_false, Nat.reduceEqDiff, reduceCtorEq, ↓reduceIte, Nat.reduceLT, Nat.reduceAdd, Nat.reduceMul, Nat.reduceSub, Nat.reduceLeDiff, Nat.reduceBEq, Int.reduceEq, Int.reduceNeg, tk, ntmps86, results86, s125, s126, s127, F125, F126, F92]
  refine hK _ ?_; clear hK K
  refine seqK fun K hK => ?_
  refine seqK fun K2 hK2 => ?_
  simp only [bW, ↓splitB_true, ↓splitB_false, nilCmp, opConv, eq_self, if_true, if_false, Nat.reduceEqDiff, reduceCtorEq, ↓reduceIte, Nat.reduceLT, Nat.reduceAdd, Nat.reduceMul, Nat.reduceSub, Nat.reduceLeDiff, Nat.reduceBEq, Int.reduceEq, Int.reduceNeg, tk, ntmps86, results86, s125, s126, s127, F125, F126, F92]
  refine hK2 _ ?_; clear hK2 K2
  rw [awp_block]
  refine loopW [1, 3] (fun i : Nat => stL 65 [(1, .a 500000 0), (3, .d (.i .i64 i))] [(500000, some (.box [.d (.s w), .d (.b bb), .d (.l 1 xs), .d (.i .i64 ty), .d (.i .i64 sl), .d (.l 2 cs)]))]) (fun i => i ≤ xs.length ∧ xs.all typB = (xs.drop i).all typB) (fun i => xs.length - i) ?_ ?_
  · refine ⟨?_, 0, ?_, by omega, by first | rfl | simp⟩
    · simp only [bK, Nat.reduceEqDiff, reduceCtorEq, ↓reduceIte, Nat.reduceBEq, Nat.reduceLeDiff, Nat.reduceAdd, if_true, if_false]
    · simp only [bK, Nat.reduceEqDiff, reduceCtorEq, ↓reduceIte, Nat.reduceBEq, Nat.reduceLeDiff, Nat.reduceAdd, if_true, if_false]
      refine stL_eq ?_ ?_
      · simp only [Option.some.injEq, Ret.mk.injEq, List.cons.injEq, Prod.mk.injEq, AV.d.injEq, D.i.injEq, D.b.injEq, D.s.injEq, true_and, and_true]
        first | rfl | (simp only [List.drop_zero]; omega)
      · try rfl
  rintro i ⟨hi, hn⟩
  refine seqK fun K3 hK3 => ?_
  simp only [bW, ↓splitB_true, ↓splitB_false, nilCmp, opConv, eq_self, if_true, if_false, Nat.reduceEqDiff, reduceCtorEq, ↓reduceIte, Nat.reduceLT, Nat.reduceAdd, Nat.reduceMul, Nat.reduceSub, Nat.reduceLeDiff, Nat.reduceBEq, Int.reduceEq, Int.reduceNeg, tk, ntmps86, results86, s125, s126, s127, F125, F126, F92]
  refine splitB_intro (fun hb => hK3 _ ?_) (fun hb => hK _ ?_) <;> clear hK3 K3
  · have hlt := of_decide_eq_true hb
    clear hb
    have hlt : i < xs.length := by omega
    have hrow := shLL_get h2 hlt
    have hst := all_step typB (xs := xs) hlt
    generalize hrw : xs.getD i [] = row at hrow hst
    obtain ⟨c1', q1, rfl, e1, hrow⟩ := shL_cons hrow
    obtain rfl := shL_nil hrow
    obtain ⟨v, rfl⟩ := shD_i e1
    have hnm : typB [.i .i64 v] = decide (1 ≤ v ∧ v ≤ 3) := rfl
    rw [hnm] at hst
    refine seqK fun K4 hK4 => ?_
    rw [awp_block]
    simp only [bW, ↓splitB_true, ↓splitB_false, nilCmp, opConv, eq_self, if_true, if_false, Nat.reduceEqDiff, reduceCtorEq, ↓reduceIte, Nat.reduceLT, Nat.reduceAdd, Nat.reduceMul, Nat.reduceSub, Nat.reduceLeDiff, Nat.reduceBEq, Int.reduceEq, Int.reduceNeg, tk, ntmps86, results86, s125, s126, s127, F125, F126, F92]
    refine ⟨⟨by omega, by omega⟩, ?_⟩
    rw [hrw]
    simp only [bW, ↓splitB_true, ↓splitB_false, nilCmp, opConv, eq_self, if_true, if_false, Nat.reduceEqDiff, reduceCtorEq, ↓reduceIte, Nat.reduceLT, Nat.reduceAdd, Nat.reduceMul, Nat.reduceSub, Nat.reduceLeDiff, Nat.reduceBEq, Int.reduceEq, Int.reduceNeg, tk, ntmps86, results86, s125, s126, s127, F125, F126, F92]
    refine splitB_intro (fun hb => ?_) (fun hb => hK4 _ ?_) <;> clear hK4 K4
    · have hb := (tyText_nil v).1 (of_decide_eq_true hb)
      rw [decide_eq_false hb, Bool.false_and] at hst
      rw [hf, hn, hst, Bool.false_and]
    have hb : 1 ≤ v ∧ v ≤ 3 := Decidable.byContradiction fun h => of_decide_eq_false hb ((tyText_nil v).2 h)
    rw [decide_eq_true hb, Bool.true_and] at hst
    simp only [bW, ↓splitB_true, ↓splitB_false, nilCmp, opConv, eq_self, if_true, if_false, Nat.reduceEqDiff, reduceCtorEq, ↓reduceIte, Nat.reduceLT, Nat.reduceAdd, Nat.reduceMul, Nat.reduceSub, Nat.reduceLeDiff, Nat.reduceBEq, Int.reduceEq, Int.reduceNeg, tk, ntmps86, results86, s125, s126, s127, F125, F126, F92]
    try simp (disch := omega) only [wrap64]
    refine ⟨?_, i + 1, ?_, ⟨?_, ?_⟩, ?_⟩
    · simp only [bK, Nat.reduceEqDiff, reduceCtorEq, ↓reduceIte, Nat.reduceBEq, Nat.reduceLeDiff, Nat.reduceAdd, if_true, if_false]
    · simp only [bK, Nat.reduceEqDiff, reduceCtorEq, ↓reduceIte, Nat.reduceBEq, Nat.reduceLeDiff, Nat.reduceAdd, if_true, if_false]
      refine stL_eq ?_ ?_
      · simp only [Option.some.injEq, Ret.mk.injEq, List.cons.injEq, Prod.mk.injEq, AV.d.injEq, D.i.injEq, D.b.injEq, D.s.injEq, true_and, and_true]
        try omega
      · try rfl
    · omega
    · rw [hn, hst]
    · omega
  · have hge := of_decide_eq_false hb
    have e : i = xs.length := by omega
    subst e
    clear hb hge
    rw [List.drop_length, List.all_nil] at hn
    rw [hn, Bool.true_and] at hf
    clear hn
    refine seqK fun K hK => ?_
    refine seqK fun K2 hK2 => ?_
    simp only [bW, ↓splitB_true, ↓splitB_false, nilCmp, opConv, eq_self, if_true, if_false, Nat.reduceEqDiff, reduceCtorEq, ↓reduceIte, Nat.reduceLT, Nat.reduceAdd, Nat.reduceMul, Nat.reduceSub, Nat.reduceLeDiff, Nat.reduceBEq, Int.reduceEq, Int.reduceNeg, tk, ntmps86, results86, s125, s126, s127, F125, F126, F92]
    refine hK2 _ ?_; clear hK2 K2
    rw [awp_block]
    refine loopW [1, 4] (fun i : Nat => stL 65 [(1, .a 500000 0), (4, .d (.i .i64 i))] [(500000, some (.box [.d (.s w), .d (.b bb), .d (.l 1 xs), .d (.i .i64 ty), .d (.i .i64 sl), .d (.l 2 cs)]))]) (fun i => i ≤ cs.length ∧ cs.all insB = (cs.drop i).all insB) (fun i => cs.length - i) ?_ ?_
    · refine ⟨?_, 0, ?_, by omega, by first | rfl | simp⟩
      · simp only [bK, Nat.reduceEqDiff, reduceCtorEq, ↓reduceIte, Nat.reduceBEq, Nat.reduceLeDiff, Nat.reduceAdd, if_true, if_false]
      · simp only [bK, Nat.reduceEqDiff, reduceCtorEq, ↓reduceIte, Nat.reduceBEq, Nat.reduceLeDiff, Nat.reduceAdd, if_true, if_false]
        refine stL_eq ?_ ?_
        · simp only [Option.some.injEq, Ret.mk.injEq, List.cons.injEq, Prod.mk.injEq, AV.d.injEq, D.i.injEq, D.b.injEq, D.s.injEq, true_and, and_true]
          first | rfl | (simp only [List.drop_zero]; omega)
        · try rfl
    rintro i ⟨hi, hn⟩
    refine seqK fun K3 hK3 => ?_
    simp only [bW, ↓splitB_true, ↓splitB_false, nilCmp, opConv, eq_self, if_true, if_false, Nat.reduceEqDiff, reduceCtorEq, ↓reduceIte, Nat.reduceLT, Nat.reduceAdd, Nat.reduceMul, Nat.reduceSub, Nat.reduceLeDiff, Nat.reduceBEq, Int.reduceEq, Int.reduceNeg, tk, ntmps86, results86, s125, s126, s127, F125, F126, F92]
    refine splitB_intro (fun hb => hK3 _ ?_) (fun hb => hK _ ?_) <;> clear hK3 K3
    · have hlt := of_decide_eq_true hb
      clear hb
      have hlt : i < cs.length := by omega
      have hrow := shLL_get h4 hlt
      have hst := all_step insB (xs := cs) hlt
      generalize hrw : cs.getD i [] = row at hrow hst
      obtain ⟨c1', q1, rfl, e1, hrow⟩ := shL_cons hrow
      obtain ⟨c2', q2, rfl, e2, hrow⟩ := shL_cons hrow
      obtain rfl := shL_nil hrow
      obtain ⟨op, rfl⟩ := shD_i e1
      obtain ⟨a, rfl⟩ := shD_i e2
      have hnm : insB [.i .i64 op, .i .i64 a] = decide (insP op a) := rfl
      rw [hnm] at hst
      refine seqK fun K4 hK4 => ?_
      rw [awp_block]
      simp only [bW, ↓splitB_true, ↓splitB_false, nilCmp, opConv, eq_self, if_true, if_false, Nat.reduceEqDiff, reduceCtorEq, ↓reduceIte, Nat.reduceLT, Nat.reduceAdd, Nat.reduceMul, Nat.reduceSub, Nat.reduceLeDiff, Nat.reduceBEq, Int.reduceEq, Int.reduceNeg, tk, ntmps86, results86, s125, s126, s127, F125, F126, F92]
      refine ⟨⟨by omega, by omega⟩, ?_⟩
      rw [hrw]
      simp only [bW, ↓splitB_true, ↓splitB_false, nilCmp, opConv, eq_self, if_true, if_false, Nat.reduceEqDiff, reduceCtorEq, ↓reduceIte, Nat.reduceLT, Nat.reduceAdd, Nat.reduceMul, Nat.reduceSub, Nat.reduceLeDiff, Nat.reduceBEq, Int.reduceEq, Int.reduceNeg, tk, ntmps86, results86, s125, s126, s127, F125, F126, F92]
      refine splitB_intro (fun hb => ?_) (fun hb => hK4 _ ?_) <;> clear hK4 K4
      · have hb : decide (insP op a) = false := by simpa using hb
        rw [hb, Bool.false_and] at hst
        rw [hf, hn, hst]
      have hb : decide (insP op a) = true := by simpa using hb
      rw [hb, Bool.true_and] at hst
      simp only [bW, ↓splitB_true, ↓splitB_false, nilCmp, opConv, eq_self, if_true, if_false, Nat.reduceEqDiff, reduceCtorEq, ↓reduceIte, Nat.reduceLT, Nat.reduceAdd, Nat.reduceMul, Nat.reduceSub, Nat.reduceLeDiff, Nat.reduceBEq, Int.reduceEq, Int.reduceNeg, tk, ntmps86, results86, s125, s126, s127, F125, F126, F92]
      try simp (disch := omega) only [wrap64]
      refine ⟨?_, i + 1, ?_, ⟨?_, ?_⟩, ?_⟩
      · simp only [bK, Nat.reduceEqDiff, reduceCtorEq, ↓reduceIte, Nat.reduceBEq, Nat.reduceLeDiff, Nat.reduceAdd, if_true, if_false]
      · simp only [bK, Nat.reduceEqDiff, reduceCtorEq, ↓reduceIte, Nat.reduceBEq, Nat.reduceLeDiff, Nat.reduceAdd, if_true, if_false]
        refine stL_eq ?_ ?_
        · simp only [Option.some.injEq, Ret.mk.injEq, List.cons.injEq, Prod.mk.injEq, AV.d.injEq, D.i.injEq, D.b.injEq, D.s.injEq, true_and, and_true]
          try omega
        · try rfl
      · omega
      · rw [hn, hst]
      · omega
    · have hge := of_decide_eq_false hb
      have e : i = cs.length := by omega
      subst e
      clear hb hge
      rw [List.drop_length, List.all_nil] at hn
      simp only [bW, ↓splitB_true, ↓splitB_false, nilCmp, opConv, eq_self, if_true, if_false, Nat.reduceEqDiff, reduceCtorEq, ↓reduceIte, Nat.reduceLT, Nat.reduceAdd, Nat.reduceMul, Nat.reduceSub, Nat.reduceLeDiff, Nat.reduceBEq, Int.reduceEq, Int.reduceNeg, tk, ntmps86, results86, s125, s126, s127, F125, F126, F92]
      rw [hf, hn]

end Go.Fs.Sr

set_option linter.unusedVariables false
namespace Go.Fs.Sr
theorem codeN_wt (x : List D) : codeN x ≤ wtL x := by
  unfold codeN
  split
  · simp only [wtL, wt]; omega
  · omega
theorem manyN_wt : ∀ (xs : List (List D)), manyN xs ≤ wtLL xs
  | [] => Nat.le_refl _
  | x :: xs => by
    have := manyN_wt xs
    have := codeN_wt x
    simp only [manyN, wtLL]
    omega
theorem manyN_drop : ∀ (xs : List (List D)) (i : Nat), manyN (xs.drop i) ≤ manyN xs
  | [], i => by simp
  | x :: xs, 0 => Nat.le_refl _
  | x :: xs, i + 1 => by
    have := manyN_drop xs i
    simp only [List.drop_succ_cons, manyN]
    omega
end Go.Fs.Sr
