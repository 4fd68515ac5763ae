/- A part of the proof: an evaluator of the program's code over plain data, proved sound, and walks of the program's functions by it. No conditions beyond those in the theorems. -/
import Derived.Test.YtbgbnmghhmfihaaLawIp8
import Derived.Test.YtbgbnmghhmfihaaLawIp12
import Derived.Test.YtbgbnmghhmfihaaLawIp13
import Derived.Test.YtbgbnmghhmfihaaLawIp9
set_option linter.unusedVariables false
set_option linter.unusedSimpArgs false
set_option maxRecDepth 20000
set_option maxHeartbeats 2000000
namespace Go.Fs.Sr
open Go.Proofs.Try

theorem f53_ok {S : Nat → Option Summ} (hS : SumOK prog S) (s88 : S 88 = some (.own F85)) (s89 : S 89 = some (.own F89)) (s90 : S 90 = some (.own F90)) (s93 : S 93 = some (.own F93)) (ds : List D) (r : D) (hr : F53 ds = some r) : FnOK prog 53 (ds.map .d) { ret := r } := by
  unfold F53 at hr
  split at hr
  case h_2 => cases hr
  rename_i fs ns
  split at hr
  case isFalse => cases hr
  rename_i hc
  obtain ⟨h1, h2, h3, h4, h5, h6, h7⟩ := hc
  simp only [Option.some.injEq] at hr
  subst hr
  have hmw := manyN_wt fs
  refine fnOK_awp (A := ⟨tab, S, .x⟩) tab_ok hS mixed func53 rfl rfl rfl rfl (by show 1 ≤ 67; decide) rfl ?_
  refine seqK fun K hK => ?_
  simp only [bW, ↓splitB_true, ↓splitB_false, nilCmp, opConv, eq_self, if_true, if_false, Nat.reduceEqDiff, reduceCtorEq, ↓reduceIte, Nat.reduceLT, Nat.reduceAdd, Nat.reduceMul, Nat.reduceSub, Nat.reduceLeDiff, Nat.reduceBEq, Int.reduceEq, Int.reduceNeg, tk, ntmps53, results53, s88, s89, s90, s93, F85, F89, F90, F93]
  refine hK _ ?_; clear hK K
  refine seqK fun K hK => ?_
  simp only [bW, ↓splitB_true, ↓splitB_false, nilCmp, opConv, eq_self, if_true, if_false, Nat.reduceEqDiff, reduceCtorEq, ↓reduceIte, Nat.reduceLT, Nat.reduceAdd, Nat.reduceMul, Nat.reduceSub, Nat.reduceLeDiff, Nat.reduceBEq, Int.reduceEq, Int.reduceNeg, tk, ntmps53, results53, s88, s89, s90, s93, F85, F89, F90, F93]
  refine hK _ ?_; clear hK K
  refine seqK fun K hK => ?_
  refine seqK fun K2 hK2 => ?_
  simp only [bW, ↓splitB_true, ↓splitB_false, nilCmp, opConv, eq_self, if_true, if_false, Nat.reduceEqDiff, reduceCtorEq, ↓reduceIte, Nat.reduceLT, Nat.reduceAdd, Nat.reduceMul, Nat.reduceSub, Nat.reduceLeDiff, Nat.reduceBEq, Int.reduceEq, Int.reduceNeg, tk, ntmps53, results53, s88, s89, s90, s93, F85, F89, F90, F93]
  refine hK2 _ ?_; clear hK2 K2
  rw [awp_block]
  refine loopW [1, 3, 7, 8, 9] (fun i : Nat => stL 67 [(1, .a 500000 0), (3, .d (.i .i64 ((manyN fs : Int) - manyN (fs.drop i)))), (7, .d (.l 6 fs)), (8, .d (.i .i64 fs.length)), (9, .d (.i .i64 i))] [(500000, some (.box [.d (.l 6 fs), .d (.l 1 ns)]))]) (fun i => i ≤ fs.length ∧ fs.all funB = (fs.drop i).all funB) (fun i => fs.length - i) ?_ ?_
  · refine ⟨?_, 0, ?_, by omega, by first | rfl | simp⟩
    · simp only [bK, Nat.reduceEqDiff, reduceCtorEq, ↓reduceIte, Nat.reduceBEq, Nat.reduceLeDiff, Nat.reduceAdd, if_true, if_false]
    · simp only [bK, Nat.reduceEqDiff, reduceCtorEq, ↓reduceIte, Nat.reduceBEq, Nat.reduceLeDiff, Nat.reduceAdd, if_true, if_false]
      refine stL_eq ?_ ?_
      · simp only [Option.some.injEq, Ret.mk.injEq, List.cons.injEq, Prod.mk.injEq, AV.d.injEq, D.i.injEq, D.b.injEq, D.s.injEq, true_and, and_true]
        first | rfl | (simp only [List.drop_zero]; omega)
      · try rfl
  rintro i ⟨hi, hn⟩
  refine seqK fun K3 hK3 => ?_
  simp only [bW, ↓splitB_true, ↓splitB_false, nilCmp, opConv, eq_self, if_true, if_false, Nat.reduceEqDiff, reduceCtorEq, ↓reduceIte, Nat.reduceLT, Nat.reduceAdd, Nat.reduceMul, Nat.reduceSub, Nat.reduceLeDiff, Nat.reduceBEq, Int.reduceEq, Int.reduceNeg, tk, ntmps53, results53, s88, s89, s90, s93, F85, F89, F90, F93]
  refine hK3 _ ?_; clear hK3 K3
  refine seqK fun K3 hK3 => ?_
  simp only [bW, ↓splitB_true, ↓splitB_false, nilCmp, opConv, eq_self, if_true, if_false, Nat.reduceEqDiff, reduceCtorEq, ↓reduceIte, Nat.reduceLT, Nat.reduceAdd, Nat.reduceMul, Nat.reduceSub, Nat.reduceLeDiff, Nat.reduceBEq, Int.reduceEq, Int.reduceNeg, tk, ntmps53, results53, s88, s89, s90, s93, F85, F89, F90, F93]
  refine splitB_intro (fun hb => hK3 _ ?_) (fun hb => hK _ ?_) <;> clear hK3 K3
  · have hlt := of_decide_eq_true hb
    clear hb
    have hlt : i < fs.length := by omega
    have hrow := shLL_get h1 hlt
    have hok := okLL_get h2 hlt
    have hwt := wtLL_mono hlt
    have hst := all_step funB (xs := fs) hlt
    have hmn := manyN_step hlt
    have hml := manyN_drop fs i
    generalize hrw : fs.getD i [] = row at hrow hok hwt hst hmn
    obtain ⟨cm, qm, rfl, em, hrow⟩ := shL_cons hrow
    obtain ⟨cw, qw, rfl, ew, hrow⟩ := shL_cons hrow
    obtain ⟨ca, qa, rfl, ea, hrow⟩ := shL_cons hrow
    obtain ⟨cy, qy, rfl, ey, hrow⟩ := shL_cons hrow
    obtain ⟨cl, ql, rfl, el, hrow⟩ := shL_cons hrow
    obtain ⟨cc, qc, rfl, ec, hrow⟩ := shL_cons hrow
    obtain rfl := shL_nil hrow
    obtain ⟨m, rfl⟩ := shD_s em
    obtain ⟨w, rfl⟩ := shD_s ew
    obtain ⟨za, ps, rfl, hza, ha⟩ := shD_l2 ea
    obtain rfl : za = 1 := hza
    obtain ⟨ty, rfl⟩ := shD_i ey
    obtain ⟨sl, rfl⟩ := shD_i el
    obtain ⟨zc, cs, rfl, hzc, hc⟩ := shD_l2 ec
    obtain rfl : zc = 2 := hzc
    simp only [okL_cons, okL_nil, okD_s, okD_l, okD_i, okD_b, and_true, true_and] at hok
    obtain ⟨k1, k2, ⟨k3, k3'⟩, k4, k5, ⟨k6, k6'⟩⟩ := hok
    simp only [codeN] at hmn
    simp only [wtL, wt] at hwt
    have hnm : funB [.s m, .s w, .l 1 ps, .i .i64 ty, .i .i64 sl, .l 2 cs] = (lexB m && (headB w ps ty sl && codeB cs)) := rfl
    rw [hnm] at hst
    refine seqK fun K4 hK4 => ?_
    rw [awp_block]
    refine seqK fun K5 hK5 => ?_
    simp only [bW, ↓splitB_true, ↓splitB_false, nilCmp, opConv, eq_self, if_true, if_false, Nat.reduceEqDiff, reduceCtorEq, ↓reduceIte, Nat.reduceLT, Nat.reduceAdd, Nat.reduceMul, Nat.reduceSub, Nat.reduceLeDiff, Nat.reduceBEq, Int.reduceEq, Int.reduceNeg, tk, ntmps53, results53, s88, s89, s90, s93, F85, F89, F90, F93]
    refine ⟨⟨by omega, by omega⟩, ?_⟩
    rw [hrw]
    simp only [bW, ↓splitB_true, ↓splitB_false, nilCmp, opConv, eq_self, if_true, if_false, Nat.reduceEqDiff, reduceCtorEq, ↓reduceIte, Nat.reduceLT, Nat.reduceAdd, Nat.reduceMul, Nat.reduceSub, Nat.reduceLeDiff, Nat.reduceBEq, Int.reduceEq, Int.reduceNeg, tk, ntmps53, results53, s88, s89, s90, s93, F85, F89, F90, F93]
    refine hK5 _ ?_; clear hK5 K5
    refine seqK fun K5 hK5 => ?_
    simp only [bW, ↓splitB_true, ↓splitB_false, nilCmp, opConv, eq_self, if_true, if_false, Nat.reduceEqDiff, reduceCtorEq, ↓reduceIte, Nat.reduceLT, Nat.reduceAdd, Nat.reduceMul, Nat.reduceSub, Nat.reduceLeDiff, Nat.reduceBEq, Int.reduceEq, Int.reduceNeg, tk, ntmps53, results53, s88, s89, s90, s93, F85, F89, F90, F93]
    simp (disch := omega) only [wrap64]
    refine hK5 _ ?_; clear hK5 K5
    simp only [bW, ↓splitB_true, ↓splitB_false, nilCmp, opConv, eq_self, if_true, if_false, Nat.reduceEqDiff, reduceCtorEq, ↓reduceIte, Nat.reduceLT, Nat.reduceAdd, Nat.reduceMul, Nat.reduceSub, Nat.reduceLeDiff, Nat.reduceBEq, Int.reduceEq, Int.reduceNeg, tk, ntmps53, results53, s88, s89, s90, s93, F85, F89, F90, F93]
    refine ⟨by omega, ?_⟩
    have hbad : (lexB m && (headB w ps ty sl && codeB cs)) = false → imgB fs ns = false := fun h => by
      rw [h, Bool.false_and] at hst
      simp only [imgB]
      rw [hn, hst, Bool.false_and, Bool.and_false]
    refine splitB_intro (fun hb => ?_) (fun hb => ?_)
    · rw [hbad (by rw [show lexB m = false by simpa using hb, Bool.false_and])]
    have b1 : lexB m = true := by simpa using hb
    refine ⟨⟨k2, ha, k3⟩, ?_⟩
    refine splitB_intro (fun hb => ?_) (fun hb => ?_)
    · rw [hbad (by rw [show headB w ps ty sl = false by simpa using hb]; simp)]
    have b2 : headB w ps ty sl = true := by simpa using hb
    refine splitB_intro (fun hb => ?_) (fun hb => ?_)
    · have hb := of_decide_eq_true hb
      rw [hbad (by simp only [codeB]; rw [decide_eq_false (show ¬ cs.length ≤ 460 by omega)]; simp)]
    have b3 := of_decide_eq_false hb
    refine ⟨⟨hc, k6⟩, ?_⟩
    rw [any_not]
    refine splitB_intro (fun hb => ?_) (fun hb => hK4 _ ?_) <;> clear hK4 K4
    · rw [hbad (by simp only [codeB]; rw [show cs.all insB = false by simpa using hb]; simp)]
    have hall : cs.all insB = true := by simpa using hb
    have hcb : codeB cs = true := by
      simp only [codeB]
      rw [hall, decide_eq_true (show cs.length ≤ 460 by omega)]
      rfl
    rw [b1, b2, hcb] at hst
    simp only [Bool.true_and] at hst
    clear hbad
    simp only [bW, ↓splitB_true, ↓splitB_false, nilCmp, opConv, eq_self, if_true, if_false, Nat.reduceEqDiff, reduceCtorEq, ↓reduceIte, Nat.reduceLT, Nat.reduceAdd, Nat.reduceMul, Nat.reduceSub, Nat.reduceLeDiff, Nat.reduceBEq, Int.reduceEq, Int.reduceNeg, tk, ntmps53, results53, s88, s89, s90, s93, F85, F89, F90, F93]
    try simp (disch := omega) only [wrap64]
    refine ⟨?_, i + 1, ?_, ⟨?_, ?_⟩, ?_⟩
    · simp only [bK, Nat.reduceEqDiff, reduceCtorEq, ↓reduceIte, Nat.reduceBEq, Nat.reduceLeDiff, Nat.reduceAdd, if_true, if_false]
    · simp only [bK, Nat.reduceEqDiff, reduceCtorEq, ↓reduceIte, Nat.reduceBEq, Nat.reduceLeDiff, Nat.reduceAdd, if_true, if_false]
      refine stL_eq ?_ ?_
      · simp only [Option.some.injEq, Ret.mk.injEq, List.cons.injEq, Prod.mk.injEq, AV.d.injEq, D.i.injEq, D.b.injEq, D.s.injEq, true_and, and_true]
        try omega
      · try rfl
    · omega
    · rw [hn, hst]
    · omega
  · have hge := of_decide_eq_false hb
    have e : i = fs.length := by omega
    subst e
    clear hb hge
    rw [List.drop_length, List.all_nil] at hn
    simp only [bW, ↓splitB_true, ↓splitB_false, nilCmp, opConv, eq_self, if_true, if_false, Nat.reduceEqDiff, reduceCtorEq, ↓reduceIte, Nat.reduceLT, Nat.reduceAdd, Nat.reduceMul, Nat.reduceSub, Nat.reduceLeDiff, Nat.reduceBEq, Int.reduceEq, Int.reduceNeg, tk, ntmps53, results53, s88, s89, s90, s93, F85, F89, F90, F93]
    rw [show manyN (fs.drop fs.length) = 0 by rw [List.drop_length]; rfl]
    simp only [imgB]
    rw [hn, any_not, Bool.not_not, Bool.true_and]
    have e2 : ∀ P Q R S : Prop, (P → Q) → True := fun _ _ _ _ _ => trivial
    clear e2
    by_cases c1 : fs.length ≤ 72
    rotate_left
    · rw [decide_eq_false (show ¬ ((fs.length : Int) ≤ 72) by omega), decide_eq_false (fun h : fs.length ≤ 72 ∧ ns.length ≤ 8 => c1 h.1), Bool.false_and]
      trivial
    rw [decide_eq_true (show ((fs.length : Int) ≤ 72) by omega)]
    by_cases c2 : ns.length ≤ 8
    rotate_left
    · rw [decide_eq_false (show ¬ ((ns.length : Int) ≤ 8) by omega), decide_eq_false (fun h : fs.length ≤ 72 ∧ ns.length ≤ 8 => c2 h.2), Bool.false_and]
      trivial
    rw [decide_eq_true (show ((ns.length : Int) ≤ 8) by omega), decide_eq_true (show fs.length ≤ 72 ∧ ns.length ≤ 8 from ⟨c1, c2⟩), Bool.true_and]
    by_cases c3 : manyN fs ≤ 3680
    rotate_left
    · rw [decide_eq_false (show ¬ ((manyN fs : Int) - ((0 : Nat) : Int) ≤ 3680) by omega), decide_eq_false c3, Bool.false_and]
      trivial
    rw [decide_eq_true (show (manyN fs : Int) - ((0 : Nat) : Int) ≤ 3680 by omega), decide_eq_true c3, Bool.true_and]
    exact ⟨rfl, ⟨h5, by omega, by omega⟩, rfl⟩

end Go.Fs.Sr

set_option linter.unusedVariables false
set_option linter.unusedSimpArgs false
set_option maxRecDepth 20000
set_option maxHeartbeats 2000000
namespace Go.Fs.Sr
open Go.Proofs.Try

theorem f49_ok {S : Nat → Option Summ} (hS : SumOK prog S) (s85 : S 85 = some (.own F85)) (s86 : S 86 = some (.own F86)) (ds : List D) (r : D) (hr : F53 ds = some r) : FnOK prog 49 (ds.map .d) { ret := r } := by
  unfold F53 at hr
  split at hr
  case h_2 => cases hr
  rename_i fs ns
  split at hr
  case isFalse => cases hr
  rename_i hc
  obtain ⟨h1, h2, h3, h4, h5, h6, h7⟩ := hc
  simp only [Option.some.injEq] at hr
  subst hr
  have hmw := manyN_wt fs
  refine fnOK_awp (A := ⟨tab, S, .x⟩) tab_ok hS mixed func49 rfl rfl rfl rfl (by show 1 ≤ 81; decide) rfl ?_
  refine seqK fun K hK => ?_
  simp only [bW, ↓splitB_true, ↓splitB_false, nilCmp, opConv, eq_self, if_true, if_false, Nat.reduceEqDiff, reduceCtorEq, ↓reduceIte, Nat.reduceLT, Nat.reduceAdd, Nat.reduceMul, Nat.reduceSub, Nat.reduceLeDiff, Nat.reduceBEq, Int.reduceEq, Int.reduceNeg, tk, ntmps49, results49, s85, s86, F85, F86, fillA, placeT]
  refine hK _ ?_; clear hK K
  refine seqK fun K hK => ?_
  simp only [bW, ↓splitB_true, ↓splitB_false, nilCmp, opConv, eq_self, if_true, if_false, Nat.reduceEqDiff, reduceCtorEq, ↓reduceIte, Nat.reduceLT, Nat.reduceAdd, Nat.reduceMul, Nat.reduceSub, Nat.reduceLeDiff, Nat.reduceBEq, Int.reduceEq, Int.reduceNeg, tk, ntmps49, results49, s85, s86, F85, F86, fillA, placeT]
  by_cases c12 : fs.length ≤ 72 ∧ ns.length ≤ 8
  rotate_left
  · have hf : imgB fs ns = false := by simp only [imgB]; rw [decide_eq_false c12, Bool.false_and]
    rw [hf]
    refine splitB_intro (fun hb => ?_) (fun hb => ?_)
    · trivial
    have hb := of_decide_eq_false hb
    refine splitB_intro (fun hb2 => ?_) (fun hb2 => ?_)
    · trivial
    have hb2 := of_decide_eq_false hb2
    exact absurd ⟨by omega, by omega⟩ c12
  rw [decide_eq_false (show ¬ ((72 : Int) < (fs.length : Int)) by omega), decide_eq_false (show ¬ ((8 : Int) < (ns.length : Int)) by omega)]
  simp only [bW, ↓splitB_true, ↓splitB_false, nilCmp, opConv, eq_self, if_true, if_false, Nat.reduceEqDiff, reduceCtorEq, ↓reduceIte, Nat.reduceLT, Nat.reduceAdd, Nat.reduceMul, Nat.reduceSub, Nat.reduceLeDiff, Nat.reduceBEq, Int.reduceEq, Int.reduceNeg, tk, ntmps49, results49, s85, s86, F85, F86, fillA, placeT]
  refine hK _ ?_; clear hK K
  refine seqK fun K hK => ?_
  simp only [bW, ↓splitB_true, ↓splitB_false, nilCmp, opConv, eq_self, if_true, if_false, Nat.reduceEqDiff, reduceCtorEq, ↓reduceIte, Nat.reduceLT, Nat.reduceAdd, Nat.reduceMul, Nat.reduceSub, Nat.reduceLeDiff, Nat.reduceBEq, Int.reduceEq, Int.reduceNeg, tk, ntmps49, results49, s85, s86, F85, F86, fillA, placeT]
  refine hK _ ?_; clear hK K
  refine seqK fun K hK => ?_
  refine seqK fun K2 hK2 => ?_
  simp only [bW, ↓splitB_true, ↓splitB_false, nilCmp, opConv, eq_self, if_true, if_false, Nat.reduceEqDiff, reduceCtorEq, ↓reduceIte, Nat.reduceLT, Nat.reduceAdd, Nat.reduceMul, Nat.reduceSub, Nat.reduceLeDiff, Nat.reduceBEq, Int.reduceEq, Int.reduceNeg, tk, ntmps49, results49, s85, s86, F85, F86, fillA, placeT]
  refine hK2 _ ?_; clear hK2 K2
  rw [awp_block]
  refine loopW [1, 3, 4] (fun i : Nat => stL 81 [(1, .a 500000 0), (3, .d (.i .i64 ((manyN fs : Int) - manyN (fs.drop i)))), (4, .d (.i .i64 i))] [(500000, some (.box [.d (.l 6 fs), .d (.l 1 ns)]))]) (fun i => i ≤ fs.length ∧ (fs.all funB = (fs.drop i).all funB ∧ (manyN fs : Int) - manyN (fs.drop i) ≤ 3680)) (fun i => fs.length - i) ?_ ?_
  · refine ⟨?_, 0, ?_, by omega, rfl, by simp⟩
    · simp only [bK, Nat.reduceEqDiff, reduceCtorEq, ↓reduceIte, Nat.reduceBEq, Nat.reduceLeDiff, Nat.reduceAdd, if_true, if_false]
    · simp only [bK, Nat.reduceEqDiff, reduceCtorEq, ↓reduceIte, Nat.reduceBEq, Nat.reduceLeDiff, Nat.reduceAdd, if_true, if_false]
      refine stL_eq ?_ ?_
      · simp only [Option.some.injEq, Ret.mk.injEq, List.cons.injEq, Prod.mk.injEq, AV.d.injEq, D.i.injEq, D.b.injEq, D.s.injEq, true_and, and_true]
        first | rfl | (simp only [List.drop_zero]; omega)
      · try rfl
  rintro i ⟨hi, hn⟩
  refine seqK fun K3 hK3 => ?_
  simp only [bW, ↓splitB_true, ↓splitB_false, nilCmp, opConv, eq_self, if_true, if_false, Nat.reduceEqDiff, reduceCtorEq, ↓reduceIte, Nat.reduceLT, Nat.reduceAdd, Nat.reduceMul, Nat.reduceSub, Nat.reduceLeDiff, Nat.reduceBEq, Int.reduceEq, Int.reduceNeg, tk, ntmps49, results49, s85, s86, F85, F86, fillA, placeT]
  refine splitB_intro (fun hb => hK3 _ ?_) (fun hb => hK _ ?_) <;> clear hK3 K3
  · have hlt := of_decide_eq_true hb
    clear hb
    have hlt : i < fs.length := by omega
    have hrow := shLL_get h1 hlt
    have hok := okLL_get h2 hlt
    have hwt := wtLL_mono hlt
    have hst := all_step funB (xs := fs) hlt
    have hmn := manyN_step hlt
    have hml := manyN_drop fs i
    generalize hrw : fs.getD i [] = row at hrow hok hwt hst hmn
    obtain ⟨cm, qm, rfl, em, hrow⟩ := shL_cons hrow
    obtain ⟨cw, qw, rfl, ew, hrow⟩ := shL_cons hrow
    obtain ⟨ca, qa, rfl, ea, hrow⟩ := shL_cons hrow
    obtain ⟨cy, qy, rfl, ey, hrow⟩ := shL_cons hrow
    obtain ⟨cl, ql, rfl, el, hrow⟩ := shL_cons hrow
    obtain ⟨cc, qc, rfl, ec, hrow⟩ := shL_cons hrow
    obtain rfl := shL_nil hrow
    obtain ⟨m, rfl⟩ := shD_s em
    obtain ⟨w, rfl⟩ := shD_s ew
    obtain ⟨za, ps, rfl, hza, ha⟩ := shD_l2 ea
    obtain rfl : za = 1 := hza
    obtain ⟨ty, rfl⟩ := shD_i ey
    obtain ⟨sl, rfl⟩ := shD_i el
    obtain ⟨zc, cs, rfl, hzc, hc⟩ := shD_l2 ec
    obtain rfl : zc = 2 := hzc
    simp only [okL_cons, okL_nil, okD_s, okD_l, okD_i, okD_b, and_true, true_and] at hok
    obtain ⟨k1, k2, ⟨k3, k3'⟩, k4, k5, ⟨k6, k6'⟩⟩ := hok
    simp only [codeN] at hmn
    simp only [wtL, wt] at hwt
    have hnm : funB [.s m, .s w, .l 1 ps, .i .i64 ty, .i .i64 sl, .l 2 cs] = (lexB m && (headB w ps ty sl && codeB cs)) := rfl
    rw [hnm] at hst
    refine seqK fun K4 hK4 => ?_
    rw [awp_block]
    refine seqK fun K5 hK5 => ?_
    simp only [bW, ↓splitB_true, ↓splitB_false, nilCmp, opConv, eq_self, if_true, if_false, Nat.reduceEqDiff, reduceCtorEq, ↓reduceIte, Nat.reduceLT, Nat.reduceAdd, Nat.reduceMul, Nat.reduceSub, Nat.reduceLeDiff, Nat.reduceBEq, Int.reduceEq, Int.reduceNeg, tk, ntmps49, results49, s85, s86, F85, F86, fillA, placeT]
    refine ⟨⟨by omega, by omega⟩, ?_⟩
    rw [hrw]
    simp only [bW, ↓splitB_true, ↓splitB_false, nilCmp, opConv, eq_self, if_true, if_false, Nat.reduceEqDiff, reduceCtorEq, ↓reduceIte, Nat.reduceLT, Nat.reduceAdd, Nat.reduceMul, Nat.reduceSub, Nat.reduceLeDiff, Nat.reduceBEq, Int.reduceEq, Int.reduceNeg, tk, ntmps49, results49, s85, s86, F85, F86, fillA, placeT]
    refine hK5 _ ?_; clear hK5 K5
    refine seqK fun K5 hK5 => ?_
    simp only [bW, ↓splitB_true, ↓splitB_false, nilCmp, opConv, eq_self, if_true, if_false, Nat.reduceEqDiff, reduceCtorEq, ↓reduceIte, Nat.reduceLT, Nat.reduceAdd, Nat.reduceMul, Nat.reduceSub, Nat.reduceLeDiff, Nat.reduceBEq, Int.reduceEq, Int.reduceNeg, tk, ntmps49, results49, s85, s86, F85, F86, fillA, placeT]
    simp (disch := omega) only [wrap64]
    refine hK5 _ ?_; clear hK5 K5
    simp (maxSteps := 2000000) only [bW, ↓splitB_true, ↓splitB_false, nilCmp, opConv, eq_self, if_true, if_false, Nat.reduceEqDiff, reduceCtorEq, ↓reduceIte, Nat.reduceLT, Nat.reduceAdd, Nat.reduceMul, Nat.reduceSub, Nat.reduceLeDiff, Nat.reduceBEq, Int.reduceEq, Int.reduceNeg, tk, ntmps49, results49, s85, s86, F85, F86, fillA, placeT]
    refine splitB_intro (fun hb => ?_) (fun hb => ?_)
    · have hb := of_decide_eq_true hb
      have hf : imgB fs ns = false := by
        simp only [imgB]
        rw [decide_eq_false (show ¬ manyN fs ≤ 3680 by omega), Bool.false_and, Bool.and_false, Bool.and_false]
      rw [hf]
    have hb := of_decide_eq_false hb
    have b0 : (manyN fs : Int) - manyN (fs.drop (i + 1)) ≤ 3680 := by omega
    clear hb
    refine ⟨by omega, ?_⟩
    have hbad : (lexB m && (headB w ps ty sl && codeB cs)) = false → imgB fs ns = false := fun h => by
      rw [h, Bool.false_and] at hst
      simp only [imgB]
      rw [hn.1, hst, Bool.false_and, Bool.and_false]
    refine splitB_intro (fun hb => ?_) (fun hb => ?_)
    · rw [hbad (by rw [show lexB m = false by simpa using hb, Bool.false_and])]
    have b1 : lexB m = true := by simpa using hb
    refine ⟨rfl, ⟨k2, ha, k3, hc, k6⟩, ?_⟩
    refine splitB_intro (fun hb => ?_) (fun hb => hK4 _ ?_) <;> clear hK4 K4
    · rw [hbad (by rw [(Bool.not_eq_true' _).mp hb]; simp)]
    have b2 : (headB w ps ty sl && codeB cs) = true := (Bool.not_eq_false' _).mp hb
    rw [b1, b2] at hst
    simp only [Bool.true_and] at hst
    clear hbad
    simp only [bW, ↓splitB_true, ↓splitB_false, nilCmp, opConv, eq_self, if_true, if_false, Nat.reduceEqDiff, reduceCtorEq, ↓reduceIte, Nat.reduceLT, Nat.reduceAdd, Nat.reduceMul, Nat.reduceSub, Nat.reduceLeDiff, Nat.reduceBEq, Int.reduceEq, Int.reduceNeg, tk, ntmps49, results49, s85, s86, F85, F86, fillA, placeT]
    try simp (disch := omega) only [wrap64]
    refine ⟨?_, i + 1, ?_, ⟨?_, ?_⟩, ?_⟩
    · simp only [bK, Nat.reduceEqDiff, reduceCtorEq, ↓reduceIte, Nat.reduceBEq, Nat.reduceLeDiff, Nat.reduceAdd, if_true, if_false]
    · simp only [bK, Nat.reduceEqDiff, reduceCtorEq, ↓reduceIte, Nat.reduceBEq, Nat.reduceLeDiff, Nat.reduceAdd, if_true, if_false]
      refine stL_eq ?_ ?_
      · simp only [Option.some.injEq, Ret.mk.injEq, List.cons.injEq, Prod.mk.injEq, AV.d.injEq, D.i.injEq, D.b.injEq, D.s.injEq, true_and, and_true]
        try omega
      · try rfl
    · omega
    · exact ⟨by rw [hn.1, hst], b0⟩
    · omega
  · have hge := of_decide_eq_false hb
    have e : i = fs.length := by omega
    subst e
    clear hb hge
    rw [List.drop_length, List.all_nil] at hn
    have hm0 : manyN ([] : List (List D)) = 0 := rfl
    rw [hm0] at hn
    have himg : imgB fs ns = ns.all (plcB fs.length) := by
      simp only [imgB]
      rw [decide_eq_true c12, hn.1, decide_eq_true (show manyN fs ≤ 3680 by omega), Bool.true_and, Bool.true_and, Bool.true_and]
    clear hn
    refine seqK fun K hK => ?_
    refine seqK fun K2 hK2 => ?_
    simp only [bW, ↓splitB_true, ↓splitB_false, nilCmp, opConv, eq_self, if_true, if_false, Nat.reduceEqDiff, reduceCtorEq, ↓reduceIte, Nat.reduceLT, Nat.reduceAdd, Nat.reduceMul, Nat.reduceSub, Nat.reduceLeDiff, Nat.reduceBEq, Int.reduceEq, Int.reduceNeg, tk, ntmps49, results49, s85, s86, F85, F86, fillA, placeT]
    refine hK2 _ ?_; clear hK2 K2
    rw [awp_block]
    refine loopW [1, 6] (fun i : Nat => stL 81 [(1, .a 500000 0), (6, .d (.i .i64 i))] [(500000, some (.box [.d (.l 6 fs), .d (.l 1 ns)]))]) (fun i => i ≤ ns.length ∧ ns.all (plcB fs.length) = (ns.drop i).all (plcB fs.length)) (fun i => ns.length - i) ?_ ?_
    · refine ⟨?_, 0, ?_, by omega, by first | rfl | simp⟩
      · simp only [bK, Nat.reduceEqDiff, reduceCtorEq, ↓reduceIte, Nat.reduceBEq, Nat.reduceLeDiff, Nat.reduceAdd, if_true, if_false]
      · simp only [bK, Nat.reduceEqDiff, reduceCtorEq, ↓reduceIte, Nat.reduceBEq, Nat.reduceLeDiff, Nat.reduceAdd, if_true, if_false]
        refine stL_eq ?_ ?_
        · simp only [Option.some.injEq, Ret.mk.injEq, List.cons.injEq, Prod.mk.injEq, AV.d.injEq, D.i.injEq, D.b.injEq, D.s.injEq, true_and, and_true]
          first | rfl | (simp only [List.drop_zero]; omega)
        · try rfl
    rintro i ⟨hi, hn⟩
    refine seqK fun K3 hK3 => ?_
    simp only [bW, ↓splitB_true, ↓splitB_false, nilCmp, opConv, eq_self, if_true, if_false, Nat.reduceEqDiff, reduceCtorEq, ↓reduceIte, Nat.reduceLT, Nat.reduceAdd, Nat.reduceMul, Nat.reduceSub, Nat.reduceLeDiff, Nat.reduceBEq, Int.reduceEq, Int.reduceNeg, tk, ntmps49, results49, s85, s86, F85, F86, fillA, placeT]
    refine splitB_intro (fun hb => hK3 _ ?_) (fun hb => hK _ ?_) <;> clear hK3 K3
    · have hlt := of_decide_eq_true hb
      clear hb
      have hlt : i < ns.length := by omega
      have hrow := shLL_get h5 hlt
      have hst := all_step (plcB fs.length) (xs := ns) hlt
      generalize hrw : ns.getD i [] = row at hrow hst
      obtain ⟨c1', q1, rfl, e1, hrow⟩ := shL_cons hrow
      obtain rfl := shL_nil hrow
      obtain ⟨v, rfl⟩ := shD_i e1
      have hnm : plcB fs.length [.i .i64 v] = decide (0 ≤ v ∧ v < (fs.length : Int)) := rfl
      rw [hnm] at hst
      refine seqK fun K4 hK4 => ?_
      rw [awp_block]
      refine seqK fun K5 hK5 => ?_
      refine awp_quiet (by decide) ?_
      simp only [bW, ↓splitB_true, ↓splitB_false, nilCmp, opConv, eq_self, if_true, if_false, Nat.reduceEqDiff, reduceCtorEq, ↓reduceIte, Nat.reduceLT, Nat.reduceAdd, Nat.reduceMul, Nat.reduceSub, Nat.reduceLeDiff, Nat.reduceBEq, Int.reduceEq, Int.reduceNeg, tk, bQ, ntmps49, results49, hrw]
      refine ⟨⟨by omega, by omega⟩, ?_⟩
      by_cases hv : v < 0
      · rw [decide_eq_true hv]
        simp only [bW, ↓splitB_true, ↓splitB_false, nilCmp, opConv, eq_self, if_true, if_false, Nat.reduceEqDiff, reduceCtorEq, ↓reduceIte, Nat.reduceLT, Nat.reduceAdd, Nat.reduceMul, Nat.reduceSub, Nat.reduceLeDiff, Nat.reduceBEq, Int.reduceEq, Int.reduceNeg, tk, bQ, ntmps49, results49, hrw]
        refine hK5 _ ?_; clear hK5 K5
        simp only [bW, ↓splitB_true, ↓splitB_false, nilCmp, opConv, eq_self, if_true, if_false, Nat.reduceEqDiff, reduceCtorEq, ↓reduceIte, Nat.reduceLT, Nat.reduceAdd, Nat.reduceMul, Nat.reduceSub, Nat.reduceLeDiff, Nat.reduceBEq, Int.reduceEq, Int.reduceNeg, tk, ntmps49, results49, s85, s86, F85, F86, fillA, placeT]
        rw [decide_eq_false (fun h => by omega), Bool.false_and] at hst
        rw [himg, hn, hst]
      rw [decide_eq_false hv]
      simp only [bW, ↓splitB_true, ↓splitB_false, nilCmp, opConv, eq_self, if_true, if_false, Nat.reduceEqDiff, reduceCtorEq, ↓reduceIte, Nat.reduceLT, Nat.reduceAdd, Nat.reduceMul, Nat.reduceSub, Nat.reduceLeDiff, Nat.reduceBEq, Int.reduceEq, Int.reduceNeg, tk, bQ, ntmps49, results49, hrw]
      refine ⟨⟨by omega, by omega⟩, ?_⟩
      refine hK5 _ ?_; clear hK5 K5
      simp only [bW, ↓splitB_true, ↓splitB_false, nilCmp, opConv, eq_self, if_true, if_false, Nat.reduceEqDiff, reduceCtorEq, ↓reduceIte, Nat.reduceLT, Nat.reduceAdd, Nat.reduceMul, Nat.reduceSub, Nat.reduceLeDiff, Nat.reduceBEq, Int.reduceEq, Int.reduceNeg, tk, ntmps49, results49, s85, s86, F85, F86, fillA, placeT]
      refine splitB_intro (fun hb => ?_) (fun hb => hK4 _ ?_) <;> clear hK4 K4
      · have hb := of_decide_eq_true hb
        rw [decide_eq_false (fun h => by omega), Bool.false_and] at hst
        rw [himg, hn, hst]
      have hb := of_decide_eq_false hb
      rw [decide_eq_true (show 0 ≤ v ∧ v < (fs.length : Int) by omega), Bool.true_and] at hst
      simp only [bW, ↓splitB_true, ↓splitB_false, nilCmp, opConv, eq_self, if_true, if_false, Nat.reduceEqDiff, reduceCtorEq, ↓reduceIte, Nat.reduceLT, Nat.reduceAdd, Nat.reduceMul, Nat.reduceSub, Nat.reduceLeDiff, Nat.reduceBEq, Int.reduceEq, Int.reduceNeg, tk, ntmps49, results49, s85, s86, F85, F86, fillA, placeT]
      try simp (disch := omega) only [wrap64]
      refine ⟨?_, i + 1, ?_, ⟨?_, ?_⟩, ?_⟩
      · simp only [bK, Nat.reduceEqDiff, reduceCtorEq, ↓reduceIte, Nat.reduceBEq, Nat.reduceLeDiff, Nat.reduceAdd, if_true, if_false]
      · simp only [bK, Nat.reduceEqDiff, reduceCtorEq, ↓reduceIte, Nat.reduceBEq, Nat.reduceLeDiff, Nat.reduceAdd, if_true, if_false]
        refine stL_eq ?_ ?_
        · simp only [Option.some.injEq, Ret.mk.injEq, List.cons.injEq, Prod.mk.injEq, AV.d.injEq, D.i.injEq, D.b.injEq, D.s.injEq, true_and, and_true]
          try omega
        · try rfl
      · omega
      · rw [hn, hst]
      · omega
    · have hge := of_decide_eq_false hb
      have e : i = ns.length := by omega
      subst e
      clear hb hge
      rw [List.drop_length, List.all_nil] at hn
      simp only [bW, ↓splitB_true, ↓splitB_false, nilCmp, opConv, eq_self, if_true, if_false, Nat.reduceEqDiff, reduceCtorEq, ↓reduceIte, Nat.reduceLT, Nat.reduceAdd, Nat.reduceMul, Nat.reduceSub, Nat.reduceLeDiff, Nat.reduceBEq, Int.reduceEq, Int.reduceNeg, tk, ntmps49, results49, s85, s86, F85, F86, fillA, placeT]
      rw [himg, hn]

end Go.Fs.Sr

set_option linter.unusedVariables false
namespace Go.Fs.Sr
theorem scal_i : ∀ {xs : List (List D)}, shLL [.i] xs = true → (xs.all fun x => x.all scal) = true
  | [], _ => rfl
  | x :: xs, h => by
    simp only [shLL, Bool.and_eq_true] at h
    obtain ⟨c, q, rfl, e, h'⟩ := shL_cons h.1
    obtain rfl := shL_nil h'
    obtain ⟨t, rfl⟩ := shD_i e
    simp only [List.all_cons, List.all_nil, scal, Bool.and_true, Bool.true_and]
    exact scal_i h.2

/-- The code of a function. -/
def codeL : List D → List (List D)
  | [_, _, _, _, _, .l _ cs] => cs
  | _ => []
/-- What an instruction calls. -/
def callOf (n : Nat) : List D → List (List D)
  | [.i _ op, .i _ a] => if op = 8 ∧ 0 ≤ a ∧ a < (n : Int) then [[.i .i64 a]] else []
  | _ => []
def calls (fs : List (List D)) (i : Nat) : List (List D) := (codeL (fs.getD i [])).flatMap (callOf fs.length)
inductive Reach (fs ns : List (List D)) : Nat → Prop
  | main (a : Nat) (h : [.i .i64 (a : Int)] ∈ ns) : Reach fs ns a
  | call (i a : Nat) (h : Reach fs ns i) (hc : [.i .i64 (a : Int)] ∈ calls fs i) : Reach fs ns a
open Classical in
noncomputable def reachB (fs ns : List (List D)) (i : Nat) : Bool := decide (Reach fs ns i)
theorem reachB_true {fs ns : List (List D)} {i : Nat} : reachB fs ns i = true ↔ Reach fs ns i := by simp [reachB]
/-- Rows of what is seen. -/
def sr (n : Nat) (f : Nat → Bool) : List (List D) := (List.range n).map fun i => [.b (f i)]
theorem sr_len (n : Nat) (f : Nat → Bool) : (sr n f).length = n := by simp [sr]
theorem sr_get {n : Nat} {f : Nat → Bool} {i : Nat} (h : i < n) : (sr n f).getD i [] = [.b (f i)] := by
  simp [sr, List.getD_eq_getElem?_getD, h]
theorem sr_set {n : Nat} {f : Nat → Bool} {i : Nat} : (sr n f).set i [.b true] = sr n (upd f i true) := by
  apply List.ext_getElem?
  intro j
  simp only [sr, List.getElem?_set, List.getElem?_map, List.length_map, List.length_range, upd]
  by_cases e : i = j
  · subst e
    by_cases h : i < n
    · simp [h]
    · simp [h]
  · rw [if_neg e]
    by_cases h : j < n
    · have e2 : ¬ j = i := fun h => e h.symm
      simp [h, e2]
    · simp [h]
theorem sr_false (n : Nat) : List.replicate n [.b false] = sr n (fun _ => false) := by
  apply List.ext_getElem?
  intro j
  simp only [sr, List.getElem?_replicate, List.getElem?_map]
  by_cases h : j < n
  · simp [h]
  · simp [h]
theorem sr_congr {n : Nat} {f g : Nat → Bool} (h : ∀ i, i < n → f i = g i) : sr n f = sr n g := by
  unfold sr
  apply List.map_congr_left
  intro i hi
  rw [h i (by simpa using hi)]
/-- How many are not seen. -/
def un (f : Nat → Bool) : Nat → Nat
  | 0 => 0
  | n + 1 => un f n + if f n = true then 0 else 1
theorem un_le (f : Nat → Bool) : ∀ n, un f n ≤ n
  | 0 => Nat.le_refl _
  | n + 1 => by
    have := un_le f n
    simp only [un]
    split <;> omega
theorem un_same {f g : Nat → Bool} : ∀ {n}, (∀ i, i < n → f i = g i) → un f n = un g n
  | 0, _ => rfl
  | n + 1, h => by
    simp only [un]
    rw [un_same (n := n) fun i hi => h i (by omega), h n (by omega)]
theorem un_set {f : Nat → Bool} {a : Nat} (hf : f a = false) : ∀ {n}, a < n → un (upd f a true) n + 1 = un f n
  | 0, h => by omega
  | n + 1, h => by
    simp only [un]
    by_cases e : a = n
    · subst e
      rw [hf]
      have : un (upd f a true) a = un f a := un_same fun i hi => by simp [upd]; intro e; omega
      rw [this]
      simp [upd]
    · have := un_set hf (n := n) (by omega)
      have e' : upd f a true n = f n := by simp only [upd]; rw [if_neg (fun e' => e e'.symm)]
      rw [e']
      omega
/-- The numbers that are seen. -/
def pick1 (n : Nat) (f : Nat → Bool) : List (List D) := ((List.range n).filter f).map fun (i : Nat) => ([.i .i64 (i : Int)] : List D)
theorem pick1_step {n : Nat} {f : Nat → Bool} : pick1 (n + 1) f = if f n = true then pick1 n f ++ [[.i .i64 (n : Int)]] else pick1 n f := by
  unfold pick1
  rw [List.range_succ, List.filter_append, List.map_append]
  by_cases h : f n = true
  · simp [h]
  · simp [h]
theorem pick1_len (n : Nat) (f : Nat → Bool) : (pick1 n f).length ≤ n := by
  unfold pick1
  rw [List.length_map]
  exact Nat.le_trans (List.length_filter_le _ _) (by simp)
theorem pick1_congr {n : Nat} {f g : Nat → Bool} (h : ∀ i, i < n → f i = g i) : pick1 n f = pick1 n g := by
  unfold pick1
  congr 1
  apply List.filter_congr
  intro i hi
  rw [h i (by simpa using hi)]
noncomputable def reachL (fs ns : List (List D)) : List (List D) := pick1 fs.length (reachB fs ns)

/-- The work that is left. -/
structure WInv (fs ns : List (List D)) (seen : Nat → Bool) (todo : List (List D)) : Prop where
  good : ∀ x ∈ todo, ∃ a : Nat, x = [.i .i64 (a : Int)] ∧ a < fs.length ∧ Reach fs ns a
  sound : ∀ i, i < fs.length → seen i = true → Reach fs ns i
  mains : ∀ a : Nat, [.i .i64 (a : Int)] ∈ ns → seen a = true ∨ [.i .i64 (a : Int)] ∈ todo
  closed : ∀ i, i < fs.length → seen i = true → ∀ a : Nat, [.i .i64 (a : Int)] ∈ calls fs i → seen a = true ∨ [.i .i64 (a : Int)] ∈ todo
  small : todo.length + 460 * un seen fs.length ≤ 8 + 460 * 72

theorem img_mains {fs ns : List (List D)} (h : imgB fs ns = true) (hs : shLL [.i] ns = true) : ∀ x ∈ ns, ∃ a : Nat, x = [.i .i64 (a : Int)] ∧ a < fs.length := by
  simp only [imgB, Bool.and_eq_true, List.all_eq_true] at h
  intro x hx
  have hp := h.2.2.2 x hx
  have hsh : ∀ (ys : List (List D)), shLL [.i] ys = true → x ∈ ys → shL [.i] x = true := by
    intro ys
    induction ys with
    | nil => intro _ h; cases h
    | cons y ys ih =>
      intro h1 h2
      simp only [shLL, Bool.and_eq_true] at h1
      cases h2 with
      | head => exact h1.1
      | tail _ h2 => exact ih h1.2 h2
  obtain ⟨c, q, rfl, e, h'⟩ := shL_cons (hsh ns hs hx)
  obtain rfl := shL_nil h'
  obtain ⟨v, rfl⟩ := shD_i e
  have hp := of_decide_eq_true (show decide (0 ≤ v ∧ v < (fs.length : Int)) = true from hp)
  refine ⟨v.toNat, ?_, by omega⟩
  have : ((v.toNat : Nat) : Int) = v := by omega
  rw [this]
theorem img_len {fs ns : List (List D)} (h : imgB fs ns = true) : fs.length ≤ 72 ∧ ns.length ≤ 8 := by
  simp only [imgB, Bool.and_eq_true, decide_eq_true_eq] at h
  exact h.1
theorem img_code {fs ns : List (List D)} (h : imgB fs ns = true) {i : Nat} (hi : i < fs.length) : (codeL (fs.getD i [])).length ≤ 460 ∧ (codeL (fs.getD i [])).all insB = true := by
  simp only [imgB, Bool.and_eq_true, List.all_eq_true] at h
  have hf := h.2.1 (fs.getD i []) (by
    rw [List.getD_eq_getElem?_getD, List.getElem?_eq_getElem hi]
    exact List.getElem_mem hi)
  generalize fs.getD i [] = row at hf
  unfold funB at hf
  split at hf
  · simp only [codeB, Bool.and_eq_true, decide_eq_true_eq] at hf
    exact ⟨hf.2.2.1, hf.2.2.2⟩
  · cases hf
theorem callOf_len (n : Nat) (x : List D) : (callOf n x).length ≤ 1 := by
  unfold callOf
  split
  · split <;> simp
  · simp
theorem flat_len (n : Nat) : ∀ (cs : List (List D)), (cs.flatMap (callOf n)).length ≤ cs.length
  | [] => by simp
  | x :: xs => by
    have := flat_len n xs
    have := callOf_len n x
    simp only [List.flatMap_cons, List.length_append, List.length_cons]
    omega
theorem calls_good {fs : List (List D)} {i : Nat} : ∀ x ∈ calls fs i, ∃ a : Nat, x = [.i .i64 (a : Int)] ∧ a < fs.length := by
  intro x hx
  obtain ⟨c, hm, hc⟩ := List.mem_flatMap.1 hx
  unfold callOf at hc
  split at hc
  · split at hc
    · rename_i op _ a hP
      obtain rfl := List.mem_singleton.1 hc
      refine ⟨a.toNat, ?_, by omega⟩
      have : ((a.toNat : Nat) : Int) = a := by omega
      rw [this]
    · cases hc
  · cases hc
theorem winv_init {fs ns : List (List D)} (h : imgB fs ns = true) (hs : shLL [.i] ns = true) : WInv fs ns (fun _ => false) ns where
  good x hx := by
    obtain ⟨a, rfl, ha⟩ := img_mains h hs x hx
    exact ⟨a, rfl, ha, .main a hx⟩
  sound i hi h := by cases h
  mains a h := .inr h
  closed i hi h := by cases h
  small := by
    have := img_len h
    have := un_le (fun _ => false) fs.length
    omega
theorem winv_skip {fs ns : List (List D)} {seen : Nat → Bool} {a : Nat} {todo : List (List D)} (h : WInv fs ns seen ([.i .i64 (a : Int)] :: todo)) (hs : seen a = true) : WInv fs ns seen todo where
  good x hx := h.good x (.tail _ hx)
  sound := h.sound
  mains b hb := by
    rcases h.mains b hb with h1 | h1
    · exact .inl h1
    · cases h1 with
      | head => exact .inl hs
      | tail _ h1 => exact .inr h1
  closed i hi h1 b hb := by
    rcases h.closed i hi h1 b hb with h1 | h1
    · exact .inl h1
    · cases h1 with
      | head => exact .inl hs
      | tail _ h1 => exact .inr h1
  small := by have := h.small; simp only [List.length_cons] at this; omega
theorem winv_take {fs ns : List (List D)} {seen : Nat → Bool} {a : Nat} {todo : List (List D)} (hi : imgB fs ns = true) (h : WInv fs ns seen ([.i .i64 (a : Int)] :: todo)) (hs : seen a = false) : WInv fs ns (upd seen a true) (todo ++ calls fs a) := by
  obtain ⟨b, e, hlt, hr⟩ := h.good _ (.head _)
  have hab : a = b := Int.ofNat_inj.1 (by simpa using e)
  subst hab
  have key : ∀ b : Nat, seen b = true ∨ [.i .i64 (b : Int)] ∈ ([.i .i64 (a : Int)] : List D) :: todo → upd seen a true b = true ∨ [.i .i64 (b : Int)] ∈ todo ++ calls fs a := by
    intro b hb
    rcases hb with hb | hb
    · left; simp only [upd]; split
      · rfl
      · exact hb
    · by_cases e : b = a
      · subst e; left; simp [upd]
      · right
        cases hb with
        | head => exact absurd rfl e
        | tail _ hb => exact List.mem_append_left _ hb
  refine ⟨?_, ?_, ?_, ?_, ?_⟩
  · intro x hx
    rcases List.mem_append.1 hx with hx | hx
    · exact h.good x (.tail _ hx)
    · obtain ⟨b, rfl, hb⟩ := calls_good x hx
      exact ⟨b, rfl, hb, .call a b hr hx⟩
  · intro i hi hsi
    simp only [upd] at hsi
    split at hsi
    · rename_i e; subst e; exact hr
    · exact h.sound i hi hsi
  · intro b hb
    exact key b (h.mains b hb)
  · intro i hi hsi b hb
    simp only [upd] at hsi
    split at hsi
    · rename_i e; subst e; exact .inr (List.mem_append_right _ hb)
    · exact key b (h.closed i hi hsi b hb)
  · have h1 := h.small
    have h2 := un_set hs hlt
    have h3 := flat_len fs.length (codeL (fs.getD a []))
    have h4 := (img_code hi hlt).1
    have h5 : (calls fs a).length ≤ 460 := Nat.le_trans h3 h4
    simp only [List.length_cons, List.length_append] at h1 ⊢
    omega
theorem winv_end {fs ns : List (List D)} {seen : Nat → Bool} (hi : imgB fs ns = true) (hs : shLL [.i] ns = true) (h : WInv fs ns seen []) : ∀ i, i < fs.length → seen i = reachB fs ns i := by
  intro i hlt
  rw [Bool.eq_iff_iff, reachB_true]
  refine ⟨h.sound i hlt, fun hr => ?_⟩
  have : ∀ i, Reach fs ns i → i < fs.length ∧ seen i = true := by
    intro i hr
    induction hr with
    | main a ha =>
      obtain ⟨b, e, hb⟩ := img_mains hi hs _ ha
      have hab : a = b := Int.ofNat_inj.1 (by simpa using e)
      subst hab
      rcases h.mains a ha with h1 | h1
      · exact ⟨hb, h1⟩
      · cases h1
    | call i a _ hc ih =>
      obtain ⟨b, e, hb⟩ := calls_good _ hc
      have hab : a = b := Int.ofNat_inj.1 (by simpa using e)
      subst hab
      rcases h.closed i ih.1 ih.2 a hc with h1 | h1
      · exact ⟨hb, h1⟩
      · cases h1
  exact (this i hr).2
/-- What 'reached' and 'l19Reach' say. -/
noncomputable def F54 : List D → Option D
  | [.g [.l 6 fs, .l 1 ns]] => if shLL lfun fs = true ∧ okLL fs = true ∧ shLL [.i] ns = true ∧ okLL ns = true ∧ imgB fs ns = true then some (.l 1 (reachL fs ns)) else none
  | _ => none
noncomputable def F50 : List D → Option D
  | [.g [.l 6 fs, .l 1 ns]] => if shLL lfun fs = true ∧ okLL fs = true ∧ shLL [.i] ns = true ∧ okLL ns = true ∧ imgB fs ns = true then some (.l 1 (sr fs.length (reachB fs ns))) else none
  | _ => none
noncomputable def F18 : List D → Option D
  | [.g [.l 6 fs, .l 1 ns]] => if shLL lfun fs = true ∧ okLL fs = true ∧ fs.length ≤ 1048576 ∧ wtLL fs ≤ 1048576 ∧ shLL [.i] ns = true ∧ okLL ns = true ∧ ns.length ≤ 1048576 then some (.l 1 (if imgB fs ns = true then reachL fs ns else [])) else none
  | _ => none
end Go.Fs.Sr

set_option linter.unusedVariables false
set_option linter.unusedSimpArgs false
set_option maxRecDepth 20000
set_option maxHeartbeats 2000000
namespace Go.Fs.Sr
open Go.Proofs.Try

theorem f95_ok {S : Nat → Option Summ} (hS : SumOK prog S) (ds : List D) (r : D) (hr : toP [.i] ds = some r) : FnOK prog 95 (ds.map .d) { ret := r } := by
  obtain ⟨xs, rfl, h1, h2, h3, rfl⟩ := toP_inv hr
  clear hr
  have hsc := scal_i h1
  refine fnOK_awp (A := ⟨tab, S, .x⟩) tab_ok hS mixed func95 rfl rfl rfl rfl (by show 1 ≤ 8; decide) rfl ?_
  refine seqK fun K hK => ?_
  simp only [bW, ↓splitB_true, ↓splitB_false, nilCmp, opConv, eq_self, if_true, if_false, Nat.reduceEqDiff, reduceCtorEq, ↓reduceIte, Nat.reduceLT, Nat.reduceAdd, Nat.reduceMul, Nat.reduceSub, Nat.reduceLeDiff, Nat.reduceBEq, Int.reduceEq, Int.reduceNeg, tk, ntmps95, results95]
  refine hK _ ?_; clear hK K
  refine seqK fun K hK => ?_
  simp only [bW, ↓splitB_true, ↓splitB_false, nilCmp, opConv, eq_self, if_true, if_false, Nat.reduceEqDiff, reduceCtorEq, ↓reduceIte, Nat.reduceLT, Nat.reduceAdd, Nat.reduceMul, Nat.reduceSub, Nat.reduceLeDiff, Nat.reduceBEq, Int.reduceEq, Int.reduceNeg, tk, ntmps95, results95]
  intro b hb
  refine splitB_intro (fun e => ?_) (fun e => hK _ ?_) <;> clear hK K
  · rw [hb e]
  clear e hb
  simp only [bW, ↓splitB_true, ↓splitB_false, nilCmp, opConv, eq_self, if_true, if_false, Nat.reduceEqDiff, reduceCtorEq, ↓reduceIte, Nat.reduceLT, Nat.reduceAdd, Nat.reduceMul, Nat.reduceSub, Nat.reduceLeDiff, Nat.reduceBEq, Int.reduceEq, Int.reduceNeg, tk, ntmps95, results95]
  refine ⟨⟨by omega, by omega⟩, ?_⟩
  simp only [hsc]
  try simp only [bW, ↓splitB_true, ↓splitB_false, nilCmp, opConv, eq_self, if_true, if_false, Nat.reduceEqDiff, reduceCtorEq, ↓reduceIte, Nat.reduceLT, Nat.reduceAdd, Nat.reduceMul, Nat.reduceSub, Nat.reduceLeDiff, Nat.reduceBEq, Int.reduceEq, Int.reduceNeg, tk, ntmps95, results95]
  try simp only [Option.some.injEq, Ret.mk.injEq, List.cons.injEq, Prod.mk.injEq, AV.d.injEq, D.i.injEq, D.b.injEq, D.s.injEq, true_and, and_true]

end Go.Fs.Sr
