/- A part of the proof: an evaluator of the program's code over plain data, proved sound, and walks of the program's functions by it. No conditions beyond those in the theorems. -/
import Derived.WalkKit
import Derived.ProofKit
import Derived.OpenShut
import Derived.ShutString
import Derived.ChangeOld
import Derived.Below
import Derived.Carry
import Derived.SizedLaws
import Derived.Test.YtbgbnmghhmfihaaLawRp9
import Derived.Test.YtbgbnmghhmfihaaLawRp18
import Derived.Test.YtbgbnmghhmfihaaLawRp10
import Derived.Test.YtbgbnmghhmfihaaLawRp11
import Derived.Test.YtbgbnmghhmfihaaLawRp12
import Derived.Test.YtbgbnmghhmfihaaLawRp13
import Derived.Test.YtbgbnmghhmfihaaLawRp14
import Derived.Test.YtbgbnmghhmfihaaLawRp15
import Derived.Test.YtbgbnmghhmfihaaLawRp16
import Derived.Test.YtbgbnmghhmfihaaLawRp17
set_option linter.unusedVariables false
set_option linter.unusedSimpArgs false
set_option maxRecDepth 20000
set_option maxHeartbeats 2000000
namespace Go.Fs.Sr
open Go.Proofs.Try

theorem f4_ok {S : Nat → Option Summ} (hS : SumOK prog S) (s15 : S 15 = some (.own (szG limg))) (s17 : S 17 = some (.own (toG limg))) (s16 : S 16 = some (.own (F18))) (s18 : S 18 = some (.own (F18))) (s19 : S 19 = some (.own (eqP [.i]))) (s20 : S 20 = some (.own (eqG limg))) (s21 : S 21 = some (.io (markG limg))) (s22 : S 22 = some (.io (markP [.i]))) (s23 : S 23 = some (.own (heldP [.i]))) (ds : List D) (r : D) (hr : lawG limg ds = some r) : FnOK prog 4 (ds.map .d) { ret := r } := by
  obtain ⟨xs, rfl, h1, h2, rfl⟩ := lawG_inv hr
  clear hr
  have hsh := h1
  have hok := h2
  obtain ⟨c1, q1, rfl, e1, h1⟩ := shL_cons h1
  obtain ⟨c2, q2, rfl, e2, h1⟩ := shL_cons h1
  obtain rfl := shL_nil h1
  obtain ⟨z1, fs, rfl, hz1, e1⟩ := shD_l2 e1
  obtain rfl : z1 = 6 := hz1
  obtain ⟨z2, ns, rfl, hz2, e2⟩ := shD_l2 e2
  obtain rfl : z2 = 1 := hz2
  simp only [okL_cons, okL_nil, okD_s, okD_l, okD_i, okD_b, and_true, true_and] at h2
  obtain ⟨⟨kf, kf'⟩, ⟨kn, kn'⟩⟩ := h2
  refine fnOK_awp (A := ⟨tab, S, .x⟩) tab_ok hS mixed func4 rfl rfl rfl rfl (by show 1 ≤ 69; decide) rfl ?_
  refine seqK fun K hK => ?_
  simp only [bW, ↓splitB_true, ↓splitB_false, nilCmp, opConv, eq_self, if_true, if_false, Nat.reduceEqDiff, reduceCtorEq, ↓reduceIte, Nat.reduceLT, Nat.reduceAdd, Nat.reduceMul, Nat.reduceSub, Nat.reduceLeDiff, Nat.reduceBEq, Int.reduceEq, Int.reduceNeg, tk, ntmps4, results4, s15, s17, s16, s18, s19, s20, s21, s22, s23, keyOf]
  refine hK _ ?_; clear hK K
  refine seqK fun K hK => ?_
  simp only [bW, ↓splitB_true, ↓splitB_false, nilCmp, opConv, eq_self, if_true, if_false, Nat.reduceEqDiff, reduceCtorEq, ↓reduceIte, Nat.reduceLT, Nat.reduceAdd, Nat.reduceMul, Nat.reduceSub, Nat.reduceLeDiff, Nat.reduceBEq, Int.reduceEq, Int.reduceNeg, tk, ntmps4, results4, s15, s17, s16, s18, s19, s20, s21, s22, s23, keyOf]
  refine hK _ ?_; clear hK K
  refine seqK fun K hK => ?_
  simp only [bW, ↓splitB_true, ↓splitB_false, nilCmp, opConv, eq_self, if_true, if_false, Nat.reduceEqDiff, reduceCtorEq, ↓reduceIte, Nat.reduceLT, Nat.reduceAdd, Nat.reduceMul, Nat.reduceSub, Nat.reduceLeDiff, Nat.reduceBEq, Int.reduceEq, Int.reduceNeg, tk, ntmps4, results4, s15, s17, s16, s18, s19, s20, s21, s22, s23, keyOf]
  refine OkO_szG hsh hok (by omega) (by omega) ?_
  simp only [bW, ↓splitB_true, ↓splitB_false, nilCmp, opConv, eq_self, if_true, if_false, Nat.reduceEqDiff, reduceCtorEq, ↓reduceIte, Nat.reduceLT, Nat.reduceAdd, Nat.reduceMul, Nat.reduceSub, Nat.reduceLeDiff, Nat.reduceBEq, Int.reduceEq, Int.reduceNeg, tk, ntmps4, results4, s15, s17, s16, s18, s19, s20, s21, s22, s23, keyOf]
  refine hK _ ?_; clear hK K
  refine seqK fun K hK => ?_
  simp only [bW, ↓splitB_true, ↓splitB_false, nilCmp, opConv, eq_self, if_true, if_false, Nat.reduceEqDiff, reduceCtorEq, ↓reduceIte, Nat.reduceLT, Nat.reduceAdd, Nat.reduceMul, Nat.reduceSub, Nat.reduceLeDiff, Nat.reduceBEq, Int.reduceEq, Int.reduceNeg, tk, ntmps4, results4, s15, s17, s16, s18, s19, s20, s21, s22, s23, keyOf]
  refine splitB_intro (fun hb => ?_) (fun hb => hK _ ?_) <;> clear hK K
  · trivial
  have hb := of_decide_eq_false hb
  have hw : wtL [.l 6 fs, .l 1 ns] ≤ 1048576 := by unfold less at hb; split at hb <;> omega
  have hw2 := hw
  simp only [wtL, wt] at hw2
  clear hb
  have w1 : fs.length ≤ 1048576 := by omega
  have w2 : wtLL fs ≤ 1048576 := by omega
  have w3 : ns.length ≤ 1048576 := by omega
  have g1 := ansR_sh fs ns
  have g2 := ansR_ok ns w1
  have g3 := ansR_len fs ns
  have hlf := lvLL_le lfun fs e1 (by decide) (by decide)
  have hln := lvLL_le [.i] ns e2 (by decide) (by decide)
  have hly := lvLL_le [.i] _ g1 (by decide) (by decide)
  have hwn : wtLL (ansR fs ns) = 0 := wt0 g1 (by decide)
  have ex := eqL_refl limg _ hsh
  generalize hgen : ansR fs ns = ys at g1 g2 g3 hly hwn
  have er := eqLL_refl [.i] ys g1
  have l2 := okLL_ln _ g2
  have hkf := markLL_k fs 1
  have hkn := markLL_k ns (markLL fs 1).2
  have hky := markLL_k ys 1
  have m1 := shLL_mark [.i] ys 1 g1
  have m2 := lnLL_mark ys 1 l2
  have m3 := markLL_len ys 1
  have m4 := lvLL_mark ys 1
  have m5 := held_markLL ys 1 (by omega)
  refine seqK fun K hK => ?_
  simp only [bW, ↓splitB_true, ↓splitB_false, nilCmp, opConv, eq_self, if_true, if_false, Nat.reduceEqDiff, reduceCtorEq, ↓reduceIte, Nat.reduceLT, Nat.reduceAdd, Nat.reduceMul, Nat.reduceSub, Nat.reduceLeDiff, Nat.reduceBEq, Int.reduceEq, Int.reduceNeg, tk, ntmps4, results4, s15, s17, s16, s18, s19, s20, s21, s22, s23, keyOf]
  refine OkO_toG hsh hok hw ?_
  simp only [bW, ↓splitB_true, ↓splitB_false, nilCmp, opConv, eq_self, if_true, if_false, Nat.reduceEqDiff, reduceCtorEq, ↓reduceIte, Nat.reduceLT, Nat.reduceAdd, Nat.reduceMul, Nat.reduceSub, Nat.reduceLeDiff, Nat.reduceBEq, Int.reduceEq, Int.reduceNeg, tk, ntmps4, results4, s15, s17, s16, s18, s19, s20, s21, s22, s23, keyOf]
  refine OkO_F18 e1 kf' w1 w2 e2 kn' w3 ?_
  rw [hgen]
  simp only [bW, ↓splitB_true, ↓splitB_false, nilCmp, opConv, eq_self, if_true, if_false, Nat.reduceEqDiff, reduceCtorEq, ↓reduceIte, Nat.reduceLT, Nat.reduceAdd, Nat.reduceMul, Nat.reduceSub, Nat.reduceLeDiff, Nat.reduceBEq, Int.reduceEq, Int.reduceNeg, tk, ntmps4, results4, s15, s17, s16, s18, s19, s20, s21, s22, s23, keyOf]
  refine hK _ ?_; clear hK K
  refine seqK fun K hK => ?_
  simp only [bW, ↓splitB_true, ↓splitB_false, nilCmp, opConv, eq_self, if_true, if_false, Nat.reduceEqDiff, reduceCtorEq, ↓reduceIte, Nat.reduceLT, Nat.reduceAdd, Nat.reduceMul, Nat.reduceSub, Nat.reduceLeDiff, Nat.reduceBEq, Int.reduceEq, Int.reduceNeg, tk, ntmps4, results4, s15, s17, s16, s18, s19, s20, s21, s22, s23, keyOf]
  refine OkO_toG hsh hok hw ?_
  simp only [bW, ↓splitB_true, ↓splitB_false, nilCmp, opConv, eq_self, if_true, if_false, Nat.reduceEqDiff, reduceCtorEq, ↓reduceIte, Nat.reduceLT, Nat.reduceAdd, Nat.reduceMul, Nat.reduceSub, Nat.reduceLeDiff, Nat.reduceBEq, Int.reduceEq, Int.reduceNeg, tk, ntmps4, results4, s15, s17, s16, s18, s19, s20, s21, s22, s23, keyOf]
  refine hK _ ?_; clear hK K
  refine seqK fun K hK => ?_
  simp only [bW, ↓splitB_true, ↓splitB_false, nilCmp, opConv, eq_self, if_true, if_false, Nat.reduceEqDiff, reduceCtorEq, ↓reduceIte, Nat.reduceLT, Nat.reduceAdd, Nat.reduceMul, Nat.reduceSub, Nat.reduceLeDiff, Nat.reduceBEq, Int.reduceEq, Int.reduceNeg, tk, ntmps4, results4, s15, s17, s16, s18, s19, s20, s21, s22, s23, keyOf]
  refine OkO_F18 e1 kf' w1 w2 e2 kn' w3 ?_
  rw [hgen]
  simp only [bW, ↓splitB_true, ↓splitB_false, nilCmp, opConv, eq_self, if_true, if_false, Nat.reduceEqDiff, reduceCtorEq, ↓reduceIte, Nat.reduceLT, Nat.reduceAdd, Nat.reduceMul, Nat.reduceSub, Nat.reduceLeDiff, Nat.reduceBEq, Int.reduceEq, Int.reduceNeg, tk, ntmps4, results4, s15, s17, s16, s18, s19, s20, s21, s22, s23, keyOf]
  refine hK _ ?_; clear hK K
  refine seqK fun K hK => ?_
  simp only [bW, ↓splitB_true, ↓splitB_false, nilCmp, opConv, eq_self, if_true, if_false, Nat.reduceEqDiff, reduceCtorEq, ↓reduceIte, Nat.reduceLT, Nat.reduceAdd, Nat.reduceMul, Nat.reduceSub, Nat.reduceLeDiff, Nat.reduceBEq, Int.reduceEq, Int.reduceNeg, tk, ntmps4, results4, s15, s17, s16, s18, s19, s20, s21, s22, s23, keyOf]
  refine OkO_eqP rfl rfl g1 g1 g2 g2 (by omega) (by omega) ?_
  rw [er]
  simp only [bW, ↓splitB_true, ↓splitB_false, nilCmp, opConv, eq_self, if_true, if_false, Nat.reduceEqDiff, reduceCtorEq, ↓reduceIte, Nat.reduceLT, Nat.reduceAdd, Nat.reduceMul, Nat.reduceSub, Nat.reduceLeDiff, Nat.reduceBEq, Int.reduceEq, Int.reduceNeg, tk, ntmps4, results4, s15, s17, s16, s18, s19, s20, s21, s22, s23, keyOf]
  refine hK _ ?_; clear hK K
  refine seqK fun K hK => ?_
  refine seqK fun K5 hK5 => ?_
  refine awp_any ?_
  apply viaState (K := K5)
  · intro hL
    refine ord_step 0 [1] (by decide +kernel) ⟨?_, ?_⟩
    · simp only [allAt, anyAt]
      simp only [bW, ↓splitB_true, ↓splitB_false, nilCmp, opConv, eq_self, if_true, if_false, Nat.reduceEqDiff, reduceCtorEq, ↓reduceIte, Nat.reduceLT, Nat.reduceAdd, Nat.reduceMul, Nat.reduceSub, Nat.reduceLeDiff, Nat.reduceBEq, Int.reduceEq, Int.reduceNeg, tk, ntmps4, results4, s15, s17, s16, s18, s19, s20, s21, s22, s23, keyOf]
      refine ord_step 1 [] (by decide +kernel) ?_
      simp only [allAt, anyAt]
      simp only [bW, ↓splitB_true, ↓splitB_false, nilCmp, opConv, eq_self, if_true, if_false, Nat.reduceEqDiff, reduceCtorEq, ↓reduceIte, Nat.reduceLT, Nat.reduceAdd, Nat.reduceMul, Nat.reduceSub, Nat.reduceLeDiff, Nat.reduceBEq, Int.reduceEq, Int.reduceNeg, tk, ntmps4, results4, s15, s17, s16, s18, s19, s20, s21, s22, s23, keyOf]
      refine ord_step 2 [] (by decide +kernel) ?_
      simp only [allAt, anyAt]
      simp only [bW, ↓splitB_true, ↓splitB_false, nilCmp, opConv, eq_self, if_true, if_false, Nat.reduceEqDiff, reduceCtorEq, ↓reduceIte, Nat.reduceLT, Nat.reduceAdd, Nat.reduceMul, Nat.reduceSub, Nat.reduceLeDiff, Nat.reduceBEq, Int.reduceEq, Int.reduceNeg, tk, ntmps4, results4, s15, s17, s16, s18, s19, s20, s21, s22, s23, keyOf]
      refine OkO_toG hsh hok hw ?_
      simp only [bW, ↓splitB_true, ↓splitB_false, nilCmp, opConv, eq_self, if_true, if_false, Nat.reduceEqDiff, reduceCtorEq, ↓reduceIte, Nat.reduceLT, Nat.reduceAdd, Nat.reduceMul, Nat.reduceSub, Nat.reduceLeDiff, Nat.reduceBEq, Int.reduceEq, Int.reduceNeg, tk, ntmps4, results4, s15, s17, s16, s18, s19, s20, s21, s22, s23, keyOf]
      refine ord_step 3 [] (by decide +kernel) ?_
      simp only [allAt, anyAt]
      simp only [bW, ↓splitB_true, ↓splitB_false, nilCmp, opConv, eq_self, if_true, if_false, Nat.reduceEqDiff, reduceCtorEq, ↓reduceIte, Nat.reduceLT, Nat.reduceAdd, Nat.reduceMul, Nat.reduceSub, Nat.reduceLeDiff, Nat.reduceBEq, Int.reduceEq, Int.reduceNeg, tk, ntmps4, results4, s15, s17, s16, s18, s19, s20, s21, s22, s23, keyOf]
      refine OkO_eqG hsh hsh hok hok ?_
      simp only [bW, ↓splitB_true, ↓splitB_false, nilCmp, opConv, eq_self, if_true, if_false, Nat.reduceEqDiff, reduceCtorEq, ↓reduceIte, Nat.reduceLT, Nat.reduceAdd, Nat.reduceMul, Nat.reduceSub, Nat.reduceLeDiff, Nat.reduceBEq, Int.reduceEq, Int.reduceNeg, tk, ntmps4, results4, s15, s17, s16, s18, s19, s20, s21, s22, s23, keyOf]
      refine ord_step 4 [] (by decide +kernel) ?_
      simp only [allAt, anyAt]
      simp only [bW, ↓splitB_true, ↓splitB_false, nilCmp, opConv, eq_self, if_true, if_false, Nat.reduceEqDiff, reduceCtorEq, ↓reduceIte, Nat.reduceLT, Nat.reduceAdd, Nat.reduceMul, Nat.reduceSub, Nat.reduceLeDiff, Nat.reduceBEq, Int.reduceEq, Int.reduceNeg, tk, ntmps4, results4, s15, s17, s16, s18, s19, s20, s21, s22, s23, keyOf]
      refine ord_end (by decide +kernel) ?_
      exact hL
    · simp only [allAt, anyAt]
      simp only [bW, ↓splitB_true, ↓splitB_false, nilCmp, opConv, eq_self, if_true, if_false, Nat.reduceEqDiff, reduceCtorEq, ↓reduceIte, Nat.reduceLT, Nat.reduceAdd, Nat.reduceMul, Nat.reduceSub, Nat.reduceLeDiff, Nat.reduceBEq, Int.reduceEq, Int.reduceNeg, tk, ntmps4, results4, s15, s17, s16, s18, s19, s20, s21, s22, s23, keyOf]
      refine ord_step 0 [2] (by decide +kernel) ⟨?_, ?_⟩
      · simp only [allAt, anyAt]
        simp only [bW, ↓splitB_true, ↓splitB_false, nilCmp, opConv, eq_self, if_true, if_false, Nat.reduceEqDiff, reduceCtorEq, ↓reduceIte, Nat.reduceLT, Nat.reduceAdd, Nat.reduceMul, Nat.reduceSub, Nat.reduceLeDiff, Nat.reduceBEq, Int.reduceEq, Int.reduceNeg, tk, ntmps4, results4, s15, s17, s16, s18, s19, s20, s21, s22, s23, keyOf]
        refine ord_step 2 [] (by decide +kernel) ?_
        simp only [allAt, anyAt]
        simp only [bW, ↓splitB_true, ↓splitB_false, nilCmp, opConv, eq_self, if_true, if_false, Nat.reduceEqDiff, reduceCtorEq, ↓reduceIte, Nat.reduceLT, Nat.reduceAdd, Nat.reduceMul, Nat.reduceSub, Nat.reduceLeDiff, Nat.reduceBEq, Int.reduceEq, Int.reduceNeg, tk, ntmps4, results4, s15, s17, s16, s18, s19, s20, s21, s22, s23, keyOf]
        refine OkO_toG hsh hok hw ?_
        simp only [bW, ↓splitB_true, ↓splitB_false, nilCmp, opConv, eq_self, if_true, if_false, Nat.reduceEqDiff, reduceCtorEq, ↓reduceIte, Nat.reduceLT, Nat.reduceAdd, Nat.reduceMul, Nat.reduceSub, Nat.reduceLeDiff, Nat.reduceBEq, Int.reduceEq, Int.reduceNeg, tk, ntmps4, results4, s15, s17, s16, s18, s19, s20, s21, s22, s23, keyOf]
        refine ord_step 3 [] (by decide +kernel) ?_
        simp only [allAt, anyAt]
        simp only [bW, ↓splitB_true, ↓splitB_false, nilCmp, opConv, eq_self, if_true, if_false, Nat.reduceEqDiff, reduceCtorEq, ↓reduceIte, Nat.reduceLT, Nat.reduceAdd, Nat.reduceMul, Nat.reduceSub, Nat.reduceLeDiff, Nat.reduceBEq, Int.reduceEq, Int.reduceNeg, tk, ntmps4, results4, s15, s17, s16, s18, s19, s20, s21, s22, s23, keyOf]
        refine OkO_eqG hsh hsh hok hok ?_
        simp only [bW, ↓splitB_true, ↓splitB_false, nilCmp, opConv, eq_self, if_true, if_false, Nat.reduceEqDiff, reduceCtorEq, ↓reduceIte, Nat.reduceLT, Nat.reduceAdd, Nat.reduceMul, Nat.reduceSub, Nat.reduceLeDiff, Nat.reduceBEq, Int.reduceEq, Int.reduceNeg, tk, ntmps4, results4, s15, s17, s16, s18, s19, s20, s21, s22, s23, keyOf]
        refine ord_step 4 [] (by decide +kernel) ?_
        simp only [allAt, anyAt]
        simp only [bW, ↓splitB_true, ↓splitB_false, nilCmp, opConv, eq_self, if_true, if_false, Nat.reduceEqDiff, reduceCtorEq, ↓reduceIte, Nat.reduceLT, Nat.reduceAdd, Nat.reduceMul, Nat.reduceSub, Nat.reduceLeDiff, Nat.reduceBEq, Int.reduceEq, Int.reduceNeg, tk, ntmps4, results4, s15, s17, s16, s18, s19, s20, s21, s22, s23, keyOf]
        refine ord_end (by decide +kernel) ?_
        refine (congrArg K5 (st_eq fun t => ?_)).mpr hL
        by_cases ht : t = 27
        · subst ht
          simp only [upd, Nat.reduceEqDiff, ↓reduceIte, if_true, if_false]
        · simp only [upd, if_neg ht]
      · simp only [allAt, anyAt]
        simp only [bW, ↓splitB_true, ↓splitB_false, nilCmp, opConv, eq_self, if_true, if_false, Nat.reduceEqDiff, reduceCtorEq, ↓reduceIte, Nat.reduceLT, Nat.reduceAdd, Nat.reduceMul, Nat.reduceSub, Nat.reduceLeDiff, Nat.reduceBEq, Int.reduceEq, Int.reduceNeg, tk, ntmps4, results4, s15, s17, s16, s18, s19, s20, s21, s22, s23, keyOf]
        refine OkO_toG hsh hok hw ?_
        simp only [bW, ↓splitB_true, ↓splitB_false, nilCmp, opConv, eq_self, if_true, if_false, Nat.reduceEqDiff, reduceCtorEq, ↓reduceIte, Nat.reduceLT, Nat.reduceAdd, Nat.reduceMul, Nat.reduceSub, Nat.reduceLeDiff, Nat.reduceBEq, Int.reduceEq, Int.reduceNeg, tk, ntmps4, results4, s15, s17, s16, s18, s19, s20, s21, s22, s23, keyOf]
        refine ord_step 0 [] (by decide +kernel) ?_
        simp only [allAt, anyAt]
        simp only [bW, ↓splitB_true, ↓splitB_false, nilCmp, opConv, eq_self, if_true, if_false, Nat.reduceEqDiff, reduceCtorEq, ↓reduceIte, Nat.reduceLT, Nat.reduceAdd, Nat.reduceMul, Nat.reduceSub, Nat.reduceLeDiff, Nat.reduceBEq, Int.reduceEq, Int.reduceNeg, tk, ntmps4, results4, s15, s17, s16, s18, s19, s20, s21, s22, s23, keyOf]
        refine ord_step 3 [] (by decide +kernel) ?_
        simp only [allAt, anyAt]
        simp only [bW, ↓splitB_true, ↓splitB_false, nilCmp, opConv, eq_self, if_true, if_false, Nat.reduceEqDiff, reduceCtorEq, ↓reduceIte, Nat.reduceLT, Nat.reduceAdd, Nat.reduceMul, Nat.reduceSub, Nat.reduceLeDiff, Nat.reduceBEq, Int.reduceEq, Int.reduceNeg, tk, ntmps4, results4, s15, s17, s16, s18, s19, s20, s21, s22, s23, keyOf]
        refine OkO_eqG hsh hsh hok hok ?_
        simp only [bW, ↓splitB_true, ↓splitB_false, nilCmp, opConv, eq_self, if_true, if_false, Nat.reduceEqDiff, reduceCtorEq, ↓reduceIte, Nat.reduceLT, Nat.reduceAdd, Nat.reduceMul, Nat.reduceSub, Nat.reduceLeDiff, Nat.reduceBEq, Int.reduceEq, Int.reduceNeg, tk, ntmps4, results4, s15, s17, s16, s18, s19, s20, s21, s22, s23, keyOf]
        refine ord_step 4 [] (by decide +kernel) ?_
        simp only [allAt, anyAt]
        simp only [bW, ↓splitB_true, ↓splitB_false, nilCmp, opConv, eq_self, if_true, if_false, Nat.reduceEqDiff, reduceCtorEq, ↓reduceIte, Nat.reduceLT, Nat.reduceAdd, Nat.reduceMul, Nat.reduceSub, Nat.reduceLeDiff, Nat.reduceBEq, Int.reduceEq, Int.reduceNeg, tk, ntmps4, results4, s15, s17, s16, s18, s19, s20, s21, s22, s23, keyOf]
        refine ord_end (by decide +kernel) ?_
        refine (congrArg K5 (st_eq fun t => ?_)).mpr hL
        by_cases ht : t = 27
        · subst ht
          simp only [upd, Nat.reduceEqDiff, ↓reduceIte, if_true, if_false]
        · simp only [upd, if_neg ht]
  refine hK5 _ ?_; clear hK5 K5
  rw [ex]
  simp only [bW, ↓splitB_true, ↓splitB_false, nilCmp, opConv, eq_self, if_true, if_false, Nat.reduceEqDiff, reduceCtorEq, ↓reduceIte, Nat.reduceLT, Nat.reduceAdd, Nat.reduceMul, Nat.reduceSub, Nat.reduceLeDiff, Nat.reduceBEq, Int.reduceEq, Int.reduceNeg, tk, ntmps4, results4, s15, s17, s16, s18, s19, s20, s21, s22, s23, keyOf]
  refine hK _ ?_; clear hK K
  refine seqK fun K hK => ?_
  simp only [bW, ↓splitB_true, ↓splitB_false, nilCmp, opConv, eq_self, if_true, if_false, Nat.reduceEqDiff, reduceCtorEq, ↓reduceIte, Nat.reduceLT, Nat.reduceAdd, Nat.reduceMul, Nat.reduceSub, Nat.reduceLeDiff, Nat.reduceBEq, Int.reduceEq, Int.reduceNeg, tk, ntmps4, results4, s15, s17, s16, s18, s19, s20, s21, s22, s23, keyOf]
  refine hK _ ?_; clear hK K
  refine seqK fun K hK => ?_
  simp only [bW, ↓splitB_true, ↓splitB_false, nilCmp, opConv, eq_self, if_true, if_false, Nat.reduceEqDiff, reduceCtorEq, ↓reduceIte, Nat.reduceLT, Nat.reduceAdd, Nat.reduceMul, Nat.reduceSub, Nat.reduceLeDiff, Nat.reduceBEq, Int.reduceEq, Int.reduceNeg, tk, ntmps4, results4, s15, s17, s16, s18, s19, s20, s21, s22, s23, keyOf]
  refine OkO_markG hsh hok (by omega) (by simp only [lvL, lv]; omega) ?_
  simp only [markS]
  simp only [bW, ↓splitB_true, ↓splitB_false, nilCmp, opConv, eq_self, if_true, if_false, Nat.reduceEqDiff, reduceCtorEq, ↓reduceIte, Nat.reduceLT, Nat.reduceAdd, Nat.reduceMul, Nat.reduceSub, Nat.reduceLeDiff, Nat.reduceBEq, Int.reduceEq, Int.reduceNeg, tk, ntmps4, results4, s15, s17, s16, s18, s19, s20, s21, s22, s23, keyOf]
  refine hK _ ?_; clear hK K
  refine seqK fun K hK => ?_
  simp only [bW, ↓splitB_true, ↓splitB_false, nilCmp, opConv, eq_self, if_true, if_false, Nat.reduceEqDiff, reduceCtorEq, ↓reduceIte, Nat.reduceLT, Nat.reduceAdd, Nat.reduceMul, Nat.reduceSub, Nat.reduceLeDiff, Nat.reduceBEq, Int.reduceEq, Int.reduceNeg, tk, ntmps4, results4, s15, s17, s16, s18, s19, s20, s21, s22, s23, keyOf]
  refine splitB_intro (fun hb => ?_) (fun hb => ?_)
  · have hb := of_decide_eq_true hb
    exact absurd hb (by omega)
  clear hb
  refine OkO_eqP rfl rfl g1 g1 g2 g2 (by omega) (by omega) ?_
  rw [er]
  simp only [bW, ↓splitB_true, ↓splitB_false, nilCmp, opConv, eq_self, if_true, if_false, Nat.reduceEqDiff, reduceCtorEq, ↓reduceIte, Nat.reduceLT, Nat.reduceAdd, Nat.reduceMul, Nat.reduceSub, Nat.reduceLeDiff, Nat.reduceBEq, Int.reduceEq, Int.reduceNeg, tk, ntmps4, results4, s15, s17, s16, s18, s19, s20, s21, s22, s23, keyOf]
  refine hK _ ?_; clear hK K
  refine seqK fun K hK => ?_
  simp only [bW, ↓splitB_true, ↓splitB_false, nilCmp, opConv, eq_self, if_true, if_false, Nat.reduceEqDiff, reduceCtorEq, ↓reduceIte, Nat.reduceLT, Nat.reduceAdd, Nat.reduceMul, Nat.reduceSub, Nat.reduceLeDiff, Nat.reduceBEq, Int.reduceEq, Int.reduceNeg, tk, ntmps4, results4, s15, s17, s16, s18, s19, s20, s21, s22, s23, keyOf]
  refine hK _ ?_; clear hK K
  refine seqK fun K hK => ?_
  simp only [bW, ↓splitB_true, ↓splitB_false, nilCmp, opConv, eq_self, if_true, if_false, Nat.reduceEqDiff, reduceCtorEq, ↓reduceIte, Nat.reduceLT, Nat.reduceAdd, Nat.reduceMul, Nat.reduceSub, Nat.reduceLeDiff, Nat.reduceBEq, Int.reduceEq, Int.reduceNeg, tk, ntmps4, results4, s15, s17, s16, s18, s19, s20, s21, s22, s23, keyOf]
  refine OkO_markP rfl g1 (by omega) l2 (by omega) (by omega) ?_
  simp only [bW, ↓splitB_true, ↓splitB_false, nilCmp, opConv, eq_self, if_true, if_false, Nat.reduceEqDiff, reduceCtorEq, ↓reduceIte, Nat.reduceLT, Nat.reduceAdd, Nat.reduceMul, Nat.reduceSub, Nat.reduceLeDiff, Nat.reduceBEq, Int.reduceEq, Int.reduceNeg, tk, ntmps4, results4, s15, s17, s16, s18, s19, s20, s21, s22, s23, keyOf]
  refine hK _ ?_; clear hK K
  refine seqK fun K hK => ?_
  simp only [bW, ↓splitB_true, ↓splitB_false, nilCmp, opConv, eq_self, if_true, if_false, Nat.reduceEqDiff, reduceCtorEq, ↓reduceIte, Nat.reduceLT, Nat.reduceAdd, Nat.reduceMul, Nat.reduceSub, Nat.reduceLeDiff, Nat.reduceBEq, Int.reduceEq, Int.reduceNeg, tk, ntmps4, results4, s15, s17, s16, s18, s19, s20, s21, s22, s23, keyOf]
  refine hK _ ?_; clear hK K
  refine seqK fun K hK => ?_
  simp only [bW, ↓splitB_true, ↓splitB_false, nilCmp, opConv, eq_self, if_true, if_false, Nat.reduceEqDiff, reduceCtorEq, ↓reduceIte, Nat.reduceLT, Nat.reduceAdd, Nat.reduceMul, Nat.reduceSub, Nat.reduceLeDiff, Nat.reduceBEq, Int.reduceEq, Int.reduceNeg, tk, ntmps4, results4, s15, s17, s16, s18, s19, s20, s21, s22, s23, keyOf]
  refine OkO_heldP rfl m1 (by omega) m2 (by omega) (by omega) ?_
  rw [m5]
  simp only [bW, ↓splitB_true, ↓splitB_false, nilCmp, opConv, eq_self, if_true, if_false, Nat.reduceEqDiff, reduceCtorEq, ↓reduceIte, Nat.reduceLT, Nat.reduceAdd, Nat.reduceMul, Nat.reduceSub, Nat.reduceLeDiff, Nat.reduceBEq, Int.reduceEq, Int.reduceNeg, tk, ntmps4, results4, s15, s17, s16, s18, s19, s20, s21, s22, s23, keyOf]
  refine hK _ ?_; clear hK K
  refine seqK fun K hK => ?_
  simp only [bW, ↓splitB_true, ↓splitB_false, nilCmp, opConv, eq_self, if_true, if_false, Nat.reduceEqDiff, reduceCtorEq, ↓reduceIte, Nat.reduceLT, Nat.reduceAdd, Nat.reduceMul, Nat.reduceSub, Nat.reduceLeDiff, Nat.reduceBEq, Int.reduceEq, Int.reduceNeg, tk, ntmps4, results4, s15, s17, s16, s18, s19, s20, s21, s22, s23, keyOf]
  refine splitB_intro (fun hb => ?_) (fun hb => hK _ ?_) <;> clear hK K
  · have hb := of_decide_eq_true hb
    exact absurd hb (by omega)
  clear hb
  refine seqK fun K hK => ?_
  simp only [bW, ↓splitB_true, ↓splitB_false, nilCmp, opConv, eq_self, if_true, if_false, Nat.reduceEqDiff, reduceCtorEq, ↓reduceIte, Nat.reduceLT, Nat.reduceAdd, Nat.reduceMul, Nat.reduceSub, Nat.reduceLeDiff, Nat.reduceBEq, Int.reduceEq, Int.reduceNeg, tk, ntmps4, results4, s15, s17, s16, s18, s19, s20, s21, s22, s23, keyOf]
  refine hK _ ?_; clear hK K
  refine seqK fun K hK => ?_
  simp only [bW, ↓splitB_true, ↓splitB_false, nilCmp, opConv, eq_self, if_true, if_false, Nat.reduceEqDiff, reduceCtorEq, ↓reduceIte, Nat.reduceLT, Nat.reduceAdd, Nat.reduceMul, Nat.reduceSub, Nat.reduceLeDiff, Nat.reduceBEq, Int.reduceEq, Int.reduceNeg, tk, ntmps4, results4, s15, s17, s16, s18, s19, s20, s21, s22, s23, keyOf]
  refine OkO_toG hsh hok hw ?_
  simp only [bW, ↓splitB_true, ↓splitB_false, nilCmp, opConv, eq_self, if_true, if_false, Nat.reduceEqDiff, reduceCtorEq, ↓reduceIte, Nat.reduceLT, Nat.reduceAdd, Nat.reduceMul, Nat.reduceSub, Nat.reduceLeDiff, Nat.reduceBEq, Int.reduceEq, Int.reduceNeg, tk, ntmps4, results4, s15, s17, s16, s18, s19, s20, s21, s22, s23, keyOf]
  refine OkO_F18 e1 kf' w1 w2 e2 kn' w3 ?_
  rw [hgen]
  simp only [bW, ↓splitB_true, ↓splitB_false, nilCmp, opConv, eq_self, if_true, if_false, Nat.reduceEqDiff, reduceCtorEq, ↓reduceIte, Nat.reduceLT, Nat.reduceAdd, Nat.reduceMul, Nat.reduceSub, Nat.reduceLeDiff, Nat.reduceBEq, Int.reduceEq, Int.reduceNeg, tk, ntmps4, results4, s15, s17, s16, s18, s19, s20, s21, s22, s23, keyOf]
  refine hK _ ?_; clear hK K
  refine seqK fun K hK => ?_
  simp only [bW, ↓splitB_true, ↓splitB_false, nilCmp, opConv, eq_self, if_true, if_false, Nat.reduceEqDiff, reduceCtorEq, ↓reduceIte, Nat.reduceLT, Nat.reduceAdd, Nat.reduceMul, Nat.reduceSub, Nat.reduceLeDiff, Nat.reduceBEq, Int.reduceEq, Int.reduceNeg, tk, ntmps4, results4, s15, s17, s16, s18, s19, s20, s21, s22, s23, keyOf]
  refine OkO_eqP rfl rfl g1 g1 g2 g2 (by omega) (by omega) ?_
  rw [er]
  simp only [bW, ↓splitB_true, ↓splitB_false, nilCmp, opConv, eq_self, if_true, if_false, Nat.reduceEqDiff, reduceCtorEq, ↓reduceIte, Nat.reduceLT, Nat.reduceAdd, Nat.reduceMul, Nat.reduceSub, Nat.reduceLeDiff, Nat.reduceBEq, Int.reduceEq, Int.reduceNeg, tk, ntmps4, results4, s15, s17, s16, s18, s19, s20, s21, s22, s23, keyOf]
  refine hK _ ?_; clear hK K
  refine seqK fun K hK => ?_
  simp only [bW, ↓splitB_true, ↓splitB_false, nilCmp, opConv, eq_self, if_true, if_false, Nat.reduceEqDiff, reduceCtorEq, ↓reduceIte, Nat.reduceLT, Nat.reduceAdd, Nat.reduceMul, Nat.reduceSub, Nat.reduceLeDiff, Nat.reduceBEq, Int.reduceEq, Int.reduceNeg, tk, ntmps4, results4, s15, s17, s16, s18, s19, s20, s21, s22, s23, keyOf]
  refine hK _ ?_; clear hK K
  refine seqK fun K hK => ?_
  simp only [bW, ↓splitB_true, ↓splitB_false, nilCmp, opConv, eq_self, if_true, if_false, Nat.reduceEqDiff, reduceCtorEq, ↓reduceIte, Nat.reduceLT, Nat.reduceAdd, Nat.reduceMul, Nat.reduceSub, Nat.reduceLeDiff, Nat.reduceBEq, Int.reduceEq, Int.reduceNeg, tk, ntmps4, results4, s15, s17, s16, s18, s19, s20, s21, s22, s23, keyOf]
  refine OkO_heldP rfl m1 (by omega) m2 (by omega) (by omega) ?_
  rw [m5]
  simp only [bW, ↓splitB_true, ↓splitB_false, nilCmp, opConv, eq_self, if_true, if_false, Nat.reduceEqDiff, reduceCtorEq, ↓reduceIte, Nat.reduceLT, Nat.reduceAdd, Nat.reduceMul, Nat.reduceSub, Nat.reduceLeDiff, Nat.reduceBEq, Int.reduceEq, Int.reduceNeg, tk, ntmps4, results4, s15, s17, s16, s18, s19, s20, s21, s22, s23, keyOf]
  refine hK _ ?_; clear hK K
  refine seqK fun K hK => ?_
  simp only [bW, ↓splitB_true, ↓splitB_false, nilCmp, opConv, eq_self, if_true, if_false, Nat.reduceEqDiff, reduceCtorEq, ↓reduceIte, Nat.reduceLT, Nat.reduceAdd, Nat.reduceMul, Nat.reduceSub, Nat.reduceLeDiff, Nat.reduceBEq, Int.reduceEq, Int.reduceNeg, tk, ntmps4, results4, s15, s17, s16, s18, s19, s20, s21, s22, s23, keyOf]
  refine splitB_intro (fun hb => ?_) (fun hb => hK _ ?_) <;> clear hK K
  · have hb := of_decide_eq_true hb
    exact absurd hb (by omega)
  clear hb
  refine seqK fun K hK => ?_
  simp only [bW, ↓splitB_true, ↓splitB_false, nilCmp, opConv, eq_self, if_true, if_false, Nat.reduceEqDiff, reduceCtorEq, ↓reduceIte, Nat.reduceLT, Nat.reduceAdd, Nat.reduceMul, Nat.reduceSub, Nat.reduceLeDiff, Nat.reduceBEq, Int.reduceEq, Int.reduceNeg, tk, ntmps4, results4, s15, s17, s16, s18, s19, s20, s21, s22, s23, keyOf]
  refine hK _ ?_; clear hK K
  simp only [bW, ↓splitB_true, ↓splitB_false, nilCmp, opConv, eq_self, if_true, if_false, Nat.reduceEqDiff, reduceCtorEq, ↓reduceIte, Nat.reduceLT, Nat.reduceAdd, Nat.reduceMul, Nat.reduceSub, Nat.reduceLeDiff, Nat.reduceBEq, Int.reduceEq, Int.reduceNeg, tk, ntmps4, results4, s15, s17, s16, s18, s19, s20, s21, s22, s23, keyOf]

end Go.Fs.Sr

set_option linter.unusedVariables false
namespace Go.Fs
open Go.RowKit

/-- The last step of a law's row: from the function's contract to its calls. -/
theorem calls_of_fnOK {P : Program} {f : FuncId} {args : List Value} {ins : List In} {out : Ret} (h : FnOK P f ins out) (hc : ∀ (a : Array Value) (w : World), (callFunc f a).run P w = .ok (.enter f a) w) {w : World} {Sd : List Nat} (ha : ArgsR w args ins Sd []) :
    Calls P f args.toArray w fun e w' => ∃ v, e = .returned v ∧ Post w args Sd [] out v w' := by
  rcases h w args Sd [] ha List.nodup_nil (by simp) with ⟨_, h2⟩ | ⟨v, w', h1, _⟩
  · refine h2.mono fun e w' he => ?_
    cases e with
    | returned v => exact ⟨v, rfl, he⟩
    | panicked c => exact he.elim
    | outgrown => exact he.elim
  · rw [hc] at h1; cases h1
theorem Post.below {w w' : World} {args : List Value} {Sd : List Nat} {out : Ret} {v : Value} (h : Post w args Sd [] out v w') : Below w.heap.size w w' :=
  ⟨h.rest.os, h.rest.tape, h.rest.output, h.rest.size, fun k hk => h.keep k hk (by simp)⟩
theorem Post.bool {w w' : World} {args : List Value} {Sd : List Nat} {b : Bool} {v : Value} (h : Post w args Sd [] { ret := .b b } v w') : v = .bool b := by
  obtain ⟨S, Si, h1, _⟩ := h.res
  exact h1.inv_b.1

/-- An argument that is a slice. -/
theorem arg_slice {H : Type} {enc : TypeId × Value → H} {P : Program} {w : World} {t : TypeId} {css : List Sh} (hs : HS P t [.l css]) {v : Value} (hv : ∃ a len cap, v = .slice a len cap) {d : DataW H} {p : List MemPlace} (h : DataW.Trod enc P w 0 (fun _ => true) true t v d p) (hw : (d.weights P t).all (· ≤ reachBytes) = true) :
    ∃ xs S, Tr w false v (.l css.length xs) S ∧ Flat v ∧ shLL css xs = true ∧ okLL xs = true ∧ xs.length ≤ 140737488355328 := by
  obtain ⟨a, len, cap, rfl⟩ := hv
  obtain ⟨n, hn⟩ := h
  obtain ⟨ds, S, h1, h2, h3, h4⟩ := trod_rd n hs _ _ hn hw
  obtain ⟨c, q, rfl, e1, e2⟩ := shL_cons h3
  obtain rfl := shL_nil e2
  obtain ⟨xs, rfl, e3⟩ := shD_l e1
  rw [okL_cons, okD_l] at h4
  have hc : (Value.slice a len cap).cells.toList = [.slice a len cap] := rfl
  rw [hc] at h1 h2
  cases h1 with
  | cons _ _ S1 _ _ S2 ht hts =>
    cases hts
    exact ⟨xs, S1, ht, fun u hu => h2 u (by simpa [Value.cells] using hu), e3, h4.1.2, h4.1.1⟩

theorem SumOK.none (P : Program) : SumOK P fun _ => Option.none := fun f s h => by cases h
theorem SumOK.own {P : Program} {S : Nat → Option Summ} (h : SumOK P S) {f : FuncId} {F : List D → Option D} (hf : ∀ ds r, F ds = some r → FnOK P f (ds.map .d) { ret := r }) : SumOK P (upd S f (some (.own F))) := by
  intro g s hg
  by_cases e : g = f
  · subst e
    rw [upd_same] at hg
    cases hg
    exact hf
  · rw [upd_ne _ _ e] at hg
    exact h g s hg
theorem SumOK.io {P : Program} {S : Nat → Option Summ} (h : SumOK P S) {f : FuncId} {F : D → List D → Option (D × D)} (hf : ∀ x ds r, F x ds = some r → FnOK P f (.io x :: ds.map .d) { ret := r.1, io := some r.2 }) : SumOK P (upd S f (some (.io F))) := by
  intro g s hg
  by_cases e : g = f
  · subst e
    rw [upd_same] at hg
    cases hg
    exact hf
  · rw [upd_ne _ _ e] at hg
    exact h g s hg

/-- An argument that is a struct. -/
theorem arg_struct {H : Type} {enc : TypeId × Value → H} {P : Program} {w : World} {t : TypeId} {css : List Sh} (hs : HS P t css) {v : Value} (hv : ∃ cs, v = .agg cs ∧ cs.size = P.cellsOf t) {d : DataW H} {p : List MemPlace} (h : DataW.Trod enc P w 0 (fun _ => true) true t v d p) (hw : (d.weights P t).all (· ≤ reachBytes) = true) :
    ∃ ds S, Tr w false v (.g ds) S ∧ Flat v ∧ shL css ds = true ∧ okL ds = true := by
  obtain ⟨cs, rfl, _⟩ := hv
  obtain ⟨n, hn⟩ := h
  obtain ⟨ds, S, h1, h2, h3, h4⟩ := trod_rd n hs _ _ hn hw
  exact ⟨ds, S, .g cs ds S h1, h2, h3, h4⟩
end Go.Fs

set_option linter.unusedVariables false
set_option maxRecDepth 20000
namespace Go.Fs.Sr
open Go.Proofs.Try
theorem TopR_sums : ∃ S : Nat → Option Summ, SumOK prog S ∧ S 15 = some (.own (szG limg)) ∧ S 17 = some (.own (toG limg)) ∧ S 16 = some (.own (F18)) ∧ S 18 = some (.own (F18)) ∧ S 19 = some (.own (eqP [.i])) ∧ S 20 = some (.own (eqG limg)) ∧ S 21 = some (.io (markG limg)) ∧ S 22 = some (.io (markP [.i])) ∧ S 23 = some (.own (heldP [.i])) := by
  have s0 := SumOK.none prog
  have s1 := s0.own (f48_ok s0)
  have s2 := s1.own (f123_ok s1)
  have s3 := s2.own (f84_ok s2 rfl rfl)
  have s4 := s3.own (f47_ok s3 rfl)
  have s5 := s4.own (f15_ok s4 rfl rfl)
  have s6 := s5.own (f52_ok s5)
  have s7 := s6.own (f151_ok s6)
  have s8 := s7.own (f128_ok s7 rfl)
  have s9 := s8.own (f87_ok s8 rfl rfl)
  have s10 := s9.own (f51_ok s9 rfl)
  have s11 := s10.own (f17_ok s10 rfl rfl)
  have s12 := s11.own (f124_ok s11)
  have s13 := s12.own (f85_ok s12 rfl)
  have s14 := s13.own (f125_ok s13 rfl)
  have s15 := s14.own (f126_ok s14)
  have s16 := s15.own (f127_ok s15)
  have s17 := s16.own (f86_ok s16 rfl rfl rfl)
  have s18 := s17.own (f49_ok s17 rfl rfl)
  have s19 := s18.own (f50_ok s18)
  have s20 := s19.own (f16_ok s19 rfl rfl)
  have s21 := s20.own (f99_ok s20)
  have s22 := s21.own (f166_ok s21)
  have s23 := s22.own (f148_ok s22 rfl)
  have s24 := s23.own (f129_ok s23 rfl)
  have s25 := s24.own (f88_ok s24 rfl rfl)
  have s26 := s25.own (f117_ok s25 rfl)
  have s27 := s26.own (f152_ok s26 rfl)
  have s28 := s27.own (f59_ok s27 rfl)
  have s29 := s28.own (f94_ok s28 rfl)
  have s30 := s29.own (f133_ok s29 rfl rfl)
  have s31 := s30.own (f93_ok s30 rfl)
  have s32 := s31.own (f130_ok s31 rfl)
  have s33 := s32.own (f89_ok s32 rfl rfl rfl rfl)
  have s34 := s33.own (f132_ok s33 rfl)
  have s35 := s34.own (f92_ok s34 rfl rfl)
  have s36 := s35.own (f91_ok s35 rfl)
  have s37 := s36.own (f131_ok s36 rfl)
  have s38 := s37.own (f90_ok s37 rfl)
  have s39 := s38.own (f53_ok s38 rfl rfl rfl rfl)
  have s40 := s39.own (f95_ok s39)
  have s41 := s40.own (f54_ok s40 rfl rfl)
  have s42 := s41.own (f18_ok s41 rfl rfl)
  have s43 := s42.own (f19_ok s42)
  have s44 := s43.own (f153_ok s43)
  have s45 := s44.own (f134_ok s44 rfl)
  have s46 := s45.own (f96_ok s45 rfl rfl)
  have s47 := s46.own (f55_ok s46 rfl)
  have s48 := s47.own (f20_ok s47 rfl rfl)
  have s49 := s48.io (f22_ok s48)
  have s50 := s49.own (f44_ok s49)
  have s51 := s50.io (f97_ok s50)
  have s52 := s51.io (f56_ok s51 rfl rfl rfl)
  have s53 := s52.io (f21_ok s52 rfl rfl)
  have s54 := s53.own (f23_ok s53)
  exact ⟨_, s54, rfl, rfl, rfl, rfl, rfl, rfl, rfl, rfl, rfl⟩
theorem TopR_ok (ds : List D) (h1 : shL limg ds = true) (h2 : okL ds = true) : FnOK prog 4 [.d (.g ds)] { ret := .b true } := by
  obtain ⟨S, hS, e15, e17, e16, e18, e19, e20, e21, e22, e23⟩ := TopR_sums
  exact f4_ok hS e15 e17 e16 e18 e19 e20 e21 e22 e23 [.g ds] (.b true) (by simp only [lawG]; rw [if_pos ⟨h1, h2⟩])
end Go.Fs.Sr
