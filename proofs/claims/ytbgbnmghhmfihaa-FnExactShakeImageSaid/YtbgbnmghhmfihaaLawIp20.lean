/- A part of the proof: an evaluator of the program's code over plain data, proved sound, and walks of the program's functions by it. No conditions beyond those in the theorems. -/
import Derived.Test.YtbgbnmghhmfihaaLawIp8
import Derived.Test.YtbgbnmghhmfihaaLawIp12
import Derived.Test.YtbgbnmghhmfihaaLawIp19
import Derived.Test.YtbgbnmghhmfihaaLawIp9
set_option linter.unusedVariables false
set_option linter.unusedSimpArgs false
set_option maxRecDepth 20000
set_option maxHeartbeats 2000000
namespace Go.Fs.Sr
open Go.Proofs.Try

theorem f25_ok {S : Nat → Option Summ} (hS : SumOK prog S) (s53 : S 53 = some (.own F53)) (s58 : S 58 = some (.own (toG limg))) (s54 : S 54 = some (.own (F54))) (s59 : S 59 = some (.own F59)) (s60 : S 60 = some (.own F57)) (ds : List D) (r : D) (hr : F24 ds = some r) : FnOK prog 25 (ds.map .d) { ret := r } := by
  unfold F24 at hr
  split at hr
  case h_2 => cases hr
  rename_i fs ns
  split at hr
  case isFalse => cases hr
  rename_i hc
  obtain ⟨h1, h2, h3, h4, h5, h6, h7, h8⟩ := hc
  simp only [Option.some.injEq] at hr
  subst hr
  have hsh : shL limg [.l 6 fs, .l 1 ns] = true := by
    simp only [limg, shL, shD, Bool.and_eq_true]
    exact ⟨⟨rfl, h1⟩, ⟨rfl, h5⟩, trivial⟩
  have hokk : okL [.l 6 fs, .l 1 ns] = true := by
    simp only [okL_cons, okL_nil, okD_l, and_true]
    exact ⟨⟨by omega, h2⟩, ⟨by omega, h6⟩⟩
  refine fnOK_awp (A := ⟨tab, S, .x⟩) tab_ok hS mixed func25 rfl rfl rfl rfl (by show 1 ≤ 86; decide) rfl ?_
  refine seqK fun K hK => ?_
  simp only [bW, ↓splitB_true, ↓splitB_false, nilCmp, opConv, eq_self, if_true, if_false, Nat.reduceEqDiff, reduceCtorEq, ↓reduceIte, Nat.reduceLT, Nat.reduceAdd, Nat.reduceMul, Nat.reduceSub, Nat.reduceLeDiff, Nat.reduceBEq, Int.reduceEq, Int.reduceNeg, tk, ntmps25, results25, s53, s59, s60, F53, F59, F57, fillA, placeT, s58, s54]
  refine hK _ ?_; clear hK K
  refine seqK fun K hK => ?_
  simp only [bW, ↓splitB_true, ↓splitB_false, nilCmp, opConv, eq_self, if_true, if_false, Nat.reduceEqDiff, reduceCtorEq, ↓reduceIte, Nat.reduceLT, Nat.reduceAdd, Nat.reduceMul, Nat.reduceSub, Nat.reduceLeDiff, Nat.reduceBEq, Int.reduceEq, Int.reduceNeg, tk, ntmps25, results25, s53, s59, s60, F53, F59, F57, fillA, placeT, s58, s54]
  refine ⟨⟨h1, h2, h3, h4, h5, h6, h7⟩, ?_⟩
  cases hi : imgB fs ns with
  | false =>
    simp only [bW, ↓splitB_true, ↓splitB_false, nilCmp, opConv, eq_self, if_true, if_false, Nat.reduceEqDiff, reduceCtorEq, ↓reduceIte, Nat.reduceLT, Nat.reduceAdd, Nat.reduceMul, Nat.reduceSub, Nat.reduceLeDiff, Nat.reduceBEq, Int.reduceEq, Int.reduceNeg, tk, ntmps25, results25, s53, s59, s60, F53, F59, F57, fillA, placeT, s58, s54]
    refine ⟨rfl, ?_⟩
    try simp only [bW, ↓splitB_true, ↓splitB_false, nilCmp, opConv, eq_self, if_true, if_false, Nat.reduceEqDiff, reduceCtorEq, ↓reduceIte, Nat.reduceLT, Nat.reduceAdd, Nat.reduceMul, Nat.reduceSub, Nat.reduceLeDiff, Nat.reduceBEq, Int.reduceEq, Int.reduceNeg, tk, ntmps25, results25, s53, s59, s60, F53, F59, F57, fillA, placeT, s58, s54]
    simp only [ansI]
    rw [hi]
    try trivial
  | true =>
  have hlen := img_len hi
  have hwn : wtLL ns = 0 := wt0 h5 (by decide)
  have hans : ansI fs ns = [.l 6 ((reachL fs ns).map (newFun fs (reachL fs ns))), .l 1 (ns.map (newMain (reachL fs ns)))] := by
    simp only [ansI]; rw [if_pos hi]; rfl
  simp only [bW, ↓splitB_true, ↓splitB_false, nilCmp, opConv, eq_self, if_true, if_false, Nat.reduceEqDiff, reduceCtorEq, ↓reduceIte, Nat.reduceLT, Nat.reduceAdd, Nat.reduceMul, Nat.reduceSub, Nat.reduceLeDiff, Nat.reduceBEq, Int.reduceEq, Int.reduceNeg, tk, ntmps25, results25, s53, s59, s60, F53, F59, F57, fillA, placeT, s58, s54]
  refine hK _ ?_; clear hK K
  refine seqK fun K5 hK5 => ?_
  refine awp_any ?_
  apply viaState (K := K5)
  · intro hL
    refine ord_step 0 [2, 4] (by decide +kernel) ⟨?_, ?_, ?_⟩
    · simp only [allAt, anyAt]
      simp only [bW, ↓splitB_true, ↓splitB_false, nilCmp, opConv, eq_self, if_true, if_false, Nat.reduceEqDiff, reduceCtorEq, ↓reduceIte, Nat.reduceLT, Nat.reduceAdd, Nat.reduceMul, Nat.reduceSub, Nat.reduceLeDiff, Nat.reduceBEq, Int.reduceEq, Int.reduceNeg, tk, ntmps25, results25, s53, s59, s60, F53, F59, F57, fillA, placeT, s58, s54]
      refine ord_step 1 [2, 4] (by decide +kernel) ⟨?_, ?_, ?_⟩
      · simp only [allAt, anyAt]
        simp only [bW, ↓splitB_true, ↓splitB_false, nilCmp, opConv, eq_self, if_true, if_false, Nat.reduceEqDiff, reduceCtorEq, ↓reduceIte, Nat.reduceLT, Nat.reduceAdd, Nat.reduceMul, Nat.reduceSub, Nat.reduceLeDiff, Nat.reduceBEq, Int.reduceEq, Int.reduceNeg, tk, ntmps25, results25, s53, s59, s60, F53, F59, F57, fillA, placeT, s58, s54]
        refine OkO_toG hsh hokk h8 ?_
        simp only [bW, ↓splitB_true, ↓splitB_false, nilCmp, opConv, eq_self, if_true, if_false, Nat.reduceEqDiff, reduceCtorEq, ↓reduceIte, Nat.reduceLT, Nat.reduceAdd, Nat.reduceMul, Nat.reduceSub, Nat.reduceLeDiff, Nat.reduceBEq, Int.reduceEq, Int.reduceNeg, tk, ntmps25, results25, s53, s59, s60, F53, F59, F57, fillA, placeT, s58, s54]
        refine ord_step 2 [4] (by decide +kernel) ⟨?_, ?_⟩
        · simp only [allAt, anyAt]
          simp only [bW, ↓splitB_true, ↓splitB_false, nilCmp, opConv, eq_self, if_true, if_false, Nat.reduceEqDiff, reduceCtorEq, ↓reduceIte, Nat.reduceLT, Nat.reduceAdd, Nat.reduceMul, Nat.reduceSub, Nat.reduceLeDiff, Nat.reduceBEq, Int.reduceEq, Int.reduceNeg, tk, ntmps25, results25, s53, s59, s60, F53, F59, F57, fillA, placeT, s58, s54]
          refine ord_step 3 [4] (by decide +kernel) ⟨?_, ?_⟩
          · simp only [allAt, anyAt]
            simp only [bW, ↓splitB_true, ↓splitB_false, nilCmp, opConv, eq_self, if_true, if_false, Nat.reduceEqDiff, reduceCtorEq, ↓reduceIte, Nat.reduceLT, Nat.reduceAdd, Nat.reduceMul, Nat.reduceSub, Nat.reduceLeDiff, Nat.reduceBEq, Int.reduceEq, Int.reduceNeg, tk, ntmps25, results25, s53, s59, s60, F53, F59, F57, fillA, placeT, s58, s54]
            refine OkO_F54 h1 h2 h5 h6 hi ?_
            try simp only [bW, ↓splitB_true, ↓splitB_false, nilCmp, opConv, eq_self, if_true, if_false, Nat.reduceEqDiff, reduceCtorEq, ↓reduceIte, Nat.reduceLT, Nat.reduceAdd, Nat.reduceMul, Nat.reduceSub, Nat.reduceLeDiff, Nat.reduceBEq, Int.reduceEq, Int.reduceNeg, tk, ntmps25, results25, s53, s59, s60, F53, F59, F57, fillA, placeT, s58, s54]
            refine ord_step 4 [] (by decide +kernel) ?_
            simp only [allAt, anyAt]
            simp only [bW, ↓splitB_true, ↓splitB_false, nilCmp, opConv, eq_self, if_true, if_false, Nat.reduceEqDiff, reduceCtorEq, ↓reduceIte, Nat.reduceLT, Nat.reduceAdd, Nat.reduceMul, Nat.reduceSub, Nat.reduceLeDiff, Nat.reduceBEq, Int.reduceEq, Int.reduceNeg, tk, ntmps25, results25, s53, s59, s60, F53, F59, F57, fillA, placeT, s58, s54]
            refine ord_step 5 [] (by decide +kernel) ?_
            simp only [allAt, anyAt]
            simp only [bW, ↓splitB_true, ↓splitB_false, nilCmp, opConv, eq_self, if_true, if_false, Nat.reduceEqDiff, reduceCtorEq, ↓reduceIte, Nat.reduceLT, Nat.reduceAdd, Nat.reduceMul, Nat.reduceSub, Nat.reduceLeDiff, Nat.reduceBEq, Int.reduceEq, Int.reduceNeg, tk, ntmps25, results25, s53, s59, s60, F53, F59, F57, fillA, placeT, s58, s54]
            refine ord_step 6 [] (by decide +kernel) ?_
            simp only [allAt, anyAt]
            simp only [bW, ↓splitB_true, ↓splitB_false, nilCmp, opConv, eq_self, if_true, if_false, Nat.reduceEqDiff, reduceCtorEq, ↓reduceIte, Nat.reduceLT, Nat.reduceAdd, Nat.reduceMul, Nat.reduceSub, Nat.reduceLeDiff, Nat.reduceBEq, Int.reduceEq, Int.reduceNeg, tk, ntmps25, results25, s53, s59, s60, F53, F59, F57, fillA, placeT, s58, s54]
            refine ord_end (by decide +kernel) ?_
            exact hL
          · simp only [allAt, anyAt]
            simp only [bW, ↓splitB_true, ↓splitB_false, nilCmp, opConv, eq_self, if_true, if_false, Nat.reduceEqDiff, reduceCtorEq, ↓reduceIte, Nat.reduceLT, Nat.reduceAdd, Nat.reduceMul, Nat.reduceSub, Nat.reduceLeDiff, Nat.reduceBEq, Int.reduceEq, Int.reduceNeg, tk, ntmps25, results25, s53, s59, s60, F53, F59, F57, fillA, placeT, s58, s54]
            refine ord_step 3 [] (by decide +kernel) ?_
            simp only [allAt, anyAt]
            simp only [bW, ↓splitB_true, ↓splitB_false, nilCmp, opConv, eq_self, if_true, if_false, Nat.reduceEqDiff, reduceCtorEq, ↓reduceIte, Nat.reduceLT, Nat.reduceAdd, Nat.reduceMul, Nat.reduceSub, Nat.reduceLeDiff, Nat.reduceBEq, Int.reduceEq, Int.reduceNeg, tk, ntmps25, results25, s53, s59, s60, F53, F59, F57, fillA, placeT, s58, s54]
            refine OkO_F54 h1 h2 h5 h6 hi ?_
            try simp only [bW, ↓splitB_true, ↓splitB_false, nilCmp, opConv, eq_self, if_true, if_false, Nat.reduceEqDiff, reduceCtorEq, ↓reduceIte, Nat.reduceLT, Nat.reduceAdd, Nat.reduceMul, Nat.reduceSub, Nat.reduceLeDiff, Nat.reduceBEq, Int.reduceEq, Int.reduceNeg, tk, ntmps25, results25, s53, s59, s60, F53, F59, F57, fillA, placeT, s58, s54]
            refine ord_step 5 [] (by decide +kernel) ?_
            simp only [allAt, anyAt]
            simp only [bW, ↓splitB_true, ↓splitB_false, nilCmp, opConv, eq_self, if_true, if_false, Nat.reduceEqDiff, reduceCtorEq, ↓reduceIte, Nat.reduceLT, Nat.reduceAdd, Nat.reduceMul, Nat.reduceSub, Nat.reduceLeDiff, Nat.reduceBEq, Int.reduceEq, Int.reduceNeg, tk, ntmps25, results25, s53, s59, s60, F53, F59, F57, fillA, placeT, s58, s54]
            refine ord_step 6 [] (by decide +kernel) ?_
            simp only [allAt, anyAt]
            simp only [bW, ↓splitB_true, ↓splitB_false, nilCmp, opConv, eq_self, if_true, if_false, Nat.reduceEqDiff, reduceCtorEq, ↓reduceIte, Nat.reduceLT, Nat.reduceAdd, Nat.reduceMul, Nat.reduceSub, Nat.reduceLeDiff, Nat.reduceBEq, Int.reduceEq, Int.reduceNeg, tk, ntmps25, results25, s53, s59, s60, F53, F59, F57, fillA, placeT, s58, s54]
            refine ord_end (by decide +kernel) ?_
            refine (congrArg K5 (st_eq2 (fun t => ?_) (fun t => ?_))).mpr hL
            · by_cases g17 : t = 17
              · subst g17
                simp only [upd, Nat.reduceEqDiff, ↓reduceIte, if_true, if_false]
              by_cases g18 : t = 18
              · subst g18
                simp only [upd, Nat.reduceEqDiff, ↓reduceIte, if_true, if_false]
              by_cases g19 : t = 19
              · subst g19
                simp only [upd, Nat.reduceEqDiff, ↓reduceIte, if_true, if_false]
              by_cases g20 : t = 20
              · subst g20
                simp only [upd, Nat.reduceEqDiff, ↓reduceIte, if_true, if_false]
              by_cases g3 : t = 3
              · subst g3
                simp only [upd, Nat.reduceEqDiff, ↓reduceIte, if_true, if_false]
              simp only [upd, if_neg g17, if_neg g18, if_neg g19, if_neg g20, if_neg g3]
            · by_cases g101800 : t = 101800
              · subst g101800
                simp only [upd, Nat.reduceEqDiff, ↓reduceIte, if_true, if_false]
              by_cases g101801 : t = 101801
              · subst g101801
                simp only [upd, Nat.reduceEqDiff, ↓reduceIte, if_true, if_false]
              by_cases g102000 : t = 102000
              · subst g102000
                simp only [upd, Nat.reduceEqDiff, ↓reduceIte, if_true, if_false]
              by_cases g3 : t = 3
              · subst g3
                simp only [upd, Nat.reduceEqDiff, ↓reduceIte, if_true, if_false]
              simp only [upd, if_neg g101800, if_neg g101801, if_neg g102000, if_neg g3]
        · simp only [allAt, anyAt]
          simp only [bW, ↓splitB_true, ↓splitB_false, nilCmp, opConv, eq_self, if_true, if_false, Nat.reduceEqDiff, reduceCtorEq, ↓reduceIte, Nat.reduceLT, Nat.reduceAdd, Nat.reduceMul, Nat.reduceSub, Nat.reduceLeDiff, Nat.reduceBEq, Int.reduceEq, Int.reduceNeg, tk, ntmps25, results25, s53, s59, s60, F53, F59, F57, fillA, placeT, s58, s54]
          refine ord_step 2 [] (by decide +kernel) ?_
          simp only [allAt, anyAt]
          simp only [bW, ↓splitB_true, ↓splitB_false, nilCmp, opConv, eq_self, if_true, if_false, Nat.reduceEqDiff, reduceCtorEq, ↓reduceIte, Nat.reduceLT, Nat.reduceAdd, Nat.reduceMul, Nat.reduceSub, Nat.reduceLeDiff, Nat.reduceBEq, Int.reduceEq, Int.reduceNeg, tk, ntmps25, results25, s53, s59, s60, F53, F59, F57, fillA, placeT, s58, s54]
          refine ord_step 3 [] (by decide +kernel) ?_
          simp only [allAt, anyAt]
          simp only [bW, ↓splitB_true, ↓splitB_false, nilCmp, opConv, eq_self, if_true, if_false, Nat.reduceEqDiff, reduceCtorEq, ↓reduceIte, Nat.reduceLT, Nat.reduceAdd, Nat.reduceMul, Nat.reduceSub, Nat.reduceLeDiff, Nat.reduceBEq, Int.reduceEq, Int.reduceNeg, tk, ntmps25, results25, s53, s59, s60, F53, F59, F57, fillA, placeT, s58, s54]
          refine OkO_F54 h1 h2 h5 h6 hi ?_
          try simp only [bW, ↓splitB_true, ↓splitB_false, nilCmp, opConv, eq_self, if_true, if_false, Nat.reduceEqDiff, reduceCtorEq, ↓reduceIte, Nat.reduceLT, Nat.reduceAdd, Nat.reduceMul, Nat.reduceSub, Nat.reduceLeDiff, Nat.reduceBEq, Int.reduceEq, Int.reduceNeg, tk, ntmps25, results25, s53, s59, s60, F53, F59, F57, fillA, placeT, s58, s54]
          refine ord_step 5 [] (by decide +kernel) ?_
          simp only [allAt, anyAt]
          simp only [bW, ↓splitB_true, ↓splitB_false, nilCmp, opConv, eq_self, if_true, if_false, Nat.reduceEqDiff, reduceCtorEq, ↓reduceIte, Nat.reduceLT, Nat.reduceAdd, Nat.reduceMul, Nat.reduceSub, Nat.reduceLeDiff, Nat.reduceBEq, Int.reduceEq, Int.reduceNeg, tk, ntmps25, results25, s53, s59, s60, F53, F59, F57, fillA, placeT, s58, s54]
          refine ord_step 6 [] (by decide +kernel) ?_
          simp only [allAt, anyAt]
          simp only [bW, ↓splitB_true, ↓splitB_false, nilCmp, opConv, eq_self, if_true, if_false, Nat.reduceEqDiff, reduceCtorEq, ↓reduceIte, Nat.reduceLT, Nat.reduceAdd, Nat.reduceMul, Nat.reduceSub, Nat.reduceLeDiff, Nat.reduceBEq, Int.reduceEq, Int.reduceNeg, tk, ntmps25, results25, s53, s59, s60, F53, F59, F57, fillA, placeT, s58, s54]
          refine ord_end (by decide +kernel) ?_
          refine (congrArg K5 (st_eq2 (fun t => ?_) (fun t => ?_))).mpr hL
          · by_cases g17 : t = 17
            · subst g17
              simp only [upd, Nat.reduceEqDiff, ↓reduceIte, if_true, if_false]
            by_cases g18 : t = 18
            · subst g18
              simp only [upd, Nat.reduceEqDiff, ↓reduceIte, if_true, if_false]
            by_cases g19 : t = 19
            · subst g19
              simp only [upd, Nat.reduceEqDiff, ↓reduceIte, if_true, if_false]
            by_cases g20 : t = 20
            · subst g20
              simp only [upd, Nat.reduceEqDiff, ↓reduceIte, if_true, if_false]
            by_cases g3 : t = 3
            · subst g3
              simp only [upd, Nat.reduceEqDiff, ↓reduceIte, if_true, if_false]
            simp only [upd, if_neg g17, if_neg g18, if_neg g19, if_neg g20, if_neg g3]
          · by_cases g101800 : t = 101800
            · subst g101800
              simp only [upd, Nat.reduceEqDiff, ↓reduceIte, if_true, if_false]
            by_cases g101801 : t = 101801
            · subst g101801
              simp only [upd, Nat.reduceEqDiff, ↓reduceIte, if_true, if_false]
            by_cases g102000 : t = 102000
            · subst g102000
              simp only [upd, Nat.reduceEqDiff, ↓reduceIte, if_true, if_false]
            by_cases g3 : t = 3
            · subst g3
              simp only [upd, Nat.reduceEqDiff, ↓reduceIte, if_true, if_false]
            simp only [upd, if_neg g101800, if_neg g101801, if_neg g102000, if_neg g3]
      · simp only [allAt, anyAt]
        simp only [bW, ↓splitB_true, ↓splitB_false, nilCmp, opConv, eq_self, if_true, if_false, Nat.reduceEqDiff, reduceCtorEq, ↓reduceIte, Nat.reduceLT, Nat.reduceAdd, Nat.reduceMul, Nat.reduceSub, Nat.reduceLeDiff, Nat.reduceBEq, Int.reduceEq, Int.reduceNeg, tk, ntmps25, results25, s53, s59, s60, F53, F59, F57, fillA, placeT, s58, s54]
        refine ord_step 1 [4] (by decide +kernel) ⟨?_, ?_⟩
        · simp only [allAt, anyAt]
          simp only [bW, ↓splitB_true, ↓splitB_false, nilCmp, opConv, eq_self, if_true, if_false, Nat.reduceEqDiff, reduceCtorEq, ↓reduceIte, Nat.reduceLT, Nat.reduceAdd, Nat.reduceMul, Nat.reduceSub, Nat.reduceLeDiff, Nat.reduceBEq, Int.reduceEq, Int.reduceNeg, tk, ntmps25, results25, s53, s59, s60, F53, F59, F57, fillA, placeT, s58, s54]
          refine OkO_toG hsh hokk h8 ?_
          simp only [bW, ↓splitB_true, ↓splitB_false, nilCmp, opConv, eq_self, if_true, if_false, Nat.reduceEqDiff, reduceCtorEq, ↓reduceIte, Nat.reduceLT, Nat.reduceAdd, Nat.reduceMul, Nat.reduceSub, Nat.reduceLeDiff, Nat.reduceBEq, Int.reduceEq, Int.reduceNeg, tk, ntmps25, results25, s53, s59, s60, F53, F59, F57, fillA, placeT, s58, s54]
          refine ord_step 3 [4] (by decide +kernel) ⟨?_, ?_⟩
          · simp only [allAt, anyAt]
            simp only [bW, ↓splitB_true, ↓splitB_false, nilCmp, opConv, eq_self, if_true, if_false, Nat.reduceEqDiff, reduceCtorEq, ↓reduceIte, Nat.reduceLT, Nat.reduceAdd, Nat.reduceMul, Nat.reduceSub, Nat.reduceLeDiff, Nat.reduceBEq, Int.reduceEq, Int.reduceNeg, tk, ntmps25, results25, s53, s59, s60, F53, F59, F57, fillA, placeT, s58, s54]
            refine OkO_F54 h1 h2 h5 h6 hi ?_
            try simp only [bW, ↓splitB_true, ↓splitB_false, nilCmp, opConv, eq_self, if_true, if_false, Nat.reduceEqDiff, reduceCtorEq, ↓reduceIte, Nat.reduceLT, Nat.reduceAdd, Nat.reduceMul, Nat.reduceSub, Nat.reduceLeDiff, Nat.reduceBEq, Int.reduceEq, Int.reduceNeg, tk, ntmps25, results25, s53, s59, s60, F53, F59, F57, fillA, placeT, s58, s54]
            refine ord_step 4 [] (by decide +kernel) ?_
            simp only [allAt, anyAt]
            simp only [bW, ↓splitB_true, ↓splitB_false, nilCmp, opConv, eq_self, if_true, if_false, Nat.reduceEqDiff, reduceCtorEq, ↓reduceIte, Nat.reduceLT, Nat.reduceAdd, Nat.reduceMul, Nat.reduceSub, Nat.reduceLeDiff, Nat.reduceBEq, Int.reduceEq, Int.reduceNeg, tk, ntmps25, results25, s53, s59, s60, F53, F59, F57, fillA, placeT, s58, s54]
            refine ord_step 5 [] (by decide +kernel) ?_
            simp only [allAt, anyAt]
            simp only [bW, ↓splitB_true, ↓splitB_false, nilCmp, opConv, eq_self, if_true, if_false, Nat.reduceEqDiff, reduceCtorEq, ↓reduceIte, Nat.reduceLT, Nat.reduceAdd, Nat.reduceMul, Nat.reduceSub, Nat.reduceLeDiff, Nat.reduceBEq, Int.reduceEq, Int.reduceNeg, tk, ntmps25, results25, s53, s59, s60, F53, F59, F57, fillA, placeT, s58, s54]
            refine ord_step 6 [] (by decide +kernel) ?_
            simp only [allAt, anyAt]
            simp only [bW, ↓splitB_true, ↓splitB_false, nilCmp, opConv, eq_self, if_true, if_false, Nat.reduceEqDiff, reduceCtorEq, ↓reduceIte, Nat.reduceLT, Nat.reduceAdd, Nat.reduceMul, Nat.reduceSub, Nat.reduceLeDiff, Nat.reduceBEq, Int.reduceEq, Int.reduceNeg, tk, ntmps25, results25, s53, s59, s60, F53, F59, F57, fillA, placeT, s58, s54]
            refine ord_end (by decide +kernel) ?_
            refine (congrArg K5 (st_eq2 (fun t => ?_) (fun t => ?_))).mpr hL
            · by_cases g17 : t = 17
              · subst g17
                simp only [upd, Nat.reduceEqDiff, ↓reduceIte, if_true, if_false]
              by_cases g18 : t = 18
              · subst g18
                simp only [upd, Nat.reduceEqDiff, ↓reduceIte, if_true, if_false]
              by_cases g19 : t = 19
              · subst g19
                simp only [upd, Nat.reduceEqDiff, ↓reduceIte, if_true, if_false]
              by_cases g20 : t = 20
              · subst g20
                simp only [upd, Nat.reduceEqDiff, ↓reduceIte, if_true, if_false]
              by_cases g3 : t = 3
              · subst g3
                simp only [upd, Nat.reduceEqDiff, ↓reduceIte, if_true, if_false]
              simp only [upd, if_neg g17, if_neg g18, if_neg g19, if_neg g20, if_neg g3]
            · by_cases g101800 : t = 101800
              · subst g101800
                simp only [upd, Nat.reduceEqDiff, ↓reduceIte, if_true, if_false]
              by_cases g101801 : t = 101801
              · subst g101801
                simp only [upd, Nat.reduceEqDiff, ↓reduceIte, if_true, if_false]
              by_cases g102000 : t = 102000
              · subst g102000
                simp only [upd, Nat.reduceEqDiff, ↓reduceIte, if_true, if_false]
              by_cases g3 : t = 3
              · subst g3
                simp only [upd, Nat.reduceEqDiff, ↓reduceIte, if_true, if_false]
              simp only [upd, if_neg g101800, if_neg g101801, if_neg g102000, if_neg g3]
          · simp only [allAt, anyAt]
            simp only [bW, ↓splitB_true, ↓splitB_false, nilCmp, opConv, eq_self, if_true, if_false, Nat.reduceEqDiff, reduceCtorEq, ↓reduceIte, Nat.reduceLT, Nat.reduceAdd, Nat.reduceMul, Nat.reduceSub, Nat.reduceLeDiff, Nat.reduceBEq, Int.reduceEq, Int.reduceNeg, tk, ntmps25, results25, s53, s59, s60, F53, F59, F57, fillA, placeT, s58, s54]
            refine ord_step 3 [] (by decide +kernel) ?_
            simp only [allAt, anyAt]
            simp only [bW, ↓splitB_true, ↓splitB_false, nilCmp, opConv, eq_self, if_true, if_false, Nat.reduceEqDiff, reduceCtorEq, ↓reduceIte, Nat.reduceLT, Nat.reduceAdd, Nat.reduceMul, Nat.reduceSub, Nat.reduceLeDiff, Nat.reduceBEq, Int.reduceEq, Int.reduceNeg, tk, ntmps25, results25, s53, s59, s60, F53, F59, F57, fillA, placeT, s58, s54]
            refine OkO_F54 h1 h2 h5 h6 hi ?_
            try simp only [bW, ↓splitB_true, ↓splitB_false, nilCmp, opConv, eq_self, if_true, if_false, Nat.reduceEqDiff, reduceCtorEq, ↓reduceIte, Nat.reduceLT, Nat.reduceAdd, Nat.reduceMul, Nat.reduceSub, Nat.reduceLeDiff, Nat.reduceBEq, Int.reduceEq, Int.reduceNeg, tk, ntmps25, results25, s53, s59, s60, F53, F59, F57, fillA, placeT, s58, s54]
            refine ord_step 5 [] (by decide +kernel) ?_
            simp only [allAt, anyAt]
            simp only [bW, ↓splitB_true, ↓splitB_false, nilCmp, opConv, eq_self, if_true, if_false, Nat.reduceEqDiff, reduceCtorEq, ↓reduceIte, Nat.reduceLT, Nat.reduceAdd, Nat.reduceMul, Nat.reduceSub, Nat.reduceLeDiff, Nat.reduceBEq, Int.reduceEq, Int.reduceNeg, tk, ntmps25, results25, s53, s59, s60, F53, F59, F57, fillA, placeT, s58, s54]
            refine ord_step 6 [] (by decide +kernel) ?_
            simp only [allAt, anyAt]
            simp only [bW, ↓splitB_true, ↓splitB_false, nilCmp, opConv, eq_self, if_true, if_false, Nat.reduceEqDiff, reduceCtorEq, ↓reduceIte, Nat.reduceLT, Nat.reduceAdd, Nat.reduceMul, Nat.reduceSub, Nat.reduceLeDiff, Nat.reduceBEq, Int.reduceEq, Int.reduceNeg, tk, ntmps25, results25, s53, s59, s60, F53, F59, F57, fillA, placeT, s58, s54]
            refine ord_end (by decide +kernel) ?_
            refine (congrArg K5 (st_eq2 (fun t => ?_) (fun t => ?_))).mpr hL
            · by_cases g17 : t = 17
              · subst g17
                simp only [upd, Nat.reduceEqDiff, ↓reduceIte, if_true, if_false]
              by_cases g18 : t = 18
              · subst g18
                simp only [upd, Nat.reduceEqDiff, ↓reduceIte, if_true, if_false]
              by_cases g19 : t = 19
              · subst g19
                simp only [upd, Nat.reduceEqDiff, ↓reduceIte, if_true, if_false]
              by_cases g20 : t = 20
              · subst g20
                simp only [upd, Nat.reduceEqDiff, ↓reduceIte, if_true, if_false]
              by_cases g3 : t = 3
              · subst g3
                simp only [upd, Nat.reduceEqDiff, ↓reduceIte, if_true, if_false]
              simp only [upd, if_neg g17, if_neg g18, if_neg g19, if_neg g20, if_neg g3]
            · by_cases g101800 : t = 101800
              · subst g101800
                simp only [upd, Nat.reduceEqDiff, ↓reduceIte, if_true, if_false]
              by_cases g101801 : t = 101801
              · subst g101801
                simp only [upd, Nat.reduceEqDiff, ↓reduceIte, if_true, if_false]
              by_cases g102000 : t = 102000
              · subst g102000
                simp only [upd, Nat.reduceEqDiff, ↓reduceIte, if_true, if_false]
              by_cases g3 : t = 3
              · subst g3
                simp only [upd, Nat.reduceEqDiff, ↓reduceIte, if_true, if_false]
              simp only [upd, if_neg g101800, if_neg g101801, if_neg g102000, if_neg g3]
        · simp only [allAt, anyAt]
          simp only [bW, ↓splitB_true, ↓splitB_false, nilCmp, opConv, eq_self, if_true, if_false, Nat.reduceEqDiff, reduceCtorEq, ↓reduceIte, Nat.reduceLT, Nat.reduceAdd, Nat.reduceMul, Nat.reduceSub, Nat.reduceLeDiff, Nat.reduceBEq, Int.reduceEq, Int.reduceNeg, tk, ntmps25, results25, s53, s59, s60, F53, F59, F57, fillA, placeT, s58, s54]
          refine ord_step 1 [] (by decide +kernel) ?_
          simp only [allAt, anyAt]
          simp only [bW, ↓splitB_true, ↓splitB_false, nilCmp, opConv, eq_self, if_true, if_false, Nat.reduceEqDiff, reduceCtorEq, ↓reduceIte, Nat.reduceLT, Nat.reduceAdd, Nat.reduceMul, Nat.reduceSub, Nat.reduceLeDiff, Nat.reduceBEq, Int.reduceEq, Int.reduceNeg, tk, ntmps25, results25, s53, s59, s60, F53, F59, F57, fillA, placeT, s58, s54]
          refine OkO_toG hsh hokk h8 ?_
          simp only [bW, ↓splitB_true, ↓splitB_false, nilCmp, opConv, eq_self, if_true, if_false, Nat.reduceEqDiff, reduceCtorEq, ↓reduceIte, Nat.reduceLT, Nat.reduceAdd, Nat.reduceMul, Nat.reduceSub, Nat.reduceLeDiff, Nat.reduceBEq, Int.reduceEq, Int.reduceNeg, tk, ntmps25, results25, s53, s59, s60, F53, F59, F57, fillA, placeT, s58, s54]
          refine ord_step 3 [] (by decide +kernel) ?_
          simp only [allAt, anyAt]
          simp only [bW, ↓splitB_true, ↓splitB_false, nilCmp, opConv, eq_self, if_true, if_false, Nat.reduceEqDiff, reduceCtorEq, ↓reduceIte, Nat.reduceLT, Nat.reduceAdd, Nat.reduceMul, Nat.reduceSub, Nat.reduceLeDiff, Nat.reduceBEq, Int.reduceEq, Int.reduceNeg, tk, ntmps25, results25, s53, s59, s60, F53, F59, F57, fillA, placeT, s58, s54]
          refine OkO_F54 h1 h2 h5 h6 hi ?_
          try simp only [bW, ↓splitB_true, ↓splitB_false, nilCmp, opConv, eq_self, if_true, if_false, Nat.reduceEqDiff, reduceCtorEq, ↓reduceIte, Nat.reduceLT, Nat.reduceAdd, Nat.reduceMul, Nat.reduceSub, Nat.reduceLeDiff, Nat.reduceBEq, Int.reduceEq, Int.reduceNeg, tk, ntmps25, results25, s53, s59, s60, F53, F59, F57, fillA, placeT, s58, s54]
          refine ord_step 5 [] (by decide +kernel) ?_
          simp only [allAt, anyAt]
          simp only [bW, ↓splitB_true, ↓splitB_false, nilCmp, opConv, eq_self, if_true, if_false, Nat.reduceEqDiff, reduceCtorEq, ↓reduceIte, Nat.reduceLT, Nat.reduceAdd, Nat.reduceMul, Nat.reduceSub, Nat.reduceLeDiff, Nat.reduceBEq, Int.reduceEq, Int.reduceNeg, tk, ntmps25, results25, s53, s59, s60, F53, F59, F57, fillA, placeT, s58, s54]
          refine ord_step 6 [] (by decide +kernel) ?_
          simp only [allAt, anyAt]
          simp only [bW, ↓splitB_true, ↓splitB_false, nilCmp, opConv, eq_self, if_true, if_false, Nat.reduceEqDiff, reduceCtorEq, ↓reduceIte, Nat.reduceLT, Nat.reduceAdd, Nat.reduceMul, Nat.reduceSub, Nat.reduceLeDiff, Nat.reduceBEq, Int.reduceEq, Int.reduceNeg, tk, ntmps25, results25, s53, s59, s60, F53, F59, F57, fillA, placeT, s58, s54]
          refine ord_end (by decide +kernel) ?_
          refine (congrArg K5 (st_eq2 (fun t => ?_) (fun t => ?_))).mpr hL
          · by_cases g17 : t = 17
            · subst g17
              simp only [upd, Nat.reduceEqDiff, ↓reduceIte, if_true, if_false]
            by_cases g18 : t = 18
            · subst g18
              simp only [upd, Nat.reduceEqDiff, ↓reduceIte, if_true, if_false]
            by_cases g19 : t = 19
            · subst g19
              simp only [upd, Nat.reduceEqDiff, ↓reduceIte, if_true, if_false]
            by_cases g20 : t = 20
            · subst g20
              simp only [upd, Nat.reduceEqDiff, ↓reduceIte, if_true, if_false]
            by_cases g3 : t = 3
            · subst g3
              simp only [upd, Nat.reduceEqDiff, ↓reduceIte, if_true, if_false]
            simp only [upd, if_neg g17, if_neg g18, if_neg g19, if_neg g20, if_neg g3]
          · by_cases g101800 : t = 101800
            · subst g101800
              simp only [upd, Nat.reduceEqDiff, ↓reduceIte, if_true, if_false]
            by_cases g101801 : t = 101801
            · subst g101801
              simp only [upd, Nat.reduceEqDiff, ↓reduceIte, if_true, if_false]
            by_cases g102000 : t = 102000
            · subst g102000
              simp only [upd, Nat.reduceEqDiff, ↓reduceIte, if_true, if_false]
            by_cases g3 : t = 3
            · subst g3
              simp only [upd, Nat.reduceEqDiff, ↓reduceIte, if_true, if_false]
            simp only [upd, if_neg g101800, if_neg g101801, if_neg g102000, if_neg g3]
      · simp only [allAt, anyAt]
        simp only [bW, ↓splitB_true, ↓splitB_false, nilCmp, opConv, eq_self, if_true, if_false, Nat.reduceEqDiff, reduceCtorEq, ↓reduceIte, Nat.reduceLT, Nat.reduceAdd, Nat.reduceMul, Nat.reduceSub, Nat.reduceLeDiff, Nat.reduceBEq, Int.reduceEq, Int.reduceNeg, tk, ntmps25, results25, s53, s59, s60, F53, F59, F57, fillA, placeT, s58, s54]
        refine ord_step 1 [2] (by decide +kernel) ⟨?_, ?_⟩
        · simp only [allAt, anyAt]
          simp only [bW, ↓splitB_true, ↓splitB_false, nilCmp, opConv, eq_self, if_true, if_false, Nat.reduceEqDiff, reduceCtorEq, ↓reduceIte, Nat.reduceLT, Nat.reduceAdd, Nat.reduceMul, Nat.reduceSub, Nat.reduceLeDiff, Nat.reduceBEq, Int.reduceEq, Int.reduceNeg, tk, ntmps25, results25, s53, s59, s60, F53, F59, F57, fillA, placeT, s58, s54]
          refine OkO_toG hsh hokk h8 ?_
          simp only [bW, ↓splitB_true, ↓splitB_false, nilCmp, opConv, eq_self, if_true, if_false, Nat.reduceEqDiff, reduceCtorEq, ↓reduceIte, Nat.reduceLT, Nat.reduceAdd, Nat.reduceMul, Nat.reduceSub, Nat.reduceLeDiff, Nat.reduceBEq, Int.reduceEq, Int.reduceNeg, tk, ntmps25, results25, s53, s59, s60, F53, F59, F57, fillA, placeT, s58, s54]
          refine ord_step 2 [] (by decide +kernel) ?_
          simp only [allAt, anyAt]
          simp only [bW, ↓splitB_true, ↓splitB_false, nilCmp, opConv, eq_self, if_true, if_false, Nat.reduceEqDiff, reduceCtorEq, ↓reduceIte, Nat.reduceLT, Nat.reduceAdd, Nat.reduceMul, Nat.reduceSub, Nat.reduceLeDiff, Nat.reduceBEq, Int.reduceEq, Int.reduceNeg, tk, ntmps25, results25, s53, s59, s60, F53, F59, F57, fillA, placeT, s58, s54]
          refine ord_step 3 [] (by decide +kernel) ?_
          simp only [allAt, anyAt]
          simp only [bW, ↓splitB_true, ↓splitB_false, nilCmp, opConv, eq_self, if_true, if_false, Nat.reduceEqDiff, reduceCtorEq, ↓reduceIte, Nat.reduceLT, Nat.reduceAdd, Nat.reduceMul, Nat.reduceSub, Nat.reduceLeDiff, Nat.reduceBEq, Int.reduceEq, Int.reduceNeg, tk, ntmps25, results25, s53, s59, s60, F53, F59, F57, fillA, placeT, s58, s54]
          refine OkO_F54 h1 h2 h5 h6 hi ?_
          try simp only [bW, ↓splitB_true, ↓splitB_false, nilCmp, opConv, eq_self, if_true, if_false, Nat.reduceEqDiff, reduceCtorEq, ↓reduceIte, Nat.reduceLT, Nat.reduceAdd, Nat.reduceMul, Nat.reduceSub, Nat.reduceLeDiff, Nat.reduceBEq, Int.reduceEq, Int.reduceNeg, tk, ntmps25, results25, s53, s59, s60, F53, F59, F57, fillA, placeT, s58, s54]
          refine ord_step 5 [] (by decide +kernel) ?_
          simp only [allAt, anyAt]
          simp only [bW, ↓splitB_true, ↓splitB_false, nilCmp, opConv, eq_self, if_true, if_false, Nat.reduceEqDiff, reduceCtorEq, ↓reduceIte, Nat.reduceLT, Nat.reduceAdd, Nat.reduceMul, Nat.reduceSub, Nat.reduceLeDiff, Nat.reduceBEq, Int.reduceEq, Int.reduceNeg, tk, ntmps25, results25, s53, s59, s60, F53, F59, F57, fillA, placeT, s58, s54]
          refine ord_step 6 [] (by decide +kernel) ?_
          simp only [allAt, anyAt]
          simp only [bW, ↓splitB_true, ↓splitB_false, nilCmp, opConv, eq_self, if_true, if_false, Nat.reduceEqDiff, reduceCtorEq, ↓reduceIte, Nat.reduceLT, Nat.reduceAdd, Nat.reduceMul, Nat.reduceSub, Nat.reduceLeDiff, Nat.reduceBEq, Int.reduceEq, Int.reduceNeg, tk, ntmps25, results25, s53, s59, s60, F53, F59, F57, fillA, placeT, s58, s54]
          refine ord_end (by decide +kernel) ?_
          refine (congrArg K5 (st_eq2 (fun t => ?_) (fun t => ?_))).mpr hL
          · by_cases g17 : t = 17
            · subst g17
              simp only [upd, Nat.reduceEqDiff, ↓reduceIte, if_true, if_false]
            by_cases g18 : t = 18
            · subst g18
              simp only [upd, Nat.reduceEqDiff, ↓reduceIte, if_true, if_false]
            by_cases g19 : t = 19
            · subst g19
              simp only [upd, Nat.reduceEqDiff, ↓reduceIte, if_true, if_false]
            by_cases g20 : t = 20
            · subst g20
              simp only [upd, Nat.reduceEqDiff, ↓reduceIte, if_true, if_false]
            by_cases g3 : t = 3
            · subst g3
              simp only [upd, Nat.reduceEqDiff, ↓reduceIte, if_true, if_false]
            simp only [upd, if_neg g17, if_neg g18, if_neg g19, if_neg g20, if_neg g3]
          · by_cases g101800 : t = 101800
            · subst g101800
              simp only [upd, Nat.reduceEqDiff, ↓reduceIte, if_true, if_false]
            by_cases g101801 : t = 101801
            · subst g101801
              simp only [upd, Nat.reduceEqDiff, ↓reduceIte, if_true, if_false]
            by_cases g102000 : t = 102000
            · subst g102000
              simp only [upd, Nat.reduceEqDiff, ↓reduceIte, if_true, if_false]
            by_cases g3 : t = 3
            · subst g3
              simp only [upd, Nat.reduceEqDiff, ↓reduceIte, if_true, if_false]
            simp only [upd, if_neg g101800, if_neg g101801, if_neg g102000, if_neg g3]
        · simp only [allAt, anyAt]
          simp only [bW, ↓splitB_true, ↓splitB_false, nilCmp, opConv, eq_self, if_true, if_false, Nat.reduceEqDiff, reduceCtorEq, ↓reduceIte, Nat.reduceLT, Nat.reduceAdd, Nat.reduceMul, Nat.reduceSub, Nat.reduceLeDiff, Nat.reduceBEq, Int.reduceEq, Int.reduceNeg, tk, ntmps25, results25, s53, s59, s60, F53, F59, F57, fillA, placeT, s58, s54]
          refine ord_step 1 [] (by decide +kernel) ?_
          simp only [allAt, anyAt]
          simp only [bW, ↓splitB_true, ↓splitB_false, nilCmp, opConv, eq_self, if_true, if_false, Nat.reduceEqDiff, reduceCtorEq, ↓reduceIte, Nat.reduceLT, Nat.reduceAdd, Nat.reduceMul, Nat.reduceSub, Nat.reduceLeDiff, Nat.reduceBEq, Int.reduceEq, Int.reduceNeg, tk, ntmps25, results25, s53, s59, s60, F53, F59, F57, fillA, placeT, s58, s54]
          refine OkO_toG hsh hokk h8 ?_
          simp only [bW, ↓splitB_true, ↓splitB_false, nilCmp, opConv, eq_self, if_true, if_false, Nat.reduceEqDiff, reduceCtorEq, ↓reduceIte, Nat.reduceLT, Nat.reduceAdd, Nat.reduceMul, Nat.reduceSub, Nat.reduceLeDiff, Nat.reduceBEq, Int.reduceEq, Int.reduceNeg, tk, ntmps25, results25, s53, s59, s60, F53, F59, F57, fillA, placeT, s58, s54]
          refine ord_step 3 [] (by decide +kernel) ?_
          simp only [allAt, anyAt]
          simp only [bW, ↓splitB_true, ↓splitB_false, nilCmp, opConv, eq_self, if_true, if_false, Nat.reduceEqDiff, reduceCtorEq, ↓reduceIte, Nat.reduceLT, Nat.reduceAdd, Nat.reduceMul, Nat.reduceSub, Nat.reduceLeDiff, Nat.reduceBEq, Int.reduceEq, Int.reduceNeg, tk, ntmps25, results25, s53, s59, s60, F53, F59, F57, fillA, placeT, s58, s54]
          refine OkO_F54 h1 h2 h5 h6 hi ?_
          try simp only [bW, ↓splitB_true, ↓splitB_false, nilCmp, opConv, eq_self, if_true, if_false, Nat.reduceEqDiff, reduceCtorEq, ↓reduceIte, Nat.reduceLT, Nat.reduceAdd, Nat.reduceMul, Nat.reduceSub, Nat.reduceLeDiff, Nat.reduceBEq, Int.reduceEq, Int.reduceNeg, tk, ntmps25, results25, s53, s59, s60, F53, F59, F57, fillA, placeT, s58, s54]
          refine ord_step 5 [] (by decide +kernel) ?_
          simp only [allAt, anyAt]
          simp only [bW, ↓splitB_true, ↓splitB_false, nilCmp, opConv, eq_self, if_true, if_false, Nat.reduceEqDiff, reduceCtorEq, ↓reduceIte, Nat.reduceLT, Nat.reduceAdd, Nat.reduceMul, Nat.reduceSub, Nat.reduceLeDiff, Nat.reduceBEq, Int.reduceEq, Int.reduceNeg, tk, ntmps25, results25, s53, s59, s60, F53, F59, F57, fillA, placeT, s58, s54]
          refine ord_step 6 [] (by decide +kernel) ?_
          simp only [allAt, anyAt]
          simp only [bW, ↓splitB_true, ↓splitB_false, nilCmp, opConv, eq_self, if_true, if_false, Nat.reduceEqDiff, reduceCtorEq, ↓reduceIte, Nat.reduceLT, Nat.reduceAdd, Nat.reduceMul, Nat.reduceSub, Nat.reduceLeDiff, Nat.reduceBEq, Int.reduceEq, Int.reduceNeg, tk, ntmps25, results25, s53, s59, s60, F53, F59, F57, fillA, placeT, s58, s54]
          refine ord_end (by decide +kernel) ?_
          refine (congrArg K5 (st_eq2 (fun t => ?_) (fun t => ?_))).mpr hL
          · by_cases g17 : t = 17
            · subst g17
              simp only [upd, Nat.reduceEqDiff, ↓reduceIte, if_true, if_false]
            by_cases g18 : t = 18
            · subst g18
              simp only [upd, Nat.reduceEqDiff, ↓reduceIte, if_true, if_false]
            by_cases g19 : t = 19
            · subst g19
              simp only [upd, Nat.reduceEqDiff, ↓reduceIte, if_true, if_false]
            by_cases g20 : t = 20
            · subst g20
              simp only [upd, Nat.reduceEqDiff, ↓reduceIte, if_true, if_false]
            by_cases g3 : t = 3
            · subst g3
              simp only [upd, Nat.reduceEqDiff, ↓reduceIte, if_true, if_false]
            simp only [upd, if_neg g17, if_neg g18, if_neg g19, if_neg g20, if_neg g3]
          · by_cases g101800 : t = 101800
            · subst g101800
              simp only [upd, Nat.reduceEqDiff, ↓reduceIte, if_true, if_false]
            by_cases g101801 : t = 101801
            · subst g101801
              simp only [upd, Nat.reduceEqDiff, ↓reduceIte, if_true, if_false]
            by_cases g102000 : t = 102000
            · subst g102000
              simp only [upd, Nat.reduceEqDiff, ↓reduceIte, if_true, if_false]
            by_cases g3 : t = 3
            · subst g3
              simp only [upd, Nat.reduceEqDiff, ↓reduceIte, if_true, if_false]
            simp only [upd, if_neg g101800, if_neg g101801, if_neg g102000, if_neg g3]
    · simp only [allAt, anyAt]
      simp only [bW, ↓splitB_true, ↓splitB_false, nilCmp, opConv, eq_self, if_true, if_false, Nat.reduceEqDiff, reduceCtorEq, ↓reduceIte, Nat.reduceLT, Nat.reduceAdd, Nat.reduceMul, Nat.reduceSub, Nat.reduceLeDiff, Nat.reduceBEq, Int.reduceEq, Int.reduceNeg, tk, ntmps25, results25, s53, s59, s60, F53, F59, F57, fillA, placeT, s58, s54]
      refine ord_step 0 [4] (by decide +kernel) ⟨?_, ?_⟩
      · simp only [allAt, anyAt]
        simp only [bW, ↓splitB_true, ↓splitB_false, nilCmp, opConv, eq_self, if_true, if_false, Nat.reduceEqDiff, reduceCtorEq, ↓reduceIte, Nat.reduceLT, Nat.reduceAdd, Nat.reduceMul, Nat.reduceSub, Nat.reduceLeDiff, Nat.reduceBEq, Int.reduceEq, Int.reduceNeg, tk, ntmps25, results25, s53, s59, s60, F53, F59, F57, fillA, placeT, s58, s54]
        refine ord_step 1 [4] (by decide +kernel) ⟨?_, ?_⟩
        · simp only [allAt, anyAt]
          simp only [bW, ↓splitB_true, ↓splitB_false, nilCmp, opConv, eq_self, if_true, if_false, Nat.reduceEqDiff, reduceCtorEq, ↓reduceIte, Nat.reduceLT, Nat.reduceAdd, Nat.reduceMul, Nat.reduceSub, Nat.reduceLeDiff, Nat.reduceBEq, Int.reduceEq, Int.reduceNeg, tk, ntmps25, results25, s53, s59, s60, F53, F59, F57, fillA, placeT, s58, s54]
          refine OkO_toG hsh hokk h8 ?_
          simp only [bW, ↓splitB_true, ↓splitB_false, nilCmp, opConv, eq_self, if_true, if_false, Nat.reduceEqDiff, reduceCtorEq, ↓reduceIte, Nat.reduceLT, Nat.reduceAdd, Nat.reduceMul, Nat.reduceSub, Nat.reduceLeDiff, Nat.reduceBEq, Int.reduceEq, Int.reduceNeg, tk, ntmps25, results25, s53, s59, s60, F53, F59, F57, fillA, placeT, s58, s54]
          refine ord_step 3 [4] (by decide +kernel) ⟨?_, ?_⟩
          · simp only [allAt, anyAt]
            simp only [bW, ↓splitB_true, ↓splitB_false, nilCmp, opConv, eq_self, if_true, if_false, Nat.reduceEqDiff, reduceCtorEq, ↓reduceIte, Nat.reduceLT, Nat.reduceAdd, Nat.reduceMul, Nat.reduceSub, Nat.reduceLeDiff, Nat.reduceBEq, Int.reduceEq, Int.reduceNeg, tk, ntmps25, results25, s53, s59, s60, F53, F59, F57, fillA, placeT, s58, s54]
            refine OkO_F54 h1 h2 h5 h6 hi ?_
            try simp only [bW, ↓splitB_true, ↓splitB_false, nilCmp, opConv, eq_self, if_true, if_false, Nat.reduceEqDiff, reduceCtorEq, ↓reduceIte, Nat.reduceLT, Nat.reduceAdd, Nat.reduceMul, Nat.reduceSub, Nat.reduceLeDiff, Nat.reduceBEq, Int.reduceEq, Int.reduceNeg, tk, ntmps25, results25, s53, s59, s60, F53, F59, F57, fillA, placeT, s58, s54]
            refine ord_step 4 [] (by decide +kernel) ?_
            simp only [allAt, anyAt]
            simp only [bW, ↓splitB_true, ↓splitB_false, nilCmp, opConv, eq_self, if_true, if_false, Nat.reduceEqDiff, reduceCtorEq, ↓reduceIte, Nat.reduceLT, Nat.reduceAdd, Nat.reduceMul, Nat.reduceSub, Nat.reduceLeDiff, Nat.reduceBEq, Int.reduceEq, Int.reduceNeg, tk, ntmps25, results25, s53, s59, s60, F53, F59, F57, fillA, placeT, s58, s54]
            refine ord_step 5 [] (by decide +kernel) ?_
            simp only [allAt, anyAt]
            simp only [bW, ↓splitB_true, ↓splitB_false, nilCmp, opConv, eq_self, if_true, if_false, Nat.reduceEqDiff, reduceCtorEq, ↓reduceIte, Nat.reduceLT, Nat.reduceAdd, Nat.reduceMul, Nat.reduceSub, Nat.reduceLeDiff, Nat.reduceBEq, Int.reduceEq, Int.reduceNeg, tk, ntmps25, results25, s53, s59, s60, F53, F59, F57, fillA, placeT, s58, s54]
            refine ord_step 6 [] (by decide +kernel) ?_
            simp only [allAt, anyAt]
            simp only [bW, ↓splitB_true, ↓splitB_false, nilCmp, opConv, eq_self, if_true, if_false, Nat.reduceEqDiff, reduceCtorEq, ↓reduceIte, Nat.reduceLT, Nat.reduceAdd, Nat.reduceMul, Nat.reduceSub, Nat.reduceLeDiff, Nat.reduceBEq, Int.reduceEq, Int.reduceNeg, tk, ntmps25, results25, s53, s59, s60, F53, F59, F57, fillA, placeT, s58, s54]
            refine ord_end (by decide +kernel) ?_
            refine (congrArg K5 (st_eq2 (fun t => ?_) (fun t => ?_))).mpr hL
            · by_cases g17 : t = 17
              · subst g17
                simp only [upd, Nat.reduceEqDiff, ↓reduceIte, if_true, if_false]
              by_cases g18 : t = 18
              · subst g18
                simp only [upd, Nat.reduceEqDiff, ↓reduceIte, if_true, if_false]
              by_cases g19 : t = 19
              · subst g19
                simp only [upd, Nat.reduceEqDiff, ↓reduceIte, if_true, if_false]
              by_cases g20 : t = 20
              · subst g20
                simp only [upd, Nat.reduceEqDiff, ↓reduceIte, if_true, if_false]
              by_cases g3 : t = 3
              · subst g3
                simp only [upd, Nat.reduceEqDiff, ↓reduceIte, if_true, if_false]
              simp only [upd, if_neg g17, if_neg g18, if_neg g19, if_neg g20, if_neg g3]
            · by_cases g101800 : t = 101800
              · subst g101800
                simp only [upd, Nat.reduceEqDiff, ↓reduceIte, if_true, if_false]
              by_cases g101801 : t = 101801
              · subst g101801
                simp only [upd, Nat.reduceEqDiff, ↓reduceIte, if_true, if_false]
              by_cases g102000 : t = 102000
              · subst g102000
                simp only [upd, Nat.reduceEqDiff, ↓reduceIte, if_true, if_false]
              by_cases g3 : t = 3
              · subst g3
                simp only [upd, Nat.reduceEqDiff, ↓reduceIte, if_true, if_false]
              simp only [upd, if_neg g101800, if_neg g101801, if_neg g102000, if_neg g3]
          · simp only [allAt, anyAt]
            simp only [bW, ↓splitB_true, ↓splitB_false, nilCmp, opConv, eq_self, if_true, if_false, Nat.reduceEqDiff, reduceCtorEq, ↓reduceIte, Nat.reduceLT, Nat.reduceAdd, Nat.reduceMul, Nat.reduceSub, Nat.reduceLeDiff, Nat.reduceBEq, Int.reduceEq, Int.reduceNeg, tk, ntmps25, results25, s53, s59, s60, F53, F59, F57, fillA, placeT, s58, s54]
            refine ord_step 3 [] (by decide +kernel) ?_
            simp only [allAt, anyAt]
            simp only [bW, ↓splitB_true, ↓splitB_false, nilCmp, opConv, eq_self, if_true, if_false, Nat.reduceEqDiff, reduceCtorEq, ↓reduceIte, Nat.reduceLT, Nat.reduceAdd, Nat.reduceMul, Nat.reduceSub, Nat.reduceLeDiff, Nat.reduceBEq, Int.reduceEq, Int.reduceNeg, tk, ntmps25, results25, s53, s59, s60, F53, F59, F57, fillA, placeT, s58, s54]
            refine OkO_F54 h1 h2 h5 h6 hi ?_
            try simp only [bW, ↓splitB_true, ↓splitB_false, nilCmp, opConv, eq_self, if_true, if_false, Nat.reduceEqDiff, reduceCtorEq, ↓reduceIte, Nat.reduceLT, Nat.reduceAdd, Nat.reduceMul, Nat.reduceSub, Nat.reduceLeDiff, Nat.reduceBEq, Int.reduceEq, Int.reduceNeg, tk, ntmps25, results25, s53, s59, s60, F53, F59, F57, fillA, placeT, s58, s54]
            refine ord_step 5 [] (by decide +kernel) ?_
            simp only [allAt, anyAt]
            simp only [bW, ↓splitB_true, ↓splitB_false, nilCmp, opConv, eq_self, if_true, if_false, Nat.reduceEqDiff, reduceCtorEq, ↓reduceIte, Nat.reduceLT, Nat.reduceAdd, Nat.reduceMul, Nat.reduceSub, Nat.reduceLeDiff, Nat.reduceBEq, Int.reduceEq, Int.reduceNeg, tk, ntmps25, results25, s53, s59, s60, F53, F59, F57, fillA, placeT, s58, s54]
            refine ord_step 6 [] (by decide +kernel) ?_
            simp only [allAt, anyAt]
            simp only [bW, ↓splitB_true, ↓splitB_false, nilCmp, opConv, eq_self, if_true, if_false, Nat.reduceEqDiff, reduceCtorEq, ↓reduceIte, Nat.reduceLT, Nat.reduceAdd, Nat.reduceMul, Nat.reduceSub, Nat.reduceLeDiff, Nat.reduceBEq, Int.reduceEq, Int.reduceNeg, tk, ntmps25, results25, s53, s59, s60, F53, F59, F57, fillA, placeT, s58, s54]
            refine ord_end (by decide +kernel) ?_
            refine (congrArg K5 (st_eq2 (fun t => ?_) (fun t => ?_))).mpr hL
            · by_cases g17 : t = 17
              · subst g17
                simp only [upd, Nat.reduceEqDiff, ↓reduceIte, if_true, if_false]
              by_cases g18 : t = 18
              · subst g18
                simp only [upd, Nat.reduceEqDiff, ↓reduceIte, if_true, if_false]
              by_cases g19 : t = 19
              · subst g19
                simp only [upd, Nat.reduceEqDiff, ↓reduceIte, if_true, if_false]
              by_cases g20 : t = 20
              · subst g20
                simp only [upd, Nat.reduceEqDiff, ↓reduceIte, if_true, if_false]
              by_cases g3 : t = 3
              · subst g3
                simp only [upd, Nat.reduceEqDiff, ↓reduceIte, if_true, if_false]
              simp only [upd, if_neg g17, if_neg g18, if_neg g19, if_neg g20, if_neg g3]
            · by_cases g101800 : t = 101800
              · subst g101800
                simp only [upd, Nat.reduceEqDiff, ↓reduceIte, if_true, if_false]
              by_cases g101801 : t = 101801
              · subst g101801
                simp only [upd, Nat.reduceEqDiff, ↓reduceIte, if_true, if_false]
              by_cases g102000 : t = 102000
              · subst g102000
                simp only [upd, Nat.reduceEqDiff, ↓reduceIte, if_true, if_false]
              by_cases g3 : t = 3
              · subst g3
                simp only [upd, Nat.reduceEqDiff, ↓reduceIte, if_true, if_false]
              simp only [upd, if_neg g101800, if_neg g101801, if_neg g102000, if_neg g3]
        · simp only [allAt, anyAt]
          simp only [bW, ↓splitB_true, ↓splitB_false, nilCmp, opConv, eq_self, if_true, if_false, Nat.reduceEqDiff, reduceCtorEq, ↓reduceIte, Nat.reduceLT, Nat.reduceAdd, Nat.reduceMul, Nat.reduceSub, Nat.reduceLeDiff, Nat.reduceBEq, Int.reduceEq, Int.reduceNeg, tk, ntmps25, results25, s53, s59, s60, F53, F59, F57, fillA, placeT, s58, s54]
          refine ord_step 1 [] (by decide +kernel) ?_
          simp only [allAt, anyAt]
          simp only [bW, ↓splitB_true, ↓splitB_false, nilCmp, opConv, eq_self, if_true, if_false, Nat.reduceEqDiff, reduceCtorEq, ↓reduceIte, Nat.reduceLT, Nat.reduceAdd, Nat.reduceMul, Nat.reduceSub, Nat.reduceLeDiff, Nat.reduceBEq, Int.reduceEq, Int.reduceNeg, tk, ntmps25, results25, s53, s59, s60, F53, F59, F57, fillA, placeT, s58, s54]
          refine OkO_toG hsh hokk h8 ?_
          simp only [bW, ↓splitB_true, ↓splitB_false, nilCmp, opConv, eq_self, if_true, if_false, Nat.reduceEqDiff, reduceCtorEq, ↓reduceIte, Nat.reduceLT, Nat.reduceAdd, Nat.reduceMul, Nat.reduceSub, Nat.reduceLeDiff, Nat.reduceBEq, Int.reduceEq, Int.reduceNeg, tk, ntmps25, results25, s53, s59, s60, F53, F59, F57, fillA, placeT, s58, s54]
          refine ord_step 3 [] (by decide +kernel) ?_
          simp only [allAt, anyAt]
          simp only [bW, ↓splitB_true, ↓splitB_false, nilCmp, opConv, eq_self, if_true, if_false, Nat.reduceEqDiff, reduceCtorEq, ↓reduceIte, Nat.reduceLT, Nat.reduceAdd, Nat.reduceMul, Nat.reduceSub, Nat.reduceLeDiff, Nat.reduceBEq, Int.reduceEq, Int.reduceNeg, tk, ntmps25, results25, s53, s59, s60, F53, F59, F57, fillA, placeT, s58, s54]
          refine OkO_F54 h1 h2 h5 h6 hi ?_
          try simp only [bW, ↓splitB_true, ↓splitB_false, nilCmp, opConv, eq_self, if_true, if_false, Nat.reduceEqDiff, reduceCtorEq, ↓reduceIte, Nat.reduceLT, Nat.reduceAdd, Nat.reduceMul, Nat.reduceSub, Nat.reduceLeDiff, Nat.reduceBEq, Int.reduceEq, Int.reduceNeg, tk, ntmps25, results25, s53, s59, s60, F53, F59, F57, fillA, placeT, s58, s54]
          refine ord_step 5 [] (by decide +kernel) ?_
          simp only [allAt, anyAt]
          simp only [bW, ↓splitB_true, ↓splitB_false, nilCmp, opConv, eq_self, if_true, if_false, Nat.reduceEqDiff, reduceCtorEq, ↓reduceIte, Nat.reduceLT, Nat.reduceAdd, Nat.reduceMul, Nat.reduceSub, Nat.reduceLeDiff, Nat.reduceBEq, Int.reduceEq, Int.reduceNeg, tk, ntmps25, results25, s53, s59, s60, F53, F59, F57, fillA, placeT, s58, s54]
          refine ord_step 6 [] (by decide +kernel) ?_
          simp only [allAt, anyAt]
          simp only [bW, ↓splitB_true, ↓splitB_false, nilCmp, opConv, eq_self, if_true, if_false, Nat.reduceEqDiff, reduceCtorEq, ↓reduceIte, Nat.reduceLT, Nat.reduceAdd, Nat.reduceMul, Nat.reduceSub, Nat.reduceLeDiff, Nat.reduceBEq, Int.reduceEq, Int.reduceNeg, tk, ntmps25, results25, s53, s59, s60, F53, F59, F57, fillA, placeT, s58, s54]
          refine ord_end (by decide +kernel) ?_
          refine (congrArg K5 (st_eq2 (fun t => ?_) (fun t => ?_))).mpr hL
          · by_cases g17 : t = 17
            · subst g17
              simp only [upd, Nat.reduceEqDiff, ↓reduceIte, if_true, if_false]
            by_cases g18 : t = 18
            · subst g18
              simp only [upd, Nat.reduceEqDiff, ↓reduceIte, if_true, if_false]
            by_cases g19 : t = 19
            · subst g19
              simp only [upd, Nat.reduceEqDiff, ↓reduceIte, if_true, if_false]
            by_cases g20 : t = 20
            · subst g20
              simp only [upd, Nat.reduceEqDiff, ↓reduceIte, if_true, if_false]
            by_cases g3 : t = 3
            · subst g3
              simp only [upd, Nat.reduceEqDiff, ↓reduceIte, if_true, if_false]
            simp only [upd, if_neg g17, if_neg g18, if_neg g19, if_neg g20, if_neg g3]
          · by_cases g101800 : t = 101800
            · subst g101800
              simp only [upd, Nat.reduceEqDiff, ↓reduceIte, if_true, if_false]
            by_cases g101801 : t = 101801
            · subst g101801
              simp only [upd, Nat.reduceEqDiff, ↓reduceIte, if_true, if_false]
            by_cases g102000 : t = 102000
            · subst g102000
              simp only [upd, Nat.reduceEqDiff, ↓reduceIte, if_true, if_false]
            by_cases g3 : t = 3
            · subst g3
              simp only [upd, Nat.reduceEqDiff, ↓reduceIte, if_true, if_false]
            simp only [upd, if_neg g101800, if_neg g101801, if_neg g102000, if_neg g3]
      · simp only [allAt, anyAt]
        simp only [bW, ↓splitB_true, ↓splitB_false, nilCmp, opConv, eq_self, if_true, if_false, Nat.reduceEqDiff, reduceCtorEq, ↓reduceIte, Nat.reduceLT, Nat.reduceAdd, Nat.reduceMul, Nat.reduceSub, Nat.reduceLeDiff, Nat.reduceBEq, Int.reduceEq, Int.reduceNeg, tk, ntmps25, results25, s53, s59, s60, F53, F59, F57, fillA, placeT, s58, s54]
        refine ord_step 0 [] (by decide +kernel) ?_
        simp only [allAt, anyAt]
        simp only [bW, ↓splitB_true, ↓splitB_false, nilCmp, opConv, eq_self, if_true, if_false, Nat.reduceEqDiff, reduceCtorEq, ↓reduceIte, Nat.reduceLT, Nat.reduceAdd, Nat.reduceMul, Nat.reduceSub, Nat.reduceLeDiff, Nat.reduceBEq, Int.reduceEq, Int.reduceNeg, tk, ntmps25, results25, s53, s59, s60, F53, F59, F57, fillA, placeT, s58, s54]
        refine ord_step 1 [] (by decide +kernel) ?_
        simp only [allAt, anyAt]
        simp only [bW, ↓splitB_true, ↓splitB_false, nilCmp, opConv, eq_self, if_true, if_false, Nat.reduceEqDiff, reduceCtorEq, ↓reduceIte, Nat.reduceLT, Nat.reduceAdd, Nat.reduceMul, Nat.reduceSub, Nat.reduceLeDiff, Nat.reduceBEq, Int.reduceEq, Int.reduceNeg, tk, ntmps25, results25, s53, s59, s60, F53, F59, F57, fillA, placeT, s58, s54]
        refine OkO_toG hsh hokk h8 ?_
        simp only [bW, ↓splitB_true, ↓splitB_false, nilCmp, opConv, eq_self, if_true, if_false, Nat.reduceEqDiff, reduceCtorEq, ↓reduceIte, Nat.reduceLT, Nat.reduceAdd, Nat.reduceMul, Nat.reduceSub, Nat.reduceLeDiff, Nat.reduceBEq, Int.reduceEq, Int.reduceNeg, tk, ntmps25, results25, s53, s59, s60, F53, F59, F57, fillA, placeT, s58, s54]
        refine ord_step 3 [] (by decide +kernel) ?_
        simp only [allAt, anyAt]
        simp only [bW, ↓splitB_true, ↓splitB_false, nilCmp, opConv, eq_self, if_true, if_false, Nat.reduceEqDiff, reduceCtorEq, ↓reduceIte, Nat.reduceLT, Nat.reduceAdd, Nat.reduceMul, Nat.reduceSub, Nat.reduceLeDiff, Nat.reduceBEq, Int.reduceEq, Int.reduceNeg, tk, ntmps25, results25, s53, s59, s60, F53, F59, F57, fillA, placeT, s58, s54]
        refine OkO_F54 h1 h2 h5 h6 hi ?_
        try simp only [bW, ↓splitB_true, ↓splitB_false, nilCmp, opConv, eq_self, if_true, if_false, Nat.reduceEqDiff, reduceCtorEq, ↓reduceIte, Nat.reduceLT, Nat.reduceAdd, Nat.reduceMul, Nat.reduceSub, Nat.reduceLeDiff, Nat.reduceBEq, Int.reduceEq, Int.reduceNeg, tk, ntmps25, results25, s53, s59, s60, F53, F59, F57, fillA, placeT, s58, s54]
        refine ord_step 5 [] (by decide +kernel) ?_
        simp only [allAt, anyAt]
        simp only [bW, ↓splitB_true, ↓splitB_false, nilCmp, opConv, eq_self, if_true, if_false, Nat.reduceEqDiff, reduceCtorEq, ↓reduceIte, Nat.reduceLT, Nat.reduceAdd, Nat.reduceMul, Nat.reduceSub, Nat.reduceLeDiff, Nat.reduceBEq, Int.reduceEq, Int.reduceNeg, tk, ntmps25, results25, s53, s59, s60, F53, F59, F57, fillA, placeT, s58, s54]
        refine ord_step 6 [] (by decide +kernel) ?_
        simp only [allAt, anyAt]
        simp only [bW, ↓splitB_true, ↓splitB_false, nilCmp, opConv, eq_self, if_true, if_false, Nat.reduceEqDiff, reduceCtorEq, ↓reduceIte, Nat.reduceLT, Nat.reduceAdd, Nat.reduceMul, Nat.reduceSub, Nat.reduceLeDiff, Nat.reduceBEq, Int.reduceEq, Int.reduceNeg, tk, ntmps25, results25, s53, s59, s60, F53, F59, F57, fillA, placeT, s58, s54]
        refine ord_end (by decide +kernel) ?_
        refine (congrArg K5 (st_eq2 (fun t => ?_) (fun t => ?_))).mpr hL
        · by_cases g17 : t = 17
          · subst g17
            simp only [upd, Nat.reduceEqDiff, ↓reduceIte, if_true, if_false]
          by_cases g18 : t = 18
          · subst g18
            simp only [upd, Nat.reduceEqDiff, ↓reduceIte, if_true, if_false]
          by_cases g19 : t = 19
          · subst g19
            simp only [upd, Nat.reduceEqDiff, ↓reduceIte, if_true, if_false]
          by_cases g20 : t = 20
          · subst g20
            simp only [upd, Nat.reduceEqDiff, ↓reduceIte, if_true, if_false]
          by_cases g3 : t = 3
          · subst g3
            simp only [upd, Nat.reduceEqDiff, ↓reduceIte, if_true, if_false]
          simp only [upd, if_neg g17, if_neg g18, if_neg g19, if_neg g20, if_neg g3]
        · by_cases g101800 : t = 101800
          · subst g101800
            simp only [upd, Nat.reduceEqDiff, ↓reduceIte, if_true, if_false]
          by_cases g101801 : t = 101801
          · subst g101801
            simp only [upd, Nat.reduceEqDiff, ↓reduceIte, if_true, if_false]
          by_cases g102000 : t = 102000
          · subst g102000
            simp only [upd, Nat.reduceEqDiff, ↓reduceIte, if_true, if_false]
          by_cases g3 : t = 3
          · subst g3
            simp only [upd, Nat.reduceEqDiff, ↓reduceIte, if_true, if_false]
          simp only [upd, if_neg g101800, if_neg g101801, if_neg g102000, if_neg g3]
    · simp only [allAt, anyAt]
      simp only [bW, ↓splitB_true, ↓splitB_false, nilCmp, opConv, eq_self, if_true, if_false, Nat.reduceEqDiff, reduceCtorEq, ↓reduceIte, Nat.reduceLT, Nat.reduceAdd, Nat.reduceMul, Nat.reduceSub, Nat.reduceLeDiff, Nat.reduceBEq, Int.reduceEq, Int.reduceNeg, tk, ntmps25, results25, s53, s59, s60, F53, F59, F57, fillA, placeT, s58, s54]
      refine ord_step 0 [2] (by decide +kernel) ⟨?_, ?_⟩
      · simp only [allAt, anyAt]
        simp only [bW, ↓splitB_true, ↓splitB_false, nilCmp, opConv, eq_self, if_true, if_false, Nat.reduceEqDiff, reduceCtorEq, ↓reduceIte, Nat.reduceLT, Nat.reduceAdd, Nat.reduceMul, Nat.reduceSub, Nat.reduceLeDiff, Nat.reduceBEq, Int.reduceEq, Int.reduceNeg, tk, ntmps25, results25, s53, s59, s60, F53, F59, F57, fillA, placeT, s58, s54]
        refine ord_step 1 [2] (by decide +kernel) ⟨?_, ?_⟩
        · simp only [allAt, anyAt]
          simp only [bW, ↓splitB_true, ↓splitB_false, nilCmp, opConv, eq_self, if_true, if_false, Nat.reduceEqDiff, reduceCtorEq, ↓reduceIte, Nat.reduceLT, Nat.reduceAdd, Nat.reduceMul, Nat.reduceSub, Nat.reduceLeDiff, Nat.reduceBEq, Int.reduceEq, Int.reduceNeg, tk, ntmps25, results25, s53, s59, s60, F53, F59, F57, fillA, placeT, s58, s54]
          refine OkO_toG hsh hokk h8 ?_
          simp only [bW, ↓splitB_true, ↓splitB_false, nilCmp, opConv, eq_self, if_true, if_false, Nat.reduceEqDiff, reduceCtorEq, ↓reduceIte, Nat.reduceLT, Nat.reduceAdd, Nat.reduceMul, Nat.reduceSub, Nat.reduceLeDiff, Nat.reduceBEq, Int.reduceEq, Int.reduceNeg, tk, ntmps25, results25, s53, s59, s60, F53, F59, F57, fillA, placeT, s58, s54]
          refine ord_step 2 [] (by decide +kernel) ?_
          simp only [allAt, anyAt]
          simp only [bW, ↓splitB_true, ↓splitB_false, nilCmp, opConv, eq_self, if_true, if_false, Nat.reduceEqDiff, reduceCtorEq, ↓reduceIte, Nat.reduceLT, Nat.reduceAdd, Nat.reduceMul, Nat.reduceSub, Nat.reduceLeDiff, Nat.reduceBEq, Int.reduceEq, Int.reduceNeg, tk, ntmps25, results25, s53, s59, s60, F53, F59, F57, fillA, placeT, s58, s54]
          refine ord_step 3 [] (by decide +kernel) ?_
          simp only [allAt, anyAt]
          simp only [bW, ↓splitB_true, ↓splitB_false, nilCmp, opConv, eq_self, if_true, if_false, Nat.reduceEqDiff, reduceCtorEq, ↓reduceIte, Nat.reduceLT, Nat.reduceAdd, Nat.reduceMul, Nat.reduceSub, Nat.reduceLeDiff, Nat.reduceBEq, Int.reduceEq, Int.reduceNeg, tk, ntmps25, results25, s53, s59, s60, F53, F59, F57, fillA, placeT, s58, s54]
          refine OkO_F54 h1 h2 h5 h6 hi ?_
          try simp only [bW, ↓splitB_true, ↓splitB_false, nilCmp, opConv, eq_self, if_true, if_false, Nat.reduceEqDiff, reduceCtorEq, ↓reduceIte, Nat.reduceLT, Nat.reduceAdd, Nat.reduceMul, Nat.reduceSub, Nat.reduceLeDiff, Nat.reduceBEq, Int.reduceEq, Int.reduceNeg, tk, ntmps25, results25, s53, s59, s60, F53, F59, F57, fillA, placeT, s58, s54]
          refine ord_step 5 [] (by decide +kernel) ?_
          simp only [allAt, anyAt]
          simp only [bW, ↓splitB_true, ↓splitB_false, nilCmp, opConv, eq_self, if_true, if_false, Nat.reduceEqDiff, reduceCtorEq, ↓reduceIte, Nat.reduceLT, Nat.reduceAdd, Nat.reduceMul, Nat.reduceSub, Nat.reduceLeDiff, Nat.reduceBEq, Int.reduceEq, Int.reduceNeg, tk, ntmps25, results25, s53, s59, s60, F53, F59, F57, fillA, placeT, s58, s54]
          refine ord_step 6 [] (by decide +kernel) ?_
          simp only [allAt, anyAt]
          simp only [bW, ↓splitB_true, ↓splitB_false, nilCmp, opConv, eq_self, if_true, if_false, Nat.reduceEqDiff, reduceCtorEq, ↓reduceIte, Nat.reduceLT, Nat.reduceAdd, Nat.reduceMul, Nat.reduceSub, Nat.reduceLeDiff, Nat.reduceBEq, Int.reduceEq, Int.reduceNeg, tk, ntmps25, results25, s53, s59, s60, F53, F59, F57, fillA, placeT, s58, s54]
          refine ord_end (by decide +kernel) ?_
          refine (congrArg K5 (st_eq2 (fun t => ?_) (fun t => ?_))).mpr hL
          · by_cases g17 : t = 17
            · subst g17
              simp only [upd, Nat.reduceEqDiff, ↓reduceIte, if_true, if_false]
            by_cases g18 : t = 18
            · subst g18
              simp only [upd, Nat.reduceEqDiff, ↓reduceIte, if_true, if_false]
            by_cases g19 : t = 19
            · subst g19
              simp only [upd, Nat.reduceEqDiff, ↓reduceIte, if_true, if_false]
            by_cases g20 : t = 20
            · subst g20
              simp only [upd, Nat.reduceEqDiff, ↓reduceIte, if_true, if_false]
            by_cases g3 : t = 3
            · subst g3
              simp only [upd, Nat.reduceEqDiff, ↓reduceIte, if_true, if_false]
            simp only [upd, if_neg g17, if_neg g18, if_neg g19, if_neg g20, if_neg g3]
          · by_cases g101800 : t = 101800
            · subst g101800
              simp only [upd, Nat.reduceEqDiff, ↓reduceIte, if_true, if_false]
            by_cases g101801 : t = 101801
            · subst g101801
              simp only [upd, Nat.reduceEqDiff, ↓reduceIte, if_true, if_false]
            by_cases g102000 : t = 102000
            · subst g102000
              simp only [upd, Nat.reduceEqDiff, ↓reduceIte, if_true, if_false]
            by_cases g3 : t = 3
            · subst g3
              simp only [upd, Nat.reduceEqDiff, ↓reduceIte, if_true, if_false]
            simp only [upd, if_neg g101800, if_neg g101801, if_neg g102000, if_neg g3]
        · simp only [allAt, anyAt]
          simp only [bW, ↓splitB_true, ↓splitB_false, nilCmp, opConv, eq_self, if_true, if_false, Nat.reduceEqDiff, reduceCtorEq, ↓reduceIte, Nat.reduceLT, Nat.reduceAdd, Nat.reduceMul, Nat.reduceSub, Nat.reduceLeDiff, Nat.reduceBEq, Int.reduceEq, Int.reduceNeg, tk, ntmps25, results25, s53, s59, s60, F53, F59, F57, fillA, placeT, s58, s54]
          refine ord_step 1 [] (by decide +kernel) ?_
          simp only [allAt, anyAt]
          simp only [bW, ↓splitB_true, ↓splitB_false, nilCmp, opConv, eq_self, if_true, if_false, Nat.reduceEqDiff, reduceCtorEq, ↓reduceIte, Nat.reduceLT, Nat.reduceAdd, Nat.reduceMul, Nat.reduceSub, Nat.reduceLeDiff, Nat.reduceBEq, Int.reduceEq, Int.reduceNeg, tk, ntmps25, results25, s53, s59, s60, F53, F59, F57, fillA, placeT, s58, s54]
          refine OkO_toG hsh hokk h8 ?_
          simp only [bW, ↓splitB_true, ↓splitB_false, nilCmp, opConv, eq_self, if_true, if_false, Nat.reduceEqDiff, reduceCtorEq, ↓reduceIte, Nat.reduceLT, Nat.reduceAdd, Nat.reduceMul, Nat.reduceSub, Nat.reduceLeDiff, Nat.reduceBEq, Int.reduceEq, Int.reduceNeg, tk, ntmps25, results25, s53, s59, s60, F53, F59, F57, fillA, placeT, s58, s54]
          refine ord_step 3 [] (by decide +kernel) ?_
          simp only [allAt, anyAt]
          simp only [bW, ↓splitB_true, ↓splitB_false, nilCmp, opConv, eq_self, if_true, if_false, Nat.reduceEqDiff, reduceCtorEq, ↓reduceIte, Nat.reduceLT, Nat.reduceAdd, Nat.reduceMul, Nat.reduceSub, Nat.reduceLeDiff, Nat.reduceBEq, Int.reduceEq, Int.reduceNeg, tk, ntmps25, results25, s53, s59, s60, F53, F59, F57, fillA, placeT, s58, s54]
          refine OkO_F54 h1 h2 h5 h6 hi ?_
          try simp only [bW, ↓splitB_true, ↓splitB_false, nilCmp, opConv, eq_self, if_true, if_false, Nat.reduceEqDiff, reduceCtorEq, ↓reduceIte, Nat.reduceLT, Nat.reduceAdd, Nat.reduceMul, Nat.reduceSub, Nat.reduceLeDiff, Nat.reduceBEq, Int.reduceEq, Int.reduceNeg, tk, ntmps25, results25, s53, s59, s60, F53, F59, F57, fillA, placeT, s58, s54]
          refine ord_step 5 [] (by decide +kernel) ?_
          simp only [allAt, anyAt]
          simp only [bW, ↓splitB_true, ↓splitB_false, nilCmp, opConv, eq_self, if_true, if_false, Nat.reduceEqDiff, reduceCtorEq, ↓reduceIte, Nat.reduceLT, Nat.reduceAdd, Nat.reduceMul, Nat.reduceSub, Nat.reduceLeDiff, Nat.reduceBEq, Int.reduceEq, Int.reduceNeg, tk, ntmps25, results25, s53, s59, s60, F53, F59, F57, fillA, placeT, s58, s54]
          refine ord_step 6 [] (by decide +kernel) ?_
          simp only [allAt, anyAt]
          simp only [bW, ↓splitB_true, ↓splitB_false, nilCmp, opConv, eq_self, if_true, if_false, Nat.reduceEqDiff, reduceCtorEq, ↓reduceIte, Nat.reduceLT, Nat.reduceAdd, Nat.reduceMul, Nat.reduceSub, Nat.reduceLeDiff, Nat.reduceBEq, Int.reduceEq, Int.reduceNeg, tk, ntmps25, results25, s53, s59, s60, F53, F59, F57, fillA, placeT, s58, s54]
          refine ord_end (by decide +kernel) ?_
          refine (congrArg K5 (st_eq2 (fun t => ?_) (fun t => ?_))).mpr hL
          · by_cases g17 : t = 17
            · subst g17
              simp only [upd, Nat.reduceEqDiff, ↓reduceIte, if_true, if_false]
            by_cases g18 : t = 18
            · subst g18
              simp only [upd, Nat.reduceEqDiff, ↓reduceIte, if_true, if_false]
            by_cases g19 : t = 19
            · subst g19
              simp only [upd, Nat.reduceEqDiff, ↓reduceIte, if_true, if_false]
            by_cases g20 : t = 20
            · subst g20
              simp only [upd, Nat.reduceEqDiff, ↓reduceIte, if_true, if_false]
            by_cases g3 : t = 3
            · subst g3
              simp only [upd, Nat.reduceEqDiff, ↓reduceIte, if_true, if_false]
            simp only [upd, if_neg g17, if_neg g18, if_neg g19, if_neg g20, if_neg g3]
          · by_cases g101800 : t = 101800
            · subst g101800
              simp only [upd, Nat.reduceEqDiff, ↓reduceIte, if_true, if_false]
            by_cases g101801 : t = 101801
            · subst g101801
              simp only [upd, Nat.reduceEqDiff, ↓reduceIte, if_true, if_false]
            by_cases g102000 : t = 102000
            · subst g102000
              simp only [upd, Nat.reduceEqDiff, ↓reduceIte, if_true, if_false]
            by_cases g3 : t = 3
            · subst g3
              simp only [upd, Nat.reduceEqDiff, ↓reduceIte, if_true, if_false]
            simp only [upd, if_neg g101800, if_neg g101801, if_neg g102000, if_neg g3]
      · simp only [allAt, anyAt]
        simp only [bW, ↓splitB_true, ↓splitB_false, nilCmp, opConv, eq_self, if_true, if_false, Nat.reduceEqDiff, reduceCtorEq, ↓reduceIte, Nat.reduceLT, Nat.reduceAdd, Nat.reduceMul, Nat.reduceSub, Nat.reduceLeDiff, Nat.reduceBEq, Int.reduceEq, Int.reduceNeg, tk, ntmps25, results25, s53, s59, s60, F53, F59, F57, fillA, placeT, s58, s54]
        refine ord_step 0 [] (by decide +kernel) ?_
        simp only [allAt, anyAt]
        simp only [bW, ↓splitB_true, ↓splitB_false, nilCmp, opConv, eq_self, if_true, if_false, Nat.reduceEqDiff, reduceCtorEq, ↓reduceIte, Nat.reduceLT, Nat.reduceAdd, Nat.reduceMul, Nat.reduceSub, Nat.reduceLeDiff, Nat.reduceBEq, Int.reduceEq, Int.reduceNeg, tk, ntmps25, results25, s53, s59, s60, F53, F59, F57, fillA, placeT, s58, s54]
        refine ord_step 1 [] (by decide +kernel) ?_
        simp only [allAt, anyAt]
        simp only [bW, ↓splitB_true, ↓splitB_false, nilCmp, opConv, eq_self, if_true, if_false, Nat.reduceEqDiff, reduceCtorEq, ↓reduceIte, Nat.reduceLT, Nat.reduceAdd, Nat.reduceMul, Nat.reduceSub, Nat.reduceLeDiff, Nat.reduceBEq, Int.reduceEq, Int.reduceNeg, tk, ntmps25, results25, s53, s59, s60, F53, F59, F57, fillA, placeT, s58, s54]
        refine OkO_toG hsh hokk h8 ?_
        simp only [bW, ↓splitB_true, ↓splitB_false, nilCmp, opConv, eq_self, if_true, if_false, Nat.reduceEqDiff, reduceCtorEq, ↓reduceIte, Nat.reduceLT, Nat.reduceAdd, Nat.reduceMul, Nat.reduceSub, Nat.reduceLeDiff, Nat.reduceBEq, Int.reduceEq, Int.reduceNeg, tk, ntmps25, results25, s53, s59, s60, F53, F59, F57, fillA, placeT, s58, s54]
        refine ord_step 3 [] (by decide +kernel) ?_
        simp only [allAt, anyAt]
        simp only [bW, ↓splitB_true, ↓splitB_false, nilCmp, opConv, eq_self, if_true, if_false, Nat.reduceEqDiff, reduceCtorEq, ↓reduceIte, Nat.reduceLT, Nat.reduceAdd, Nat.reduceMul, Nat.reduceSub, Nat.reduceLeDiff, Nat.reduceBEq, Int.reduceEq, Int.reduceNeg, tk, ntmps25, results25, s53, s59, s60, F53, F59, F57, fillA, placeT, s58, s54]
        refine OkO_F54 h1 h2 h5 h6 hi ?_
        try simp only [bW, ↓splitB_true, ↓splitB_false, nilCmp, opConv, eq_self, if_true, if_false, Nat.reduceEqDiff, reduceCtorEq, ↓reduceIte, Nat.reduceLT, Nat.reduceAdd, Nat.reduceMul, Nat.reduceSub, Nat.reduceLeDiff, Nat.reduceBEq, Int.reduceEq, Int.reduceNeg, tk, ntmps25, results25, s53, s59, s60, F53, F59, F57, fillA, placeT, s58, s54]
        refine ord_step 5 [] (by decide +kernel) ?_
        simp only [allAt, anyAt]
        simp only [bW, ↓splitB_true, ↓splitB_false, nilCmp, opConv, eq_self, if_true, if_false, Nat.reduceEqDiff, reduceCtorEq, ↓reduceIte, Nat.reduceLT, Nat.reduceAdd, Nat.reduceMul, Nat.reduceSub, Nat.reduceLeDiff, Nat.reduceBEq, Int.reduceEq, Int.reduceNeg, tk, ntmps25, results25, s53, s59, s60, F53, F59, F57, fillA, placeT, s58, s54]
        refine ord_step 6 [] (by decide +kernel) ?_
        simp only [allAt, anyAt]
        simp only [bW, ↓splitB_true, ↓splitB_false, nilCmp, opConv, eq_self, if_true, if_false, Nat.reduceEqDiff, reduceCtorEq, ↓reduceIte, Nat.reduceLT, Nat.reduceAdd, Nat.reduceMul, Nat.reduceSub, Nat.reduceLeDiff, Nat.reduceBEq, Int.reduceEq, Int.reduceNeg, tk, ntmps25, results25, s53, s59, s60, F53, F59, F57, fillA, placeT, s58, s54]
        refine ord_end (by decide +kernel) ?_
        refine (congrArg K5 (st_eq2 (fun t => ?_) (fun t => ?_))).mpr hL
        · by_cases g17 : t = 17
          · subst g17
            simp only [upd, Nat.reduceEqDiff, ↓reduceIte, if_true, if_false]
          by_cases g18 : t = 18
          · subst g18
            simp only [upd, Nat.reduceEqDiff, ↓reduceIte, if_true, if_false]
          by_cases g19 : t = 19
          · subst g19
            simp only [upd, Nat.reduceEqDiff, ↓reduceIte, if_true, if_false]
          by_cases g20 : t = 20
          · subst g20
            simp only [upd, Nat.reduceEqDiff, ↓reduceIte, if_true, if_false]
          by_cases g3 : t = 3
          · subst g3
            simp only [upd, Nat.reduceEqDiff, ↓reduceIte, if_true, if_false]
          simp only [upd, if_neg g17, if_neg g18, if_neg g19, if_neg g20, if_neg g3]
        · by_cases g101800 : t = 101800
          · subst g101800
            simp only [upd, Nat.reduceEqDiff, ↓reduceIte, if_true, if_false]
          by_cases g101801 : t = 101801
          · subst g101801
            simp only [upd, Nat.reduceEqDiff, ↓reduceIte, if_true, if_false]
          by_cases g102000 : t = 102000
          · subst g102000
            simp only [upd, Nat.reduceEqDiff, ↓reduceIte, if_true, if_false]
          by_cases g3 : t = 3
          · subst g3
            simp only [upd, Nat.reduceEqDiff, ↓reduceIte, if_true, if_false]
          simp only [upd, if_neg g101800, if_neg g101801, if_neg g102000, if_neg g3]
  refine hK5 _ ?_; clear hK5 K5
  have hL1 : shLL [.i] (reachL fs ns) = true := pick1_sh _ _
  have hL2 : (reachL fs ns).length ≤ fs.length := pick1_len _ _
  have hL3 : ∀ j, j < (reachL fs ns).length → ∃ a : Nat, a < fs.length ∧ (reachL fs ns).getD j [] = [.i .i64 (a : Int)] := fun j hj => by
    obtain ⟨a, q1, _, q2⟩ := pick1_get hj
    exact ⟨a, q1, q2⟩
  have hL4 : ∀ i j, i < j → j < (reachL fs ns).length → (reachL fs ns).getD i [] ≠ (reachL fs ns).getD j [] := fun i j hij hj => pick1_ne hij hj
  generalize reachL fs ns = L at hL1 hL2 hL3 hL4 hans ⊢
  refine seqK fun K hK => ?_
  simp only [bW, ↓splitB_true, ↓splitB_false, nilCmp, opConv, eq_self, if_true, if_false, Nat.reduceEqDiff, reduceCtorEq, ↓reduceIte, Nat.reduceLT, Nat.reduceAdd, Nat.reduceMul, Nat.reduceSub, Nat.reduceLeDiff, Nat.reduceBEq, Int.reduceEq, Int.reduceNeg, tk, ntmps25, results25, s53, s59, s60, F53, F59, F57, fillA, placeT, s58, s54]
  refine hK _ ?_; clear hK K
  refine seqK fun K hK => ?_
  refine seqK fun K2 hK2 => ?_
  simp only [bW, ↓splitB_true, ↓splitB_false, nilCmp, opConv, eq_self, if_true, if_false, Nat.reduceEqDiff, reduceCtorEq, ↓reduceIte, Nat.reduceLT, Nat.reduceAdd, Nat.reduceMul, Nat.reduceSub, Nat.reduceLeDiff, Nat.reduceBEq, Int.reduceEq, Int.reduceNeg, tk, ntmps25, results25, s53, s59, s60, F53, F59, F57, fillA, placeT, s58, s54]
  refine hK2 _ ?_; clear hK2 K2
  rw [awp_block]
  refine loopW [1, 2, 3, 4, 5, 22, 23, 24] (fun x : Nat × List (List D) × Nat => stL 86 [(1, .a 500000 0), (2, .a 500001 0), (3, .a 500002 0), (4, .r 500003), (5, .r 500004), (22, .r 500003), (23, .d (.i .i64 L.length)), (24, .d (.i .i64 x.1))] [(500000, some (.box [.d (.l 6 fs), .d (.l 1 ns)])), (500001, some (.box [.z 6, .z 1])), (500002, some (.box [.r 500005, .r 500006])), (500003, some (.row 1 L true false 0)), (500004, some (.row 6 ((L.take x.1).map (newFun fs L)) true false 0)), (500005, some (.row 6 x.2.1 true false x.2.2)), (500006, some (.row 1 ns true false 0))]) (fun x => x.1 ≤ L.length ∧ x.2.1.length = fs.length ∧ ∀ j a : Nat, x.1 ≤ j → j < L.length → L.getD j [] = [.i .i64 (a : Int)] → x.2.1.getD a [] = fs.getD a []) (fun x => L.length - x.1) ?_ ?_
  · refine ⟨?_, (0, fs, 0), ?_, Nat.zero_le _, rfl, fun _ _ _ _ _ => rfl⟩
    · simp only [bK, Nat.reduceEqDiff, reduceCtorEq, ↓reduceIte, Nat.reduceBEq, Nat.reduceLeDiff, Nat.reduceAdd, if_true, if_false]
    · simp only [bK, Nat.reduceEqDiff, reduceCtorEq, ↓reduceIte, Nat.reduceBEq, Nat.reduceLeDiff, Nat.reduceAdd, if_true, if_false]
      try rfl
  rintro ⟨i, H, ve⟩ ⟨hil, hH1, hH2⟩
  simp only at hil hH1 hH2 ⊢
  refine seqK fun K3 hK3 => ?_
  simp only [bW, ↓splitB_true, ↓splitB_false, nilCmp, opConv, eq_self, if_true, if_false, Nat.reduceEqDiff, reduceCtorEq, ↓reduceIte, Nat.reduceLT, Nat.reduceAdd, Nat.reduceMul, Nat.reduceSub, Nat.reduceLeDiff, Nat.reduceBEq, Int.reduceEq, Int.reduceNeg, tk, ntmps25, results25, s53, s59, s60, F53, F59, F57, fillA, placeT, s58, s54]
  refine hK3 _ ?_; clear hK3 K3
  refine seqK fun K3 hK3 => ?_
  simp only [bW, ↓splitB_true, ↓splitB_false, nilCmp, opConv, eq_self, if_true, if_false, Nat.reduceEqDiff, reduceCtorEq, ↓reduceIte, Nat.reduceLT, Nat.reduceAdd, Nat.reduceMul, Nat.reduceSub, Nat.reduceLeDiff, Nat.reduceBEq, Int.reduceEq, Int.reduceNeg, tk, ntmps25, results25, s53, s59, s60, F53, F59, F57, fillA, placeT, s58, s54]
  refine splitB_intro (fun hb => hK3 _ ?_) (fun hb => hK _ ?_) <;> clear hK3 K3
  · have hlt := of_decide_eq_true hb
    clear hb
    have hlt : i < L.length := by omega
    obtain ⟨a, hal, hLa⟩ := hL3 i hlt
    have hHa := hH2 i a (Nat.le_refl _) hlt hLa
    have hts := map_step (newFun fs L) (d := []) hlt
    rw [hLa, newFun_at] at hts
    have hrow := shLL_get h1 hal
    have hok := okLL_get h2 hal
    have hwt := wtLL_mono hal
    have hco := img_code hi hal
    have hins := fun k => img_ins hi (i := a) (k := k) hal
    generalize hrw : fs.getD a [] = row at hrow hok hwt hts hco hins hHa
    obtain ⟨cm, qm, rfl, em, hrow⟩ := shL_cons hrow
    obtain ⟨cw, qw, rfl, ew, hrow⟩ := shL_cons hrow
    obtain ⟨ca, qa, rfl, ea, hrow⟩ := shL_cons hrow
    obtain ⟨cy, qy, rfl, ey, hrow⟩ := shL_cons hrow
    obtain ⟨cl, ql, rfl, el, hrow⟩ := shL_cons hrow
    obtain ⟨cc, qc, rfl, ec, hrow⟩ := shL_cons hrow
    obtain rfl := shL_nil hrow
    obtain ⟨m, rfl⟩ := shD_s em
    obtain ⟨w, rfl⟩ := shD_s ew
    obtain ⟨za, ps, rfl, hza, ha⟩ := shD_l2 ea
    obtain rfl : za = 1 := hza
    obtain ⟨ty, rfl⟩ := shD_i ey
    obtain ⟨sl, rfl⟩ := shD_i el
    obtain ⟨zc, cs, rfl, hzc, hc⟩ := shD_l2 ec
    obtain rfl : zc = 2 := hzc
    simp only [okL_cons, okL_nil, okD_s, okD_l, okD_i, okD_b, and_true, true_and] at hok
    obtain ⟨k1, k2, ⟨k3, k3'⟩, k4, k5, ⟨k6, k6'⟩⟩ := hok
    simp only [wtL, wt] at hwt
    simp only [codeL] at hco hins
    rw [movF_row] at hts
    refine seqK fun K4 hK4 => ?_
    rw [awp_block]
    refine seqK fun K5 hK5 => ?_
    simp only [bW, ↓splitB_true, ↓splitB_false, nilCmp, opConv, eq_self, if_true, if_false, Nat.reduceEqDiff, reduceCtorEq, ↓reduceIte, Nat.reduceLT, Nat.reduceAdd, Nat.reduceMul, Nat.reduceSub, Nat.reduceLeDiff, Nat.reduceBEq, Int.reduceEq, Int.reduceNeg, tk, ntmps25, results25, s53, s59, s60, F53, F59, F57, fillA, placeT, s58, s54]
    refine ⟨⟨by omega, by omega⟩, ?_⟩
    rw [hLa]
    simp only [bW, ↓splitB_true, ↓splitB_false, nilCmp, opConv, eq_self, if_true, if_false, Nat.reduceEqDiff, reduceCtorEq, ↓reduceIte, Nat.reduceLT, Nat.reduceAdd, Nat.reduceMul, Nat.reduceSub, Nat.reduceLeDiff, Nat.reduceBEq, Int.reduceEq, Int.reduceNeg, tk, ntmps25, results25, s53, s59, s60, F53, F59, F57, fillA, placeT, s58, s54]
    refine hK5 _ ?_; clear hK5 K5
    refine seqK fun K5 hK5 => ?_
    simp only [bW, ↓splitB_true, ↓splitB_false, nilCmp, opConv, eq_self, if_true, if_false, Nat.reduceEqDiff, reduceCtorEq, ↓reduceIte, Nat.reduceLT, Nat.reduceAdd, Nat.reduceMul, Nat.reduceSub, Nat.reduceLeDiff, Nat.reduceBEq, Int.reduceEq, Int.reduceNeg, tk, ntmps25, results25, s53, s59, s60, F53, F59, F57, fillA, placeT, s58, s54]
    refine ⟨⟨by omega, by omega⟩, ?_⟩
    rw [hHa]
    simp only [bW, ↓splitB_true, ↓splitB_false, nilCmp, opConv, eq_self, if_true, if_false, Nat.reduceEqDiff, reduceCtorEq, ↓reduceIte, Nat.reduceLT, Nat.reduceAdd, Nat.reduceMul, Nat.reduceSub, Nat.reduceLeDiff, Nat.reduceBEq, Int.reduceEq, Int.reduceNeg, tk, ntmps25, results25, s53, s59, s60, F53, F59, F57, fillA, placeT, s58, s54]
    refine hK5 _ ?_; clear hK5 K5
    refine seqK fun K5 hK5 => ?_
    refine seqK fun K6 hK6 => ?_
    simp only [bW, ↓splitB_true, ↓splitB_false, nilCmp, opConv, eq_self, if_true, if_false, Nat.reduceEqDiff, reduceCtorEq, ↓reduceIte, Nat.reduceLT, Nat.reduceAdd, Nat.reduceMul, Nat.reduceSub, Nat.reduceLeDiff, Nat.reduceBEq, Int.reduceEq, Int.reduceNeg, tk, ntmps25, results25, s53, s59, s60, F53, F59, F57, fillA, placeT, s58, s54]
    refine ⟨by omega, ?_⟩
    rw [hHa]
    simp only [bW, ↓splitB_true, ↓splitB_false, nilCmp, opConv, eq_self, if_true, if_false, Nat.reduceEqDiff, reduceCtorEq, ↓reduceIte, Nat.reduceLT, Nat.reduceAdd, Nat.reduceMul, Nat.reduceSub, Nat.reduceLeDiff, Nat.reduceBEq, Int.reduceEq, Int.reduceNeg, tk, ntmps25, results25, s53, s59, s60, F53, F59, F57, fillA, placeT, s58, s54]
    refine hK6 _ ?_; clear hK6 K6
    rw [awp_block]
    refine awp_loop_sem (sem_split (k := 500005) (ve := ve) (i := a) (o := 5) (k' := 777777) (sz := 6) (z := 2) (xs := H) (ys := cs) rfl (by omega) (by decide) (by rw [hHa]; rfl) rfl rfl) ?_
    refine awp_loop_sem (sem_split (k := 500005) (ve := ve + 1) (i := a) (o := 2) (k' := 888888) (sz := 6) (z := 1) (xs := setCell H a 5 .u) (ys := ps) rfl (by rw [setCell_len]; omega) (by decide) (by rw [setCell_at (by omega), hHa]; rfl) rfl rfl) ?_
    have hH3 : (setCell (setCell H a 5 .u) a 2 .u).length = fs.length := by rw [setCell_len, setCell_len]; exact hH1
    have hH4 : ∀ b, b ≠ a → (setCell (setCell H a 5 .u) a 2 .u).getD b [] = H.getD b [] := fun b hb => by rw [setCell_ne hb, setCell_ne hb]
    generalize hHH : setCell (setCell H a 5 .u) a 2 .u = H2 at hH3 hH4
    refine loopW [1, 2, 3, 4, 5, 8, 22, 23, 24, 34, 35, 36] (fun x : Nat × Nat => stL 86 [(1, .a 500000 0), (2, .a 500001 0), (3, .a 500002 0), (4, .r 500003), (5, .r 500004), (8, .a 500005 0), (22, .r 500003), (23, .d (.i .i64 L.length)), (24, .d (.i .i64 i)), (34, .r 500006), (35, .d (.i .i64 cs.length)), (36, .d (.i .i64 x.1))] [(500000, some (.box [.d (.l 6 fs), .d (.l 1 ns)])), (500001, some (.box [.z 6, .z 1])), (500002, some (.box [.r 500007, .r 500008])), (500003, some (.row 1 L true false 0)), (500004, some (.row 6 ((L.take i).map (newFun fs L)) true false 0)), (500005, some (.box [.d (.s m), .d (.s w), .r 500009, .d (.i .i64 ty), .d (.i .i64 sl), .r 500006])), (500006, some (.row 2 (mix (movI fs.length L) cs x.1) true false x.2)), (500007, some (.row 6 H2 true false (ve + 2))), (500008, some (.row 1 ns true false 0)), (500009, some (.row 1 ps true false 0))]) (fun x => x.1 ≤ cs.length) (fun x => cs.length - x.1) ?_ ?_
    · refine ⟨?_, (0, 0), ?_, Nat.zero_le _⟩
      · simp only [bK, Nat.reduceEqDiff, reduceCtorEq, ↓reduceIte, Nat.reduceBEq, Nat.reduceLeDiff, Nat.reduceAdd, if_true, if_false, spS, spH, spA, spL, spM, spOb, Nat.reduceLT, if_false, and_false, false_and, false_or]
      · simp only [bK, Nat.reduceEqDiff, reduceCtorEq, ↓reduceIte, Nat.reduceBEq, Nat.reduceLeDiff, Nat.reduceAdd, if_true, if_false, spS, spH, spA, spL, spM, spOb, Nat.reduceLT, if_false, and_false, false_and, false_or]
        try rw [hHH]
        try rw [mix_zero]
        try rfl
    rintro ⟨k, vc⟩ hk
    simp only at hk ⊢
    refine seqK fun K6 hK6 => ?_
    simp only [bW, ↓splitB_true, ↓splitB_false, nilCmp, opConv, eq_self, if_true, if_false, Nat.reduceEqDiff, reduceCtorEq, ↓reduceIte, Nat.reduceLT, Nat.reduceAdd, Nat.reduceMul, Nat.reduceSub, Nat.reduceLeDiff, Nat.reduceBEq, Int.reduceEq, Int.reduceNeg, tk, ntmps25, results25, s53, s59, s60, F53, F59, F57, fillA, placeT, s58, s54]
    refine hK6 _ ?_; clear hK6 K6
    refine seqK fun K6 hK6 => ?_
    simp only [bW, ↓splitB_true, ↓splitB_false, nilCmp, opConv, eq_self, if_true, if_false, Nat.reduceEqDiff, reduceCtorEq, ↓reduceIte, Nat.reduceLT, Nat.reduceAdd, Nat.reduceMul, Nat.reduceSub, Nat.reduceLeDiff, Nat.reduceBEq, Int.reduceEq, Int.reduceNeg, tk, ntmps25, results25, s53, s59, s60, F53, F59, F57, fillA, placeT, s58, s54]
    refine splitB_intro (fun hb => hK6 _ ?_) (fun hb => hK5 _ ?_) <;> clear hK6 K6
    · have hltk := of_decide_eq_true hb
      clear hb
      have hltk : k < cs.length := by omega
      have hrow := shLL_get hc hltk
      have hmg := mix_get (f := movI fs.length L) hltk
      have hms := mix_set (f := movI fs.length L) hltk
      have hmm := mix_same (f := movI fs.length L) hltk
      have hml := mix_len (f := movI fs.length L) hk
      have hin := hins k hltk
      generalize hrw2 : cs.getD k [] = row2 at hrow hin hmg hms hmm
      obtain ⟨c1, q1, rfl, e1, hrow⟩ := shL_cons hrow
      obtain ⟨c2, q2, rfl, e2, hrow⟩ := shL_cons hrow
      obtain rfl := shL_nil hrow
      obtain ⟨op, rfl⟩ := shD_i e1
      obtain ⟨b, rfl⟩ := shD_i e2
      have hin : insP op b := of_decide_eq_true (show decide (insP op b) = true from hin)
      obtain ⟨i1, i2, i3⟩ := hin
      refine seqK fun K7 hK7 => ?_
      rw [awp_block]
      refine seqK fun K8 hK8 => ?_
      simp only [bW, ↓splitB_true, ↓splitB_false, nilCmp, opConv, eq_self, if_true, if_false, Nat.reduceEqDiff, reduceCtorEq, ↓reduceIte, Nat.reduceLT, Nat.reduceAdd, Nat.reduceMul, Nat.reduceSub, Nat.reduceLeDiff, Nat.reduceBEq, Int.reduceEq, Int.reduceNeg, tk, ntmps25, results25, s53, s59, s60, F53, F59, F57, fillA, placeT, s58, s54]
      refine ⟨⟨by omega, by omega⟩, ?_⟩
      rw [hmg]
      simp only [bW, ↓splitB_true, ↓splitB_false, nilCmp, opConv, eq_self, if_true, if_false, Nat.reduceEqDiff, reduceCtorEq, ↓reduceIte, Nat.reduceLT, Nat.reduceAdd, Nat.reduceMul, Nat.reduceSub, Nat.reduceLeDiff, Nat.reduceBEq, Int.reduceEq, Int.reduceNeg, tk, ntmps25, results25, s53, s59, s60, F53, F59, F57, fillA, placeT, s58, s54]
      refine hK8 _ ?_; clear hK8 K8
      refine seqK fun K8 hK8 => ?_
      simp only [bW, ↓splitB_true, ↓splitB_false, nilCmp, opConv, eq_self, if_true, if_false, Nat.reduceEqDiff, reduceCtorEq, ↓reduceIte, Nat.reduceLT, Nat.reduceAdd, Nat.reduceMul, Nat.reduceSub, Nat.reduceLeDiff, Nat.reduceBEq, Int.reduceEq, Int.reduceNeg, tk, ntmps25, results25, s53, s59, s60, F53, F59, F57, fillA, placeT, s58, s54]
      refine splitB_intro (fun hb => ?_) (fun hb => ?_)
      · have hb := of_decide_eq_true hb
        refine ⟨⟨by omega, by omega⟩, ?_⟩
        refine hK8 _ ?_; clear hK8 K8
        simp only [bW, ↓splitB_true, ↓splitB_false, nilCmp, opConv, eq_self, if_true, if_false, Nat.reduceEqDiff, reduceCtorEq, ↓reduceIte, Nat.reduceLT, Nat.reduceAdd, Nat.reduceMul, Nat.reduceSub, Nat.reduceLeDiff, Nat.reduceBEq, Int.reduceEq, Int.reduceNeg, tk, ntmps25, results25, s53, s59, s60, F53, F59, F57, fillA, placeT, s58, s54]
        refine splitB_intro (fun hb2 => ?_) (fun hb2 => ?_)
        · have hb2 := of_decide_eq_true hb2
          rw [movI_yes ⟨hb, hb2⟩] at hms
          refine awp_ord [0, 1, 2, 3, 4, 5, 6, 7, 8, 9] (fun i => [1, 1, 1, 1, 1, 1, 2, 0, 0, 0].getD i 0) (by decide +kernel) ?_
          simp only [bW, ↓splitB_true, ↓splitB_false, nilCmp, opConv, eq_self, if_true, if_false, Nat.reduceEqDiff, reduceCtorEq, ↓reduceIte, Nat.reduceLT, Nat.reduceAdd, Nat.reduceMul, Nat.reduceSub, Nat.reduceLeDiff, Nat.reduceBEq, Int.reduceEq, Int.reduceNeg, tk, ntmps25, results25, s60, F57, awpXs, xk_0, xk_1, xk_2, ext_refl, ext_upd, noneB]
          refine ⟨⟨hL1, by omega⟩, ?_⟩
          try simp only [bW, ↓splitB_true, ↓splitB_false, nilCmp, opConv, eq_self, if_true, if_false, Nat.reduceEqDiff, reduceCtorEq, ↓reduceIte, Nat.reduceLT, Nat.reduceAdd, Nat.reduceMul, Nat.reduceSub, Nat.reduceLeDiff, Nat.reduceBEq, Int.reduceEq, Int.reduceNeg, tk, ntmps25, results25, s60, F57, awpXs, xk_0, xk_1, xk_2, ext_refl, ext_upd, noneB]
          refine ⟨⟨by omega, by omega⟩, ?_⟩
          rw [hmg]
          simp only [bW, ↓splitB_true, ↓splitB_false, nilCmp, opConv, eq_self, if_true, if_false, Nat.reduceEqDiff, reduceCtorEq, ↓reduceIte, Nat.reduceLT, Nat.reduceAdd, Nat.reduceMul, Nat.reduceSub, Nat.reduceLeDiff, Nat.reduceBEq, Int.reduceEq, Int.reduceNeg, tk, ntmps25, results25, s60, F57, awpXs, xk_0, xk_1, xk_2, ext_refl, ext_upd, noneB]
          rw [hms]
          refine hK7 _ ?_; clear hK7 K7
          simp only [bW, ↓splitB_true, ↓splitB_false, nilCmp, opConv, eq_self, if_true, if_false, Nat.reduceEqDiff, reduceCtorEq, ↓reduceIte, Nat.reduceLT, Nat.reduceAdd, Nat.reduceMul, Nat.reduceSub, Nat.reduceLeDiff, Nat.reduceBEq, Int.reduceEq, Int.reduceNeg, tk, ntmps25, results25, s53, s59, s60, F53, F59, F57, fillA, placeT, s58, s54]
          simp (disch := omega) only [wrap64]
          refine ⟨?_, (k + 1, vc + 1), ?_, by show k + 1 ≤ _; omega, by show cs.length - (k + 1) < cs.length - k; omega⟩
          · simp only [bK, Nat.reduceEqDiff, reduceCtorEq, ↓reduceIte, Nat.reduceBEq, Nat.reduceLeDiff, Nat.reduceAdd, if_true, if_false]
          · simp only [bK, Nat.reduceEqDiff, reduceCtorEq, ↓reduceIte, Nat.reduceBEq, Nat.reduceLeDiff, Nat.reduceAdd, if_true, if_false]
            refine stL_eq ?_ ?_
            · simp only [Option.some.injEq, Ret.mk.injEq, List.cons.injEq, Prod.mk.injEq, AV.d.injEq, D.i.injEq, D.b.injEq, D.s.injEq, true_and, and_true]
              try omega
            · try rfl
        · have hb2 := of_decide_eq_false hb2
          have hmm := hmm (movI_no (fun h => hb2 h.2))
          refine hK7 _ ?_; clear hK7 K7
          simp only [bW, ↓splitB_true, ↓splitB_false, nilCmp, opConv, eq_self, if_true, if_false, Nat.reduceEqDiff, reduceCtorEq, ↓reduceIte, Nat.reduceLT, Nat.reduceAdd, Nat.reduceMul, Nat.reduceSub, Nat.reduceLeDiff, Nat.reduceBEq, Int.reduceEq, Int.reduceNeg, tk, ntmps25, results25, s53, s59, s60, F53, F59, F57, fillA, placeT, s58, s54]
          simp (disch := omega) only [wrap64]
          refine ⟨?_, (k + 1, vc), ?_, by show k + 1 ≤ _; omega, by show cs.length - (k + 1) < cs.length - k; omega⟩
          · simp only [bK, Nat.reduceEqDiff, reduceCtorEq, ↓reduceIte, Nat.reduceBEq, Nat.reduceLeDiff, Nat.reduceAdd, if_true, if_false]
          · simp only [bK, Nat.reduceEqDiff, reduceCtorEq, ↓reduceIte, Nat.reduceBEq, Nat.reduceLeDiff, Nat.reduceAdd, if_true, if_false]
            rw [hmm]
            refine stL_eq ?_ ?_
            · simp only [Option.some.injEq, Ret.mk.injEq, List.cons.injEq, Prod.mk.injEq, AV.d.injEq, D.i.injEq, D.b.injEq, D.s.injEq, true_and, and_true]
              try omega
            · try rfl
      · have hb := of_decide_eq_false hb
        have hmm := hmm (movI_no (fun h => hb h.1))
        refine hK8 _ ?_; clear hK8 K8
        simp only [bW, ↓splitB_true, ↓splitB_false, nilCmp, opConv, eq_self, if_true, if_false, Nat.reduceEqDiff, reduceCtorEq, ↓reduceIte, Nat.reduceLT, Nat.reduceAdd, Nat.reduceMul, Nat.reduceSub, Nat.reduceLeDiff, Nat.reduceBEq, Int.reduceEq, Int.reduceNeg, tk, ntmps25, results25, s53, s59, s60, F53, F59, F57, fillA, placeT, s58, s54]
        refine hK7 _ ?_; clear hK7 K7
        simp only [bW, ↓splitB_true, ↓splitB_false, nilCmp, opConv, eq_self, if_true, if_false, Nat.reduceEqDiff, reduceCtorEq, ↓reduceIte, Nat.reduceLT, Nat.reduceAdd, Nat.reduceMul, Nat.reduceSub, Nat.reduceLeDiff, Nat.reduceBEq, Int.reduceEq, Int.reduceNeg, tk, ntmps25, results25, s53, s59, s60, F53, F59, F57, fillA, placeT, s58, s54]
        simp (disch := omega) only [wrap64]
        refine ⟨?_, (k + 1, vc), ?_, by show k + 1 ≤ _; omega, by show cs.length - (k + 1) < cs.length - k; omega⟩
        · simp only [bK, Nat.reduceEqDiff, reduceCtorEq, ↓reduceIte, Nat.reduceBEq, Nat.reduceLeDiff, Nat.reduceAdd, if_true, if_false]
        · simp only [bK, Nat.reduceEqDiff, reduceCtorEq, ↓reduceIte, Nat.reduceBEq, Nat.reduceLeDiff, Nat.reduceAdd, if_true, if_false]
          rw [hmm]
          refine stL_eq ?_ ?_
          · simp only [Option.some.injEq, Ret.mk.injEq, List.cons.injEq, Prod.mk.injEq, AV.d.injEq, D.i.injEq, D.b.injEq, D.s.injEq, true_and, and_true]
            try omega
          · try rfl
    · have hge := of_decide_eq_false hb
      obtain rfl : k = cs.length := by omega
      clear hb hge
      rw [mix_all]
      simp only [bW, ↓splitB_true, ↓splitB_false, nilCmp, opConv, eq_self, if_true, if_false, Nat.reduceEqDiff, reduceCtorEq, ↓reduceIte, Nat.reduceLT, Nat.reduceAdd, Nat.reduceMul, Nat.reduceSub, Nat.reduceLeDiff, Nat.reduceBEq, Int.reduceEq, Int.reduceNeg, tk, ntmps25, results25, s53, s59, s60, F53, F59, F57, fillA, placeT, s58, s54]
      have htl : ((L.take i).map (newFun fs L)).length ≤ i := by rw [List.length_map, List.length_take]; omega
      refine ⟨⟨by omega, by omega⟩, ?_⟩
      refine hK4 _ ?_; clear hK5 K5 hK4 K4
      simp only [bW, ↓splitB_true, ↓splitB_false, nilCmp, opConv, eq_self, if_true, if_false, Nat.reduceEqDiff, reduceCtorEq, ↓reduceIte, Nat.reduceLT, Nat.reduceAdd, Nat.reduceMul, Nat.reduceSub, Nat.reduceLeDiff, Nat.reduceBEq, Int.reduceEq, Int.reduceNeg, tk, ntmps25, results25, s53, s59, s60, F53, F59, F57, fillA, placeT, s58, s54]
      simp (disch := omega) only [wrap64]
      refine ⟨?_, (i + 1, H2, ve + 2), ?_, ⟨by show i + 1 ≤ _; omega, hH3, fun j a' hj hjl hja => ?_⟩, by show L.length - (i + 1) < L.length - i; omega⟩
      · simp only [bK, Nat.reduceEqDiff, reduceCtorEq, ↓reduceIte, Nat.reduceBEq, Nat.reduceLeDiff, Nat.reduceAdd, if_true, if_false]
      · simp only [bK, Nat.reduceEqDiff, reduceCtorEq, ↓reduceIte, Nat.reduceBEq, Nat.reduceLeDiff, Nat.reduceAdd, if_true, if_false]
        rw [hts]
        refine stL_eq ?_ ?_
        · simp only [Option.some.injEq, Ret.mk.injEq, List.cons.injEq, Prod.mk.injEq, AV.d.injEq, D.i.injEq, D.b.injEq, D.s.injEq, true_and, and_true]
          try omega
        · try rfl
      · have hj : i + 1 ≤ j := hj
        have hne : a' ≠ a := fun e => hL4 i j (by omega) hjl (by rw [hLa, hja, e])
        show H2.getD a' [] = _
        rw [hH4 a' hne]
        exact hH2 j a' (by omega) hjl hja
  have hge := of_decide_eq_false hb
  obtain rfl : i = L.length := by omega
  clear hb hge
  rw [List.take_length]
  refine seqK fun K hK => ?_
  refine seqK fun K2 hK2 => ?_
  simp only [bW, ↓splitB_true, ↓splitB_false, nilCmp, opConv, eq_self, if_true, if_false, Nat.reduceEqDiff, reduceCtorEq, ↓reduceIte, Nat.reduceLT, Nat.reduceAdd, Nat.reduceMul, Nat.reduceSub, Nat.reduceLeDiff, Nat.reduceBEq, Int.reduceEq, Int.reduceNeg, tk, ntmps25, results25, s53, s59, s60, F53, F59, F57, fillA, placeT, s58, s54]
  refine hK2 _ ?_; clear hK2 K2
  rw [awp_block]
  refine loopW [2, 3, 4, 5, 68, 69, 70] (fun x : Nat × Nat => stL 86 [(2, .a 500000 0), (3, .a 500001 0), (4, .r 500002), (5, .r 500003), (68, .r 500004), (69, .d (.i .i64 ns.length)), (70, .d (.i .i64 x.1))] [(500000, some (.box [.z 6, .z 1])), (500001, some (.box [.r 500005, .r 500004])), (500002, some (.row 1 L true false 0)), (500003, some (.row 6 (L.map (newFun fs L)) true false 0)), (500004, some (.row 1 (mix (newMain L) ns x.1) true false x.2)), (500005, some (.row 6 H true false ve))]) (fun x => x.1 ≤ ns.length) (fun x => ns.length - x.1) ?_ ?_
  · refine ⟨?_, (0, 0), ?_, Nat.zero_le _⟩
    · simp only [bK, Nat.reduceEqDiff, reduceCtorEq, ↓reduceIte, Nat.reduceBEq, Nat.reduceLeDiff, Nat.reduceAdd, if_true, if_false]
    · simp only [bK, Nat.reduceEqDiff, reduceCtorEq, ↓reduceIte, Nat.reduceBEq, Nat.reduceLeDiff, Nat.reduceAdd, if_true, if_false]
      rw [mix_zero]
      try rfl
  rintro ⟨i, vm⟩ hin
  simp only at hin ⊢
  refine seqK fun K3 hK3 => ?_
  simp only [bW, ↓splitB_true, ↓splitB_false, nilCmp, opConv, eq_self, if_true, if_false, Nat.reduceEqDiff, reduceCtorEq, ↓reduceIte, Nat.reduceLT, Nat.reduceAdd, Nat.reduceMul, Nat.reduceSub, Nat.reduceLeDiff, Nat.reduceBEq, Int.reduceEq, Int.reduceNeg, tk, ntmps25, results25, s53, s59, s60, F53, F59, F57, fillA, placeT, s58, s54]
  refine hK3 _ ?_; clear hK3 K3
  refine seqK fun K3 hK3 => ?_
  simp only [bW, ↓splitB_true, ↓splitB_false, nilCmp, opConv, eq_self, if_true, if_false, Nat.reduceEqDiff, reduceCtorEq, ↓reduceIte, Nat.reduceLT, Nat.reduceAdd, Nat.reduceMul, Nat.reduceSub, Nat.reduceLeDiff, Nat.reduceBEq, Int.reduceEq, Int.reduceNeg, tk, ntmps25, results25, s53, s59, s60, F53, F59, F57, fillA, placeT, s58, s54]
  refine splitB_intro (fun hb => hK3 _ ?_) (fun hb => hK _ ?_) <;> clear hK3 K3
  · have hlt := of_decide_eq_true hb
    clear hb
    have hlt : i < ns.length := by omega
    have hrow := shLL_get h5 hlt
    have hmg := mix_get (f := newMain L) hlt
    have hms := mix_set (f := newMain L) hlt
    have hml := mix_len (f := newMain L) hin
    generalize hrw : ns.getD i [] = row at hrow hmg hms
    obtain ⟨c1, q1, rfl, e1, hrow⟩ := shL_cons hrow
    obtain rfl := shL_nil hrow
    obtain ⟨v, rfl⟩ := shD_i e1
    have hnm : newMain L [.i .i64 v] = [.i .i64 (idxN L v)] := rfl
    rw [hnm] at hms
    refine seqK fun K4 hK4 => ?_
    rw [awp_block]
    refine seqK fun K5 hK5 => ?_
    simp only [bW, ↓splitB_true, ↓splitB_false, nilCmp, opConv, eq_self, if_true, if_false, Nat.reduceEqDiff, reduceCtorEq, ↓reduceIte, Nat.reduceLT, Nat.reduceAdd, Nat.reduceMul, Nat.reduceSub, Nat.reduceLeDiff, Nat.reduceBEq, Int.reduceEq, Int.reduceNeg, tk, ntmps25, results25, s53, s59, s60, F53, F59, F57, fillA, placeT, s58, s54]
    refine ⟨⟨by omega, by omega⟩, ?_⟩
    rw [hmg]
    simp only [bW, ↓splitB_true, ↓splitB_false, nilCmp, opConv, eq_self, if_true, if_false, Nat.reduceEqDiff, reduceCtorEq, ↓reduceIte, Nat.reduceLT, Nat.reduceAdd, Nat.reduceMul, Nat.reduceSub, Nat.reduceLeDiff, Nat.reduceBEq, Int.reduceEq, Int.reduceNeg, tk, ntmps25, results25, s53, s59, s60, F53, F59, F57, fillA, placeT, s58, s54]
    refine hK5 _ ?_; clear hK5 K5
    refine awp_ord [0, 1, 2, 3, 4, 5, 6, 7] (fun i => [1, 1, 1, 1, 1, 2, 0, 0].getD i 0) (by decide +kernel) ?_
    simp only [bW, ↓splitB_true, ↓splitB_false, nilCmp, opConv, eq_self, if_true, if_false, Nat.reduceEqDiff, reduceCtorEq, ↓reduceIte, Nat.reduceLT, Nat.reduceAdd, Nat.reduceMul, Nat.reduceSub, Nat.reduceLeDiff, Nat.reduceBEq, Int.reduceEq, Int.reduceNeg, tk, ntmps25, results25, s60, F57, awpXs, xk_0, xk_1, xk_2, ext_refl, ext_upd, noneB]
    refine ⟨⟨hL1, by omega⟩, ?_⟩
    try simp only [bW, ↓splitB_true, ↓splitB_false, nilCmp, opConv, eq_self, if_true, if_false, Nat.reduceEqDiff, reduceCtorEq, ↓reduceIte, Nat.reduceLT, Nat.reduceAdd, Nat.reduceMul, Nat.reduceSub, Nat.reduceLeDiff, Nat.reduceBEq, Int.reduceEq, Int.reduceNeg, tk, ntmps25, results25, s60, F57, awpXs, xk_0, xk_1, xk_2, ext_refl, ext_upd, noneB]
    refine ⟨⟨by omega, by omega⟩, ?_⟩
    rw [hmg]
    try simp only [bW, ↓splitB_true, ↓splitB_false, nilCmp, opConv, eq_self, if_true, if_false, Nat.reduceEqDiff, reduceCtorEq, ↓reduceIte, Nat.reduceLT, Nat.reduceAdd, Nat.reduceMul, Nat.reduceSub, Nat.reduceLeDiff, Nat.reduceBEq, Int.reduceEq, Int.reduceNeg, tk, ntmps25, results25, s60, F57, awpXs, xk_0, xk_1, xk_2, ext_refl, ext_upd, noneB]
    rw [hms]
    refine hK4 _ ?_; clear hK4 K4
    simp only [bW, ↓splitB_true, ↓splitB_false, nilCmp, opConv, eq_self, if_true, if_false, Nat.reduceEqDiff, reduceCtorEq, ↓reduceIte, Nat.reduceLT, Nat.reduceAdd, Nat.reduceMul, Nat.reduceSub, Nat.reduceLeDiff, Nat.reduceBEq, Int.reduceEq, Int.reduceNeg, tk, ntmps25, results25, s53, s59, s60, F53, F59, F57, fillA, placeT, s58, s54]
    simp (disch := omega) only [wrap64]
    refine ⟨?_, (i + 1, vm + 1), ?_, by show i + 1 ≤ _; omega, by show ns.length - (i + 1) < ns.length - i; omega⟩
    · simp only [bK, Nat.reduceEqDiff, reduceCtorEq, ↓reduceIte, Nat.reduceBEq, Nat.reduceLeDiff, Nat.reduceAdd, if_true, if_false]
    · simp only [bK, Nat.reduceEqDiff, reduceCtorEq, ↓reduceIte, Nat.reduceBEq, Nat.reduceLeDiff, Nat.reduceAdd, if_true, if_false]
      refine stL_eq ?_ ?_
      · simp only [Option.some.injEq, Ret.mk.injEq, List.cons.injEq, Prod.mk.injEq, AV.d.injEq, D.i.injEq, D.b.injEq, D.s.injEq, true_and, and_true]
        try omega
      · try rfl
  have hge := of_decide_eq_false hb
  obtain rfl : i = ns.length := by omega
  clear hb hge
  rw [mix_all]
  simp only [bW, ↓splitB_true, ↓splitB_false, nilCmp, opConv, eq_self, if_true, if_false, Nat.reduceEqDiff, reduceCtorEq, ↓reduceIte, Nat.reduceLT, Nat.reduceAdd, Nat.reduceMul, Nat.reduceSub, Nat.reduceLeDiff, Nat.reduceBEq, Int.reduceEq, Int.reduceNeg, tk, ntmps25, results25, s53, s59, s60, F53, F59, F57, fillA, placeT, s58, s54]
  rw [hans]

end Go.Fs.Sr
