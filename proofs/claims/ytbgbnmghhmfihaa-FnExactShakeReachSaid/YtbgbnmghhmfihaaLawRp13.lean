/- A part of the proof: an evaluator of the program's code over plain data, proved sound, and walks of the program's functions by it. No conditions beyond those in the theorems. -/
import Derived.Test.YtbgbnmghhmfihaaLawRp9
import Derived.Test.YtbgbnmghhmfihaaLawRp10
set_option linter.unusedVariables false
set_option linter.unusedSimpArgs false
set_option maxRecDepth 20000
set_option maxHeartbeats 2000000
namespace Go.Fs.Sr
open Go.Proofs.Try

theorem f44_ok {S : Nat → Option Summ} (hS : SumOK prog S) (ds : List D) (r : D) (hr : mtP ds = some r) : FnOK prog 44 (ds.map .d) { ret := r } := by
  obtain ⟨k, rfl, h1, rfl⟩ := mtP_inv hr
  clear hr
  refine fnOK_awp (A := ⟨tab, S, .x⟩) tab_ok hS mixed func44 rfl rfl rfl rfl (by show 1 ≤ 20; decide) rfl ?_
  refine seqK fun K hK => ?_
  simp only [bW, ↓splitB_true, ↓splitB_false, nilCmp, opConv, eq_self, if_true, if_false, Nat.reduceEqDiff, reduceCtorEq, ↓reduceIte, Nat.reduceLT, Nat.reduceAdd, Nat.reduceMul, Nat.reduceSub, Nat.reduceLeDiff, Nat.reduceBEq, Int.reduceEq, Int.reduceNeg, tk, ntmps44, results44, opB2S, byteL]
  refine hK _ ?_; clear hK K
  refine seqK fun K hK => ?_
  simp only [bW, ↓splitB_true, ↓splitB_false, nilCmp, opConv, eq_self, if_true, if_false, Nat.reduceEqDiff, reduceCtorEq, ↓reduceIte, Nat.reduceLT, Nat.reduceAdd, Nat.reduceMul, Nat.reduceSub, Nat.reduceLeDiff, Nat.reduceBEq, Int.reduceEq, Int.reduceNeg, tk, ntmps44, results44, opB2S, byteL]
  refine splitB_intro (fun hb => ?_) (fun hb => hK _ ?_) <;> clear hK K
  · have hb := of_decide_eq_true hb
    rw [mtext_neg hb]
  have hb := of_decide_eq_false hb
  refine seqK fun K hK => ?_
  simp only [bW, ↓splitB_true, ↓splitB_false, nilCmp, opConv, eq_self, if_true, if_false, Nat.reduceEqDiff, reduceCtorEq, ↓reduceIte, Nat.reduceLT, Nat.reduceAdd, Nat.reduceMul, Nat.reduceSub, Nat.reduceLeDiff, Nat.reduceBEq, Int.reduceEq, Int.reduceNeg, tk, ntmps44, results44, opB2S, byteL]
  refine hK _ ?_; clear hK K
  refine seqK fun K hK => ?_
  rw [awp_block]
  refine loopW [0, 3] (fun x : Nat × ByteArray => stL 20 [(0, .d (.i .i64 x.1)), (3, .d (.s x.2))] []) (fun x => mtGo k.toNat .empty = mtGo x.1 x.2 ∧ x.2.size + x.1 ≤ k.toNat) (fun x => x.1) ?_ ?_
  · refine ⟨?_, (k.toNat, .empty), ?_, rfl, ?_⟩
    · simp only [bK, Nat.reduceEqDiff, reduceCtorEq, ↓reduceIte, Nat.reduceBEq, Nat.reduceLeDiff, Nat.reduceAdd, if_true, if_false]
    · simp only [bK, Nat.reduceEqDiff, reduceCtorEq, ↓reduceIte, Nat.reduceBEq, Nat.reduceLeDiff, Nat.reduceAdd, if_true, if_false]
      refine stL_eq ?_ rfl
      simp only [Option.some.injEq, Ret.mk.injEq, List.cons.injEq, Prod.mk.injEq, AV.d.injEq, D.i.injEq, D.b.injEq, D.s.injEq, true_and, and_true]
      exact ⟨by omega, rfl⟩
    · show (0 : Nat) + _ ≤ _
      omega
  rintro ⟨m, out⟩ ⟨hm, hs⟩
  simp only at hm hs
  refine seqK fun K3 hK3 => ?_
  simp only [bW, ↓splitB_true, ↓splitB_false, nilCmp, opConv, eq_self, if_true, if_false, Nat.reduceEqDiff, reduceCtorEq, ↓reduceIte, Nat.reduceLT, Nat.reduceAdd, Nat.reduceMul, Nat.reduceSub, Nat.reduceLeDiff, Nat.reduceBEq, Int.reduceEq, Int.reduceNeg, tk, ntmps44, results44, opB2S, byteL]
  refine splitB_intro (fun hb => hK3 _ ?_) (fun hb => hK _ ?_) <;> clear hK3 K3
  · have hlt := of_decide_eq_true hb
    clear hb
    have hlt : 0 < m := by omega
    simp only [bW, ↓splitB_true, ↓splitB_false, nilCmp, opConv, eq_self, if_true, if_false, Nat.reduceEqDiff, reduceCtorEq, ↓reduceIte, Nat.reduceLT, Nat.reduceAdd, Nat.reduceMul, Nat.reduceSub, Nat.reduceLeDiff, Nat.reduceBEq, Int.reduceEq, Int.reduceNeg, tk, ntmps44, results44, opB2S, byteL]
    simp only [tmod10, tdiv10]
    rw [wrap64 (by omega) (by omega), wrapu8 (by omega) (by omega)]
    refine ⟨by rw [bytesS_one]; omega, ?_⟩
    have e := mtGo_pos (out := out) hlt
    try simp (disch := omega) only [wrap64]
    refine ⟨?_, (m / 10, bytesS [48 + (m : Int) % 10] ++ out), ?_, ⟨?_, ?_⟩, ?_⟩
    · simp only [bK, Nat.reduceEqDiff, reduceCtorEq, ↓reduceIte, Nat.reduceBEq, Nat.reduceLeDiff, Nat.reduceAdd, if_true, if_false]
    · simp only [bK, Nat.reduceEqDiff, reduceCtorEq, ↓reduceIte, Nat.reduceBEq, Nat.reduceLeDiff, Nat.reduceAdd, if_true, if_false]
      try rfl
    · rw [hm, e]
    · show (_ ++ out).size + m / 10 ≤ _
      rw [ByteArray.size_append, bytesS_one]
      omega
    · show m / 10 < m
      omega
  · have hge := of_decide_eq_false hb
    have e : m = 0 := by omega
    subst e
    simp only [bW, ↓splitB_true, ↓splitB_false, nilCmp, opConv, eq_self, if_true, if_false, Nat.reduceEqDiff, reduceCtorEq, ↓reduceIte, Nat.reduceLT, Nat.reduceAdd, Nat.reduceMul, Nat.reduceSub, Nat.reduceLeDiff, Nat.reduceBEq, Int.reduceEq, Int.reduceNeg, tk, ntmps44, results44, opB2S, byteL]
    refine ⟨?_, ?_⟩
    · show 1 + out.size ≤ _
      omega
    · rw [mtext_pos (by omega), hm, mtGo_zero]

theorem f22_ok {S : Nat → Option Summ} (hS : SumOK prog S) (x : D) (ds : List D) (r : D × D) (hr : markP [.i] x ds = some r) : FnOK prog 22 (.io x :: ds.map .d) { ret := r.1, io := some r.2 } := by
  obtain ⟨xs, k, rfl, rfl, h1, h2, h2', h3, h4, rfl⟩ := markP_inv hr
  clear hr
  have hsz : ([.i] : List Sh).length = 1 := rfl
  rw [hsz]
  refine fnOK_awp (A := ⟨tab, S, .r 900000⟩) tab_ok hS mixed func22 rfl rfl rfl rfl (by show 2 ≤ 19; decide) rfl ?_
  refine seqK fun K hK => ?_
  simp only [bW, ↓splitB_true, ↓splitB_false, nilCmp, opConv, eq_self, if_true, if_false, Nat.reduceEqDiff, reduceCtorEq, ↓reduceIte, Nat.reduceLT, Nat.reduceAdd, Nat.reduceMul, Nat.reduceSub, Nat.reduceLeDiff, Nat.reduceBEq, Int.reduceEq, Int.reduceNeg, tk, ntmps22, results22]
  refine hK _ ?_; clear hK K
  refine seqK fun K hK => ?_
  refine seqK fun K2 hK2 => ?_
  simp only [bW, ↓splitB_true, ↓splitB_false, nilCmp, opConv, eq_self, if_true, if_false, Nat.reduceEqDiff, reduceCtorEq, ↓reduceIte, Nat.reduceLT, Nat.reduceAdd, Nat.reduceMul, Nat.reduceSub, Nat.reduceLeDiff, Nat.reduceBEq, Int.reduceEq, Int.reduceNeg, tk, ntmps22, results22]
  refine hK2 _ ?_; clear hK2 K2
  rw [awp_block]
  refine loopW [0, 1, 5] (fun x : Nat × Nat => stL 19 [(0, .r 900000), (1, .d (.i .i64 (markLL (xs.take x.1) k).2)), (5, .d (.i .i64 x.1))] [(900000, some (.row 1 (half xs k x.1) true false x.2))]) (fun x => x.1 ≤ xs.length) (fun x => xs.length - x.1) ?_ ?_
  · refine ⟨?_, (0, 0), ?_, ?_⟩
    · simp only [bK, Nat.reduceEqDiff, reduceCtorEq, ↓reduceIte, Nat.reduceBEq, Nat.reduceLeDiff, Nat.reduceAdd, if_true, if_false]
    · simp only [bK, Nat.reduceEqDiff, reduceCtorEq, ↓reduceIte, Nat.reduceBEq, Nat.reduceLeDiff, Nat.reduceAdd, if_true, if_false]
      refine stL_eq ?_ ?_
      · simp only [Option.some.injEq, Ret.mk.injEq, List.cons.injEq, Prod.mk.injEq, AV.d.injEq, D.i.injEq, D.b.injEq, D.s.injEq, true_and, and_true]
        exact ⟨by simp only [List.take_zero, markLL], rfl⟩
      · simp only [half_zero]
    · show 0 ≤ _
      omega
  rintro ⟨i, ve⟩ hi
  simp only at hi
  have hlen := half_len (k := k) hi
  have hlv := half_lv (k := k) hi
  have hkk := markLL_k (xs.take i) k
  refine seqK fun K3 hK3 => ?_
  simp only [bW, ↓splitB_true, ↓splitB_false, nilCmp, opConv, eq_self, if_true, if_false, Nat.reduceEqDiff, reduceCtorEq, ↓reduceIte, Nat.reduceLT, Nat.reduceAdd, Nat.reduceMul, Nat.reduceSub, Nat.reduceLeDiff, Nat.reduceBEq, Int.reduceEq, Int.reduceNeg, tk, ntmps22, results22]
  refine splitB_intro (fun hb => hK3 _ ?_) (fun hb => hK _ ?_) <;> clear hK3 K3
  · have hlt := of_decide_eq_true hb
    clear hb
    have hlt : i < xs.length := by omega
    have hrow := shLL_get h1 hlt
    have hln := lnLL_get h2' hlt
    have hget := half_get (k := k) hlt
    have hst := half_set (k := k) hlt
    have hk2 := half_k (k := k) hlt
    have hls := lvLL_step hlt
    generalize hrw : xs.getD i [] = row at hrow hln hget hst hk2 hls
    generalize hL : half xs k i = L at hlen hget hst
    generalize hkv : (markLL (xs.take i) k).2 = kk at hlv hkk hst hk2
    have hltL : i < L.length := by omega
    obtain ⟨ct1, qt1, rfl, et1, hrow⟩ := shL_cons hrow
    obtain rfl := shL_nil hrow
    obtain ⟨t1, rfl⟩ := shD_i et1
    simp only [lnL_cons, lnL_nil, lnD_s, lnD_i, lnD_b, lnD_l, and_true, true_and] at hln
    simp only [markL, markC] at hst hk2
    simp only [lvL, lv] at hls
    refine seqK fun K4 hK4 => ?_
    rw [awp_block]
    refine seqK fun K5 hK5 => ?_
    simp only [bW, ↓splitB_true, ↓splitB_false, nilCmp, opConv, eq_self, if_true, if_false, Nat.reduceEqDiff, reduceCtorEq, ↓reduceIte, Nat.reduceLT, Nat.reduceAdd, Nat.reduceMul, Nat.reduceSub, Nat.reduceLeDiff, Nat.reduceBEq, Int.reduceEq, Int.reduceNeg, tk, ntmps22, results22, setCell, List.set_cons_zero, List.set_cons_succ, len_set2, set_set2, hget, getD_set2 hltL]
    refine ⟨⟨by omega, by omega⟩, ?_⟩
    try simp only [bW, ↓splitB_true, ↓splitB_false, nilCmp, opConv, eq_self, if_true, if_false, Nat.reduceEqDiff, reduceCtorEq, ↓reduceIte, Nat.reduceLT, Nat.reduceAdd, Nat.reduceMul, Nat.reduceSub, Nat.reduceLeDiff, Nat.reduceBEq, Int.reduceEq, Int.reduceNeg, tk, ntmps22, results22, setCell, List.set_cons_zero, List.set_cons_succ, len_set2, set_set2, hget, getD_set2 hltL]
    refine hK5 _ ?_; clear hK5 K5
    simp only [bW, ↓splitB_true, ↓splitB_false, nilCmp, opConv, eq_self, if_true, if_false, Nat.reduceEqDiff, reduceCtorEq, ↓reduceIte, Nat.reduceLT, Nat.reduceAdd, Nat.reduceMul, Nat.reduceSub, Nat.reduceLeDiff, Nat.reduceBEq, Int.reduceEq, Int.reduceNeg, tk, ntmps22, results22, setCell, List.set_cons_zero, List.set_cons_succ, len_set2, set_set2, hget, getD_set2 hltL]
    simp (disch := omega) only [wrap64]
    refine hK4 _ ?_; clear hK4 K4
    simp only [bW, ↓splitB_true, ↓splitB_false, nilCmp, opConv, eq_self, if_true, if_false, Nat.reduceEqDiff, reduceCtorEq, ↓reduceIte, Nat.reduceLT, Nat.reduceAdd, Nat.reduceMul, Nat.reduceSub, Nat.reduceLeDiff, Nat.reduceBEq, Int.reduceEq, Int.reduceNeg, tk, ntmps22, results22]
    try simp (disch := omega) only [wrap64]
    refine ⟨?_, (i + 1, ve + 1), ?_, ?_, ?_⟩
    · simp only [bK, Nat.reduceEqDiff, reduceCtorEq, ↓reduceIte, Nat.reduceBEq, Nat.reduceLeDiff, Nat.reduceAdd, if_true, if_false]
    · simp only [bK, Nat.reduceEqDiff, reduceCtorEq, ↓reduceIte, Nat.reduceBEq, Nat.reduceLeDiff, Nat.reduceAdd, if_true, if_false]
      refine stL_eq ?_ ?_
      · simp only [Option.some.injEq, Ret.mk.injEq, List.cons.injEq, Prod.mk.injEq, AV.d.injEq, D.i.injEq, D.b.injEq, D.s.injEq, true_and, and_true]
        simp only [hk2]
        exact ⟨trivial, by omega⟩
      · simp only [← hst]
    · show i + 1 ≤ xs.length
      omega
    · show xs.length - (i + 1) < xs.length - i
      omega
  · have hge := of_decide_eq_false hb
    have e : i = xs.length := by omega
    subst e
    simp only [half_all, List.take_length]
    simp only [bW, ↓splitB_true, ↓splitB_false, nilCmp, opConv, eq_self, if_true, if_false, Nat.reduceEqDiff, reduceCtorEq, ↓reduceIte, Nat.reduceLT, Nat.reduceAdd, Nat.reduceMul, Nat.reduceSub, Nat.reduceLeDiff, Nat.reduceBEq, Int.reduceEq, Int.reduceNeg, tk, ntmps22, results22]
    try simp only [Option.some.injEq, Ret.mk.injEq, List.cons.injEq, Prod.mk.injEq, AV.d.injEq, D.i.injEq, D.b.injEq, D.s.injEq, true_and, and_true]

theorem f97_ok {S : Nat → Option Summ} (hS : SumOK prog S) (x : D) (ds : List D) (r : D × D) (hr : markP ins2 x ds = some r) : FnOK prog 97 (.io x :: ds.map .d) { ret := r.1, io := some r.2 } := by
  obtain ⟨xs, k, rfl, rfl, h1, h2, h2', h3, h4, rfl⟩ := markP_inv hr
  clear hr
  have hsz : (ins2 : List Sh).length = 2 := rfl
  rw [hsz]
  refine fnOK_awp (A := ⟨tab, S, .r 900000⟩) tab_ok hS mixed func97 rfl rfl rfl rfl (by show 2 ≤ 27; decide) rfl ?_
  refine seqK fun K hK => ?_
  simp only [bW, ↓splitB_true, ↓splitB_false, nilCmp, opConv, eq_self, if_true, if_false, Nat.reduceEqDiff, reduceCtorEq, ↓reduceIte, Nat.reduceLT, Nat.reduceAdd, Nat.reduceMul, Nat.reduceSub, Nat.reduceLeDiff, Nat.reduceBEq, Int.reduceEq, Int.reduceNeg, tk, ntmps97, results97]
  refine hK _ ?_; clear hK K
  refine seqK fun K hK => ?_
  refine seqK fun K2 hK2 => ?_
  simp only [bW, ↓splitB_true, ↓splitB_false, nilCmp, opConv, eq_self, if_true, if_false, Nat.reduceEqDiff, reduceCtorEq, ↓reduceIte, Nat.reduceLT, Nat.reduceAdd, Nat.reduceMul, Nat.reduceSub, Nat.reduceLeDiff, Nat.reduceBEq, Int.reduceEq, Int.reduceNeg, tk, ntmps97, results97]
  refine hK2 _ ?_; clear hK2 K2
  rw [awp_block]
  refine loopW [0, 1, 5] (fun x : Nat × Nat => stL 27 [(0, .r 900000), (1, .d (.i .i64 (markLL (xs.take x.1) k).2)), (5, .d (.i .i64 x.1))] [(900000, some (.row 2 (half xs k x.1) true false x.2))]) (fun x => x.1 ≤ xs.length) (fun x => xs.length - x.1) ?_ ?_
  · refine ⟨?_, (0, 0), ?_, ?_⟩
    · simp only [bK, Nat.reduceEqDiff, reduceCtorEq, ↓reduceIte, Nat.reduceBEq, Nat.reduceLeDiff, Nat.reduceAdd, if_true, if_false]
    · simp only [bK, Nat.reduceEqDiff, reduceCtorEq, ↓reduceIte, Nat.reduceBEq, Nat.reduceLeDiff, Nat.reduceAdd, if_true, if_false]
      refine stL_eq ?_ ?_
      · simp only [Option.some.injEq, Ret.mk.injEq, List.cons.injEq, Prod.mk.injEq, AV.d.injEq, D.i.injEq, D.b.injEq, D.s.injEq, true_and, and_true]
        exact ⟨by simp only [List.take_zero, markLL], rfl⟩
      · simp only [half_zero]
    · show 0 ≤ _
      omega
  rintro ⟨i, ve⟩ hi
  simp only at hi
  have hlen := half_len (k := k) hi
  have hlv := half_lv (k := k) hi
  have hkk := markLL_k (xs.take i) k
  refine seqK fun K3 hK3 => ?_
  simp only [bW, ↓splitB_true, ↓splitB_false, nilCmp, opConv, eq_self, if_true, if_false, Nat.reduceEqDiff, reduceCtorEq, ↓reduceIte, Nat.reduceLT, Nat.reduceAdd, Nat.reduceMul, Nat.reduceSub, Nat.reduceLeDiff, Nat.reduceBEq, Int.reduceEq, Int.reduceNeg, tk, ntmps97, results97]
  refine splitB_intro (fun hb => hK3 _ ?_) (fun hb => hK _ ?_) <;> clear hK3 K3
  · have hlt := of_decide_eq_true hb
    clear hb
    have hlt : i < xs.length := by omega
    have hrow := shLL_get h1 hlt
    have hln := lnLL_get h2' hlt
    have hget := half_get (k := k) hlt
    have hst := half_set (k := k) hlt
    have hk2 := half_k (k := k) hlt
    have hls := lvLL_step hlt
    generalize hrw : xs.getD i [] = row at hrow hln hget hst hk2 hls
    generalize hL : half xs k i = L at hlen hget hst
    generalize hkv : (markLL (xs.take i) k).2 = kk at hlv hkk hst hk2
    have hltL : i < L.length := by omega
    obtain ⟨ct1, qt1, rfl, et1, hrow⟩ := shL_cons hrow
    obtain ⟨ct2, qt2, rfl, et2, hrow⟩ := shL_cons hrow
    obtain rfl := shL_nil hrow
    obtain ⟨t1, rfl⟩ := shD_i et1
    obtain ⟨t2, rfl⟩ := shD_i et2
    simp only [lnL_cons, lnL_nil, lnD_s, lnD_i, lnD_b, lnD_l, and_true, true_and] at hln
    simp only [markL, markC] at hst hk2
    simp only [lvL, lv] at hls
    refine seqK fun K4 hK4 => ?_
    rw [awp_block]
    refine seqK fun K5 hK5 => ?_
    simp only [bW, ↓splitB_true, ↓splitB_false, nilCmp, opConv, eq_self, if_true, if_false, Nat.reduceEqDiff, reduceCtorEq, ↓reduceIte, Nat.reduceLT, Nat.reduceAdd, Nat.reduceMul, Nat.reduceSub, Nat.reduceLeDiff, Nat.reduceBEq, Int.reduceEq, Int.reduceNeg, tk, ntmps97, results97, setCell, List.set_cons_zero, List.set_cons_succ, len_set2, set_set2, hget, getD_set2 hltL]
    refine ⟨⟨by omega, by omega⟩, ?_⟩
    try simp only [bW, ↓splitB_true, ↓splitB_false, nilCmp, opConv, eq_self, if_true, if_false, Nat.reduceEqDiff, reduceCtorEq, ↓reduceIte, Nat.reduceLT, Nat.reduceAdd, Nat.reduceMul, Nat.reduceSub, Nat.reduceLeDiff, Nat.reduceBEq, Int.reduceEq, Int.reduceNeg, tk, ntmps97, results97, setCell, List.set_cons_zero, List.set_cons_succ, len_set2, set_set2, hget, getD_set2 hltL]
    refine hK5 _ ?_; clear hK5 K5
    refine seqK fun K5 hK5 => ?_
    simp only [bW, ↓splitB_true, ↓splitB_false, nilCmp, opConv, eq_self, if_true, if_false, Nat.reduceEqDiff, reduceCtorEq, ↓reduceIte, Nat.reduceLT, Nat.reduceAdd, Nat.reduceMul, Nat.reduceSub, Nat.reduceLeDiff, Nat.reduceBEq, Int.reduceEq, Int.reduceNeg, tk, ntmps97, results97, setCell, List.set_cons_zero, List.set_cons_succ, len_set2, set_set2, hget, getD_set2 hltL]
    simp (disch := omega) only [wrap64]
    refine hK5 _ ?_; clear hK5 K5
    refine seqK fun K5 hK5 => ?_
    simp only [bW, ↓splitB_true, ↓splitB_false, nilCmp, opConv, eq_self, if_true, if_false, Nat.reduceEqDiff, reduceCtorEq, ↓reduceIte, Nat.reduceLT, Nat.reduceAdd, Nat.reduceMul, Nat.reduceSub, Nat.reduceLeDiff, Nat.reduceBEq, Int.reduceEq, Int.reduceNeg, tk, ntmps97, results97, setCell, List.set_cons_zero, List.set_cons_succ, len_set2, set_set2, hget, getD_set2 hltL]
    refine ⟨⟨by omega, by omega⟩, ?_⟩
    try simp only [bW, ↓splitB_true, ↓splitB_false, nilCmp, opConv, eq_self, if_true, if_false, Nat.reduceEqDiff, reduceCtorEq, ↓reduceIte, Nat.reduceLT, Nat.reduceAdd, Nat.reduceMul, Nat.reduceSub, Nat.reduceLeDiff, Nat.reduceBEq, Int.reduceEq, Int.reduceNeg, tk, ntmps97, results97, setCell, List.set_cons_zero, List.set_cons_succ, len_set2, set_set2, hget, getD_set2 hltL]
    refine hK5 _ ?_; clear hK5 K5
    simp only [bW, ↓splitB_true, ↓splitB_false, nilCmp, opConv, eq_self, if_true, if_false, Nat.reduceEqDiff, reduceCtorEq, ↓reduceIte, Nat.reduceLT, Nat.reduceAdd, Nat.reduceMul, Nat.reduceSub, Nat.reduceLeDiff, Nat.reduceBEq, Int.reduceEq, Int.reduceNeg, tk, ntmps97, results97, setCell, List.set_cons_zero, List.set_cons_succ, len_set2, set_set2, hget, getD_set2 hltL]
    simp (disch := omega) only [wrap64]
    refine hK4 _ ?_; clear hK4 K4
    simp only [bW, ↓splitB_true, ↓splitB_false, nilCmp, opConv, eq_self, if_true, if_false, Nat.reduceEqDiff, reduceCtorEq, ↓reduceIte, Nat.reduceLT, Nat.reduceAdd, Nat.reduceMul, Nat.reduceSub, Nat.reduceLeDiff, Nat.reduceBEq, Int.reduceEq, Int.reduceNeg, tk, ntmps97, results97]
    try simp (disch := omega) only [wrap64]
    refine ⟨?_, (i + 1, ve + 1 + 1), ?_, ?_, ?_⟩
    · simp only [bK, Nat.reduceEqDiff, reduceCtorEq, ↓reduceIte, Nat.reduceBEq, Nat.reduceLeDiff, Nat.reduceAdd, if_true, if_false]
    · simp only [bK, Nat.reduceEqDiff, reduceCtorEq, ↓reduceIte, Nat.reduceBEq, Nat.reduceLeDiff, Nat.reduceAdd, if_true, if_false]
      refine stL_eq ?_ ?_
      · simp only [Option.some.injEq, Ret.mk.injEq, List.cons.injEq, Prod.mk.injEq, AV.d.injEq, D.i.injEq, D.b.injEq, D.s.injEq, true_and, and_true]
        simp only [hk2]
        exact ⟨trivial, by omega⟩
      · simp only [← hst]
    · show i + 1 ≤ xs.length
      omega
    · show xs.length - (i + 1) < xs.length - i
      omega
  · have hge := of_decide_eq_false hb
    have e : i = xs.length := by omega
    subst e
    simp only [half_all, List.take_length]
    simp only [bW, ↓splitB_true, ↓splitB_false, nilCmp, opConv, eq_self, if_true, if_false, Nat.reduceEqDiff, reduceCtorEq, ↓reduceIte, Nat.reduceLT, Nat.reduceAdd, Nat.reduceMul, Nat.reduceSub, Nat.reduceLeDiff, Nat.reduceBEq, Int.reduceEq, Int.reduceNeg, tk, ntmps97, results97]
    try simp only [Option.some.injEq, Ret.mk.injEq, List.cons.injEq, Prod.mk.injEq, AV.d.injEq, D.i.injEq, D.b.injEq, D.s.injEq, true_and, and_true]

theorem f23_ok {S : Nat → Option Summ} (hS : SumOK prog S) (ds : List D) (r : D) (hr : heldP [.i] ds = some r) : FnOK prog 23 (ds.map .d) { ret := r } := by
  obtain ⟨xs, k, rfl, h1, h2, h2', h3, h4, rfl⟩ := heldP_inv hr
  clear hr
  have hsz : ([.i] : List Sh).length = 1 := rfl
  rw [hsz]
  refine fnOK_awp (A := ⟨tab, S, .x⟩) tab_ok hS mixed func23 rfl rfl rfl rfl (by show 2 ≤ 21; decide) rfl ?_
  refine seqK fun K hK => ?_
  simp only [bW, ↓splitB_true, ↓splitB_false, nilCmp, opConv, eq_self, if_true, if_false, Nat.reduceEqDiff, reduceCtorEq, ↓reduceIte, Nat.reduceLT, Nat.reduceAdd, Nat.reduceMul, Nat.reduceSub, Nat.reduceLeDiff, Nat.reduceBEq, Int.reduceEq, Int.reduceNeg, tk, ntmps23, results23]
  refine hK _ ?_; clear hK K
  refine seqK fun K hK => ?_
  refine seqK fun K2 hK2 => ?_
  simp only [bW, ↓splitB_true, ↓splitB_false, nilCmp, opConv, eq_self, if_true, if_false, Nat.reduceEqDiff, reduceCtorEq, ↓reduceIte, Nat.reduceLT, Nat.reduceAdd, Nat.reduceMul, Nat.reduceSub, Nat.reduceLeDiff, Nat.reduceBEq, Int.reduceEq, Int.reduceNeg, tk, ntmps23, results23]
  refine hK2 _ ?_; clear hK2 K2
  rw [awp_block]
  refine loopW [0, 1, 5] (fun x : Nat × Int => stL 21 [(0, .d (.l 1 xs)), (1, .d (.i .i64 x.2)), (5, .d (.i .i64 x.1))] []) (fun x => x.1 ≤ xs.length ∧ heldLL xs k = heldLL (xs.drop x.1) x.2 ∧ 0 ≤ x.2 ∧ x.2 + lvLL (xs.drop x.1) ≤ 2305843009213693952) (fun x => xs.length - x.1) ?_ ?_
  · refine ⟨?_, (0, k), ?_, ?_⟩
    · simp only [bK, Nat.reduceEqDiff, reduceCtorEq, ↓reduceIte, Nat.reduceBEq, Nat.reduceLeDiff, Nat.reduceAdd, if_true, if_false]
    · simp only [bK, Nat.reduceEqDiff, reduceCtorEq, ↓reduceIte, Nat.reduceBEq, Nat.reduceLeDiff, Nat.reduceAdd, if_true, if_false]
      refine stL_eq ?_ rfl
      simp only [Option.some.injEq, Ret.mk.injEq, List.cons.injEq, Prod.mk.injEq, AV.d.injEq, D.i.injEq, D.b.injEq, D.s.injEq, true_and, and_true]
      try rfl
    · exact ⟨by show 0 ≤ _; omega, rfl, h3, h4⟩
  rintro ⟨i, kk⟩ ⟨hi, hn, hk0, hkl⟩
  simp only at hi hn hk0 hkl
  refine seqK fun K3 hK3 => ?_
  simp only [bW, ↓splitB_true, ↓splitB_false, nilCmp, opConv, eq_self, if_true, if_false, Nat.reduceEqDiff, reduceCtorEq, ↓reduceIte, Nat.reduceLT, Nat.reduceAdd, Nat.reduceMul, Nat.reduceSub, Nat.reduceLeDiff, Nat.reduceBEq, Int.reduceEq, Int.reduceNeg, tk, ntmps23, results23]
  refine splitB_intro (fun hb => hK3 _ ?_) (fun hb => hK _ ?_) <;> clear hK3 K3
  · have hlt := of_decide_eq_true hb
    clear hb
    have hlt : i < xs.length := by omega
    have hrow := shLL_get h1 hlt
    have hln := lnLL_get h2' hlt
    have hst := heldLL_step (k := kk) hlt
    have hls := lvLL_step hlt
    generalize hrw : xs.getD i [] = row at hrow hln hst hls
    obtain ⟨ct1, qt1, rfl, et1, hrow⟩ := shL_cons hrow
    obtain rfl := shL_nil hrow
    obtain ⟨t1, rfl⟩ := shD_i et1
    simp only [lvL, lv] at hls
    refine seqK fun K4 hK4 => ?_
    rw [awp_block]
    refine seqK fun K5 hK5 => ?_
    simp only [bW, ↓splitB_true, ↓splitB_false, nilCmp, opConv, eq_self, if_true, if_false, Nat.reduceEqDiff, reduceCtorEq, ↓reduceIte, Nat.reduceLT, Nat.reduceAdd, Nat.reduceMul, Nat.reduceSub, Nat.reduceLeDiff, Nat.reduceBEq, Int.reduceEq, Int.reduceNeg, tk, ntmps23, results23]
    refine ⟨⟨by omega, by omega⟩, ?_⟩
    rw [hrw]
    simp only [bW, ↓splitB_true, ↓splitB_false, nilCmp, opConv, eq_self, if_true, if_false, Nat.reduceEqDiff, reduceCtorEq, ↓reduceIte, Nat.reduceLT, Nat.reduceAdd, Nat.reduceMul, Nat.reduceSub, Nat.reduceLeDiff, Nat.reduceBEq, Int.reduceEq, Int.reduceNeg, tk, ntmps23, results23]
    refine splitB_intro (fun hb => ?_) (fun hb => hK5 _ ?_) <;> clear hK5 K5
    · simp only [Bool.not_eq_true', decide_eq_false_iff_not] at hb
      rw [heldL_i0 hb] at hst
      rw [hn, hst, negOr_neg]
    simp only [Bool.not_eq_false', decide_eq_true_eq] at hb
    rw [heldL_i1 hb (by omega)] at hst
    simp only [bW, ↓splitB_true, ↓splitB_false, nilCmp, opConv, eq_self, if_true, if_false, Nat.reduceEqDiff, reduceCtorEq, ↓reduceIte, Nat.reduceLT, Nat.reduceAdd, Nat.reduceMul, Nat.reduceSub, Nat.reduceLeDiff, Nat.reduceBEq, Int.reduceEq, Int.reduceNeg, tk, ntmps23, results23]
    simp (disch := omega) only [wrap64]
    refine hK4 _ ?_; clear hK4 K4
    rw [heldL_nil, negOr_pos (by omega)] at hst
    simp only [bW, ↓splitB_true, ↓splitB_false, nilCmp, opConv, eq_self, if_true, if_false, Nat.reduceEqDiff, reduceCtorEq, ↓reduceIte, Nat.reduceLT, Nat.reduceAdd, Nat.reduceMul, Nat.reduceSub, Nat.reduceLeDiff, Nat.reduceBEq, Int.reduceEq, Int.reduceNeg, tk, ntmps23, results23]
    try simp (disch := omega) only [wrap64]
    refine ⟨?_, (i + 1, kk + 1), ?_, ?_, ?_⟩
    · simp only [bK, Nat.reduceEqDiff, reduceCtorEq, ↓reduceIte, Nat.reduceBEq, Nat.reduceLeDiff, Nat.reduceAdd, if_true, if_false]
    · simp only [bK, Nat.reduceEqDiff, reduceCtorEq, ↓reduceIte, Nat.reduceBEq, Nat.reduceLeDiff, Nat.reduceAdd, if_true, if_false]
      refine stL_eq ?_ rfl
      simp only [Option.some.injEq, Ret.mk.injEq, List.cons.injEq, Prod.mk.injEq, AV.d.injEq, D.i.injEq, D.b.injEq, D.s.injEq, true_and, and_true]
      omega
    · exact ⟨by show i + 1 ≤ _; omega, hn.trans hst, by show 0 ≤ kk + 1; omega, by show kk + 1 + (lvLL (xs.drop (i + 1)) : Int) ≤ _; omega⟩
    · show xs.length - (i + 1) < xs.length - i
      omega
  · have hge := of_decide_eq_false hb
    have e : i = xs.length := by omega
    subst e
    rw [List.drop_length] at hn
    simp only [bW, ↓splitB_true, ↓splitB_false, nilCmp, opConv, eq_self, if_true, if_false, Nat.reduceEqDiff, reduceCtorEq, ↓reduceIte, Nat.reduceLT, Nat.reduceAdd, Nat.reduceMul, Nat.reduceSub, Nat.reduceLeDiff, Nat.reduceBEq, Int.reduceEq, Int.reduceNeg, tk, ntmps23, results23]
    rw [hn]; rfl

end Go.Fs.Sr

set_option linter.unusedVariables false
set_option linter.unusedSimpArgs false
set_option maxRecDepth 20000
set_option maxHeartbeats 2000000
namespace Go.Fs.Sr
open Go.Proofs.Try

theorem f56_ok {S : Nat → Option Summ} (hS : SumOK prog S) (s44 : S 44 = some (.own mtP)) (s22 : S 22 = some (.io (markP [.i]))) (s97 : S 97 = some (.io (markP ins2))) (x : D) (ds : List D) (r : D × D) (hr : markP lfun x ds = some r) : FnOK prog 56 (.io x :: ds.map .d) { ret := r.1, io := some r.2 } := by
  obtain ⟨xs, k, rfl, rfl, h1, h2, h2', h3, h4, rfl⟩ := markP_inv hr
  clear hr
  have hsz : (lfun : List Sh).length = 6 := rfl
  rw [hsz]
  refine fnOK_awp (A := ⟨tab, S, .r 900000⟩) tab_ok hS mixed func56 rfl rfl rfl rfl (by show 2 ≤ 57; decide) rfl ?_
  refine seqK fun K hK => ?_
  simp only [bW, ↓splitB_true, ↓splitB_false, nilCmp, opConv, eq_self, if_true, if_false, Nat.reduceEqDiff, reduceCtorEq, ↓reduceIte, Nat.reduceLT, Nat.reduceAdd, Nat.reduceMul, Nat.reduceSub, Nat.reduceLeDiff, Nat.reduceBEq, Int.reduceEq, Int.reduceNeg, tk, ntmps56, results56, s97, s22]
  refine hK _ ?_; clear hK K
  refine seqK fun K hK => ?_
  refine seqK fun K2 hK2 => ?_
  simp only [bW, ↓splitB_true, ↓splitB_false, nilCmp, opConv, eq_self, if_true, if_false, Nat.reduceEqDiff, reduceCtorEq, ↓reduceIte, Nat.reduceLT, Nat.reduceAdd, Nat.reduceMul, Nat.reduceSub, Nat.reduceLeDiff, Nat.reduceBEq, Int.reduceEq, Int.reduceNeg, tk, ntmps56, results56, s97, s22]
  refine hK2 _ ?_; clear hK2 K2
  rw [awp_block]
  refine loopW [0, 1, 5] (fun x : Nat × Nat => stL 57 [(0, .r 900000), (1, .d (.i .i64 (markLL (xs.take x.1) k).2)), (5, .d (.i .i64 x.1))] [(900000, some (.row 6 (half xs k x.1) true false x.2))]) (fun x => x.1 ≤ xs.length) (fun x => xs.length - x.1) ?_ ?_
  · refine ⟨?_, (0, 0), ?_, ?_⟩
    · simp only [bK, Nat.reduceEqDiff, reduceCtorEq, ↓reduceIte, Nat.reduceBEq, Nat.reduceLeDiff, Nat.reduceAdd, if_true, if_false]
    · simp only [bK, Nat.reduceEqDiff, reduceCtorEq, ↓reduceIte, Nat.reduceBEq, Nat.reduceLeDiff, Nat.reduceAdd, if_true, if_false]
      refine stL_eq ?_ ?_
      · simp only [Option.some.injEq, Ret.mk.injEq, List.cons.injEq, Prod.mk.injEq, AV.d.injEq, D.i.injEq, D.b.injEq, D.s.injEq, true_and, and_true]
        exact ⟨by simp only [List.take_zero, markLL], rfl⟩
      · simp only [half_zero]
    · show 0 ≤ _
      omega
  rintro ⟨i, ve⟩ hi
  simp only at hi
  have hlen := half_len (k := k) hi
  have hlv := half_lv (k := k) hi
  have hkk := markLL_k (xs.take i) k
  refine seqK fun K3 hK3 => ?_
  simp only [bW, ↓splitB_true, ↓splitB_false, nilCmp, opConv, eq_self, if_true, if_false, Nat.reduceEqDiff, reduceCtorEq, ↓reduceIte, Nat.reduceLT, Nat.reduceAdd, Nat.reduceMul, Nat.reduceSub, Nat.reduceLeDiff, Nat.reduceBEq, Int.reduceEq, Int.reduceNeg, tk, ntmps56, results56, s97, s22]
  refine splitB_intro (fun hb => hK3 _ ?_) (fun hb => hK _ ?_) <;> clear hK3 K3
  · have hlt := of_decide_eq_true hb
    clear hb
    have hlt : i < xs.length := by omega
    have hrow := shLL_get h1 hlt
    have hln := lnLL_get h2' hlt
    have hget := half_get (k := k) hlt
    have hst := half_set (k := k) hlt
    have hk2 := half_k (k := k) hlt
    have hls := lvLL_step hlt
    generalize hrw : xs.getD i [] = row at hrow hln hget hst hk2 hls
    generalize hL : half xs k i = L at hlen hget hst
    generalize hkv : (markLL (xs.take i) k).2 = kk at hlv hkk hst hk2
    have hltL : i < L.length := by omega
    obtain ⟨ct1, qt1, rfl, et1, hrow⟩ := shL_cons hrow
    obtain ⟨ct2, qt2, rfl, et2, hrow⟩ := shL_cons hrow
    obtain ⟨ct3, qt3, rfl, et3, hrow⟩ := shL_cons hrow
    obtain ⟨ct4, qt4, rfl, et4, hrow⟩ := shL_cons hrow
    obtain ⟨ct5, qt5, rfl, et5, hrow⟩ := shL_cons hrow
    obtain ⟨ct6, qt6, rfl, et6, hrow⟩ := shL_cons hrow
    obtain rfl := shL_nil hrow
    obtain ⟨t1, rfl⟩ := shD_s et1
    obtain ⟨t2, rfl⟩ := shD_s et2
    obtain ⟨zt3, t3, rfl, hzt3, et3⟩ := shD_l2 et3
    obtain rfl : zt3 = 1 := hzt3
    obtain ⟨t4, rfl⟩ := shD_i et4
    obtain ⟨t5, rfl⟩ := shD_i et5
    obtain ⟨zt6, t6, rfl, hzt6, et6⟩ := shD_l2 et6
    obtain rfl : zt6 = 2 := hzt6
    simp only [lnL_cons, lnL_nil, lnD_s, lnD_i, lnD_b, lnD_l, and_true, true_and] at hln
    obtain ⟨⟨kt3, kt3'⟩, ⟨kt6, kt6'⟩⟩ := hln
    simp only [markL, markC] at hst hk2
    simp only [lvL, lv] at hls
    refine seqK fun K4 hK4 => ?_
    rw [awp_block]
    refine seqK fun K5 hK5 => ?_
    simp only [bW, ↓splitB_true, ↓splitB_false, nilCmp, opConv, eq_self, if_true, if_false, Nat.reduceEqDiff, reduceCtorEq, ↓reduceIte, Nat.reduceLT, Nat.reduceAdd, Nat.reduceMul, Nat.reduceSub, Nat.reduceLeDiff, Nat.reduceBEq, Int.reduceEq, Int.reduceNeg, tk, ntmps56, results56, setCell, List.set_cons_zero, List.set_cons_succ, len_set2, set_set2, hget, getD_set2 hltL, s97, s22, s44]
    refine OkO_mtP (by omega) ?_
    simp only [bW, ↓splitB_true, ↓splitB_false, nilCmp, opConv, eq_self, if_true, if_false, Nat.reduceEqDiff, reduceCtorEq, ↓reduceIte, Nat.reduceLT, Nat.reduceAdd, Nat.reduceMul, Nat.reduceSub, Nat.reduceLeDiff, Nat.reduceBEq, Int.reduceEq, Int.reduceNeg, tk, ntmps56, results56, setCell, List.set_cons_zero, List.set_cons_succ, len_set2, set_set2, hget, getD_set2 hltL, s97, s22, s44]
    refine ⟨⟨by omega, by omega⟩, ?_⟩
    try simp only [bW, ↓splitB_true, ↓splitB_false, nilCmp, opConv, eq_self, if_true, if_false, Nat.reduceEqDiff, reduceCtorEq, ↓reduceIte, Nat.reduceLT, Nat.reduceAdd, Nat.reduceMul, Nat.reduceSub, Nat.reduceLeDiff, Nat.reduceBEq, Int.reduceEq, Int.reduceNeg, tk, ntmps56, results56, setCell, List.set_cons_zero, List.set_cons_succ, len_set2, set_set2, hget, getD_set2 hltL, s97, s22, s44]
    refine hK5 _ ?_; clear hK5 K5
    refine seqK fun K5 hK5 => ?_
    simp only [bW, ↓splitB_true, ↓splitB_false, nilCmp, opConv, eq_self, if_true, if_false, Nat.reduceEqDiff, reduceCtorEq, ↓reduceIte, Nat.reduceLT, Nat.reduceAdd, Nat.reduceMul, Nat.reduceSub, Nat.reduceLeDiff, Nat.reduceBEq, Int.reduceEq, Int.reduceNeg, tk, ntmps56, results56, setCell, List.set_cons_zero, List.set_cons_succ, len_set2, set_set2, hget, getD_set2 hltL, s97, s22, s44]
    simp (disch := omega) only [wrap64]
    refine hK5 _ ?_; clear hK5 K5
    refine seqK fun K5 hK5 => ?_
    simp only [bW, ↓splitB_true, ↓splitB_false, nilCmp, opConv, eq_self, if_true, if_false, Nat.reduceEqDiff, reduceCtorEq, ↓reduceIte, Nat.reduceLT, Nat.reduceAdd, Nat.reduceMul, Nat.reduceSub, Nat.reduceLeDiff, Nat.reduceBEq, Int.reduceEq, Int.reduceNeg, tk, ntmps56, results56, setCell, List.set_cons_zero, List.set_cons_succ, len_set2, set_set2, hget, getD_set2 hltL, s97, s22, s44]
    refine OkO_mtP (by omega) ?_
    simp only [bW, ↓splitB_true, ↓splitB_false, nilCmp, opConv, eq_self, if_true, if_false, Nat.reduceEqDiff, reduceCtorEq, ↓reduceIte, Nat.reduceLT, Nat.reduceAdd, Nat.reduceMul, Nat.reduceSub, Nat.reduceLeDiff, Nat.reduceBEq, Int.reduceEq, Int.reduceNeg, tk, ntmps56, results56, setCell, List.set_cons_zero, List.set_cons_succ, len_set2, set_set2, hget, getD_set2 hltL, s97, s22, s44]
    refine ⟨⟨by omega, by omega⟩, ?_⟩
    try simp only [bW, ↓splitB_true, ↓splitB_false, nilCmp, opConv, eq_self, if_true, if_false, Nat.reduceEqDiff, reduceCtorEq, ↓reduceIte, Nat.reduceLT, Nat.reduceAdd, Nat.reduceMul, Nat.reduceSub, Nat.reduceLeDiff, Nat.reduceBEq, Int.reduceEq, Int.reduceNeg, tk, ntmps56, results56, setCell, List.set_cons_zero, List.set_cons_succ, len_set2, set_set2, hget, getD_set2 hltL, s97, s22, s44]
    refine hK5 _ ?_; clear hK5 K5
    refine seqK fun K5 hK5 => ?_
    simp only [bW, ↓splitB_true, ↓splitB_false, nilCmp, opConv, eq_self, if_true, if_false, Nat.reduceEqDiff, reduceCtorEq, ↓reduceIte, Nat.reduceLT, Nat.reduceAdd, Nat.reduceMul, Nat.reduceSub, Nat.reduceLeDiff, Nat.reduceBEq, Int.reduceEq, Int.reduceNeg, tk, ntmps56, results56, setCell, List.set_cons_zero, List.set_cons_succ, len_set2, set_set2, hget, getD_set2 hltL, s97, s22, s44]
    simp (disch := omega) only [wrap64]
    refine hK5 _ ?_; clear hK5 K5
    refine seqK fun K5 hK5 => ?_
    simp only [bW, ↓splitB_true, ↓splitB_false, nilCmp, opConv, eq_self, if_true, if_false, Nat.reduceEqDiff, reduceCtorEq, ↓reduceIte, Nat.reduceLT, Nat.reduceAdd, Nat.reduceMul, Nat.reduceSub, Nat.reduceLeDiff, Nat.reduceBEq, Int.reduceEq, Int.reduceNeg, tk, ntmps56, results56, setCell, List.set_cons_zero, List.set_cons_succ, len_set2, set_set2, hget, getD_set2 hltL, s97, s22, s44]
    refine ⟨⟨by omega, by omega⟩, ?_⟩
    try simp only [bW, ↓splitB_true, ↓splitB_false, nilCmp, opConv, eq_self, if_true, if_false, Nat.reduceEqDiff, reduceCtorEq, ↓reduceIte, Nat.reduceLT, Nat.reduceAdd, Nat.reduceMul, Nat.reduceSub, Nat.reduceLeDiff, Nat.reduceBEq, Int.reduceEq, Int.reduceNeg, tk, ntmps56, results56, setCell, List.set_cons_zero, List.set_cons_succ, len_set2, set_set2, hget, getD_set2 hltL, s97, s22, s44]
    refine ⟨by omega, ?_⟩
    try simp only [bW, ↓splitB_true, ↓splitB_false, nilCmp, opConv, eq_self, if_true, if_false, Nat.reduceEqDiff, reduceCtorEq, ↓reduceIte, Nat.reduceLT, Nat.reduceAdd, Nat.reduceMul, Nat.reduceSub, Nat.reduceLeDiff, Nat.reduceBEq, Int.reduceEq, Int.reduceNeg, tk, ntmps56, results56, setCell, List.set_cons_zero, List.set_cons_succ, len_set2, set_set2, hget, getD_set2 hltL, s97, s22, s44]
    refine OkO_markP rfl et3 kt3 kt3' (by omega) (by omega) ?_
    simp only [bW, ↓splitB_true, ↓splitB_false, nilCmp, opConv, eq_self, if_true, if_false, Nat.reduceEqDiff, reduceCtorEq, ↓reduceIte, Nat.reduceLT, Nat.reduceAdd, Nat.reduceMul, Nat.reduceSub, Nat.reduceLeDiff, Nat.reduceBEq, Int.reduceEq, Int.reduceNeg, tk, ntmps56, results56, setCell, List.set_cons_zero, List.set_cons_succ, len_set2, set_set2, hget, getD_set2 hltL, s97, s22, s44]
    have hmt3 := markLL_k t3 (kk + 1 + 1)
    refine hK5 _ ?_; clear hK5 K5
    refine seqK fun K5 hK5 => ?_
    simp only [bW, ↓splitB_true, ↓splitB_false, nilCmp, opConv, eq_self, if_true, if_false, Nat.reduceEqDiff, reduceCtorEq, ↓reduceIte, Nat.reduceLT, Nat.reduceAdd, Nat.reduceMul, Nat.reduceSub, Nat.reduceLeDiff, Nat.reduceBEq, Int.reduceEq, Int.reduceNeg, tk, ntmps56, results56, setCell, List.set_cons_zero, List.set_cons_succ, len_set2, set_set2, hget, getD_set2 hltL, s97, s22, s44]
    refine ⟨⟨by omega, by omega⟩, ?_⟩
    try simp only [bW, ↓splitB_true, ↓splitB_false, nilCmp, opConv, eq_self, if_true, if_false, Nat.reduceEqDiff, reduceCtorEq, ↓reduceIte, Nat.reduceLT, Nat.reduceAdd, Nat.reduceMul, Nat.reduceSub, Nat.reduceLeDiff, Nat.reduceBEq, Int.reduceEq, Int.reduceNeg, tk, ntmps56, results56, setCell, List.set_cons_zero, List.set_cons_succ, len_set2, set_set2, hget, getD_set2 hltL, s97, s22, s44]
    refine hK5 _ ?_; clear hK5 K5
    refine seqK fun K5 hK5 => ?_
    simp only [bW, ↓splitB_true, ↓splitB_false, nilCmp, opConv, eq_self, if_true, if_false, Nat.reduceEqDiff, reduceCtorEq, ↓reduceIte, Nat.reduceLT, Nat.reduceAdd, Nat.reduceMul, Nat.reduceSub, Nat.reduceLeDiff, Nat.reduceBEq, Int.reduceEq, Int.reduceNeg, tk, ntmps56, results56, setCell, List.set_cons_zero, List.set_cons_succ, len_set2, set_set2, hget, getD_set2 hltL, s97, s22, s44]
    simp (disch := omega) only [wrap64]
    refine hK5 _ ?_; clear hK5 K5
    refine seqK fun K5 hK5 => ?_
    simp only [bW, ↓splitB_true, ↓splitB_false, nilCmp, opConv, eq_self, if_true, if_false, Nat.reduceEqDiff, reduceCtorEq, ↓reduceIte, Nat.reduceLT, Nat.reduceAdd, Nat.reduceMul, Nat.reduceSub, Nat.reduceLeDiff, Nat.reduceBEq, Int.reduceEq, Int.reduceNeg, tk, ntmps56, results56, setCell, List.set_cons_zero, List.set_cons_succ, len_set2, set_set2, hget, getD_set2 hltL, s97, s22, s44]
    refine ⟨⟨by omega, by omega⟩, ?_⟩
    try simp only [bW, ↓splitB_true, ↓splitB_false, nilCmp, opConv, eq_self, if_true, if_false, Nat.reduceEqDiff, reduceCtorEq, ↓reduceIte, Nat.reduceLT, Nat.reduceAdd, Nat.reduceMul, Nat.reduceSub, Nat.reduceLeDiff, Nat.reduceBEq, Int.reduceEq, Int.reduceNeg, tk, ntmps56, results56, setCell, List.set_cons_zero, List.set_cons_succ, len_set2, set_set2, hget, getD_set2 hltL, s97, s22, s44]
    refine hK5 _ ?_; clear hK5 K5
    refine seqK fun K5 hK5 => ?_
    simp only [bW, ↓splitB_true, ↓splitB_false, nilCmp, opConv, eq_self, if_true, if_false, Nat.reduceEqDiff, reduceCtorEq, ↓reduceIte, Nat.reduceLT, Nat.reduceAdd, Nat.reduceMul, Nat.reduceSub, Nat.reduceLeDiff, Nat.reduceBEq, Int.reduceEq, Int.reduceNeg, tk, ntmps56, results56, setCell, List.set_cons_zero, List.set_cons_succ, len_set2, set_set2, hget, getD_set2 hltL, s97, s22, s44]
    simp (disch := omega) only [wrap64]
    refine hK5 _ ?_; clear hK5 K5
    simp only [bW, ↓splitB_true, ↓splitB_false, nilCmp, opConv, eq_self, if_true, if_false, Nat.reduceEqDiff, reduceCtorEq, ↓reduceIte, Nat.reduceLT, Nat.reduceAdd, Nat.reduceMul, Nat.reduceSub, Nat.reduceLeDiff, Nat.reduceBEq, Int.reduceEq, Int.reduceNeg, tk, ntmps56, results56, setCell, List.set_cons_zero, List.set_cons_succ, len_set2, set_set2, hget, getD_set2 hltL, s97, s22, s44]
    refine ⟨⟨by omega, by omega⟩, ?_⟩
    try simp only [bW, ↓splitB_true, ↓splitB_false, nilCmp, opConv, eq_self, if_true, if_false, Nat.reduceEqDiff, reduceCtorEq, ↓reduceIte, Nat.reduceLT, Nat.reduceAdd, Nat.reduceMul, Nat.reduceSub, Nat.reduceLeDiff, Nat.reduceBEq, Int.reduceEq, Int.reduceNeg, tk, ntmps56, results56, setCell, List.set_cons_zero, List.set_cons_succ, len_set2, set_set2, hget, getD_set2 hltL, s97, s22, s44]
    refine ⟨by omega, ?_⟩
    try simp only [bW, ↓splitB_true, ↓splitB_false, nilCmp, opConv, eq_self, if_true, if_false, Nat.reduceEqDiff, reduceCtorEq, ↓reduceIte, Nat.reduceLT, Nat.reduceAdd, Nat.reduceMul, Nat.reduceSub, Nat.reduceLeDiff, Nat.reduceBEq, Int.reduceEq, Int.reduceNeg, tk, ntmps56, results56, setCell, List.set_cons_zero, List.set_cons_succ, len_set2, set_set2, hget, getD_set2 hltL, s97, s22, s44]
    refine OkO_markP rfl et6 kt6 kt6' (by omega) (by omega) ?_
    simp only [bW, ↓splitB_true, ↓splitB_false, nilCmp, opConv, eq_self, if_true, if_false, Nat.reduceEqDiff, reduceCtorEq, ↓reduceIte, Nat.reduceLT, Nat.reduceAdd, Nat.reduceMul, Nat.reduceSub, Nat.reduceLeDiff, Nat.reduceBEq, Int.reduceEq, Int.reduceNeg, tk, ntmps56, results56, setCell, List.set_cons_zero, List.set_cons_succ, len_set2, set_set2, hget, getD_set2 hltL, s97, s22, s44]
    have hmt6 := markLL_k t6 ((markLL t3 (kk + 1 + 1)).2 + 1 + 1)
    refine hK4 _ ?_; clear hK4 K4
    simp only [bW, ↓splitB_true, ↓splitB_false, nilCmp, opConv, eq_self, if_true, if_false, Nat.reduceEqDiff, reduceCtorEq, ↓reduceIte, Nat.reduceLT, Nat.reduceAdd, Nat.reduceMul, Nat.reduceSub, Nat.reduceLeDiff, Nat.reduceBEq, Int.reduceEq, Int.reduceNeg, tk, ntmps56, results56, s97, s22]
    try simp (disch := omega) only [wrap64]
    refine ⟨?_, (i + 1, ve + 1 + 1 + 1 + 1 + 1 + 1), ?_, ?_, ?_⟩
    · simp only [bK, Nat.reduceEqDiff, reduceCtorEq, ↓reduceIte, Nat.reduceBEq, Nat.reduceLeDiff, Nat.reduceAdd, if_true, if_false]
    · simp only [bK, Nat.reduceEqDiff, reduceCtorEq, ↓reduceIte, Nat.reduceBEq, Nat.reduceLeDiff, Nat.reduceAdd, if_true, if_false]
      refine stL_eq ?_ ?_
      · simp only [Option.some.injEq, Ret.mk.injEq, List.cons.injEq, Prod.mk.injEq, AV.d.injEq, D.i.injEq, D.b.injEq, D.s.injEq, true_and, and_true]
        simp only [hk2]
        exact ⟨trivial, by omega⟩
      · simp only [← hst]
    · show i + 1 ≤ xs.length
      omega
    · show xs.length - (i + 1) < xs.length - i
      omega
  · have hge := of_decide_eq_false hb
    have e : i = xs.length := by omega
    subst e
    simp only [half_all, List.take_length]
    simp only [bW, ↓splitB_true, ↓splitB_false, nilCmp, opConv, eq_self, if_true, if_false, Nat.reduceEqDiff, reduceCtorEq, ↓reduceIte, Nat.reduceLT, Nat.reduceAdd, Nat.reduceMul, Nat.reduceSub, Nat.reduceLeDiff, Nat.reduceBEq, Int.reduceEq, Int.reduceNeg, tk, ntmps56, results56, s97, s22]
    try simp only [Option.some.injEq, Ret.mk.injEq, List.cons.injEq, Prod.mk.injEq, AV.d.injEq, D.i.injEq, D.b.injEq, D.s.injEq, true_and, and_true]

theorem f21_ok {S : Nat → Option Summ} (hS : SumOK prog S) (s22 : S 22 = some (.io (markP [.i]))) (s56 : S 56 = some (.io (markP lfun))) (x : D) (ds : List D) (r : D × D) (hr : markG limg x ds = some r) : FnOK prog 21 (.io x :: ds.map .d) { ret := r.1, io := some r.2 } := by
  obtain ⟨xs, k, rfl, rfl, h1, h2, h3, h4, rfl⟩ := markG_inv hr
  clear hr
  obtain ⟨ct1, qt1, rfl, et1, h1⟩ := shL_cons h1
  obtain ⟨ct2, qt2, rfl, et2, h1⟩ := shL_cons h1
  obtain rfl := shL_nil h1
  obtain ⟨zt1, t1, rfl, hzt1, et1⟩ := shD_l2 et1
  obtain rfl : zt1 = 6 := hzt1
  obtain ⟨zt2, t2, rfl, hzt2, et2⟩ := shD_l2 et2
  obtain rfl : zt2 = 1 := hzt2
  simp only [okL_cons, okL_nil, okD_s, okD_l, okD_i, okD_b, and_true, true_and] at h2
  obtain ⟨⟨kt1, kt1'⟩, ⟨kt2, kt2'⟩⟩ := h2
  simp only [lvL, lv] at h4
  simp only [markS]
  refine fnOK_awp (A := ⟨tab, S, .g [.r 900000, .r 900001]⟩) tab_ok hS mixed func21 rfl rfl rfl rfl (by show 2 ≤ 14; decide) rfl ?_
  refine seqK fun K hK => ?_
  simp only [bW, ↓splitB_true, ↓splitB_false, nilCmp, opConv, eq_self, if_true, if_false, Nat.reduceEqDiff, reduceCtorEq, ↓reduceIte, Nat.reduceLT, Nat.reduceAdd, Nat.reduceMul, Nat.reduceSub, Nat.reduceLeDiff, Nat.reduceBEq, Int.reduceEq, Int.reduceNeg, tk, ntmps21, results21, s56, s22]
  refine hK _ ?_; clear hK K
  refine seqK fun K hK => ?_
  simp only [bW, ↓splitB_true, ↓splitB_false, nilCmp, opConv, eq_self, if_true, if_false, Nat.reduceEqDiff, reduceCtorEq, ↓reduceIte, Nat.reduceLT, Nat.reduceAdd, Nat.reduceMul, Nat.reduceSub, Nat.reduceLeDiff, Nat.reduceBEq, Int.reduceEq, Int.reduceNeg, tk, ntmps21, results21, s56, s22]
  refine OkO_markP rfl et1 kt1 (okLL_ln _ kt1') (by omega) (by omega) ?_
  simp only [bW, ↓splitB_true, ↓splitB_false, nilCmp, opConv, eq_self, if_true, if_false, Nat.reduceEqDiff, reduceCtorEq, ↓reduceIte, Nat.reduceLT, Nat.reduceAdd, Nat.reduceMul, Nat.reduceSub, Nat.reduceLeDiff, Nat.reduceBEq, Int.reduceEq, Int.reduceNeg, tk, ntmps21, results21, s56, s22]
  have hmt1 := markLL_k t1 (k)
  refine hK _ ?_; clear hK K
  refine seqK fun K hK => ?_
  simp only [bW, ↓splitB_true, ↓splitB_false, nilCmp, opConv, eq_self, if_true, if_false, Nat.reduceEqDiff, reduceCtorEq, ↓reduceIte, Nat.reduceLT, Nat.reduceAdd, Nat.reduceMul, Nat.reduceSub, Nat.reduceLeDiff, Nat.reduceBEq, Int.reduceEq, Int.reduceNeg, tk, ntmps21, results21, s56, s22]
  refine OkO_markP rfl et2 kt2 (okLL_ln _ kt2') (by omega) (by omega) ?_
  simp only [bW, ↓splitB_true, ↓splitB_false, nilCmp, opConv, eq_self, if_true, if_false, Nat.reduceEqDiff, reduceCtorEq, ↓reduceIte, Nat.reduceLT, Nat.reduceAdd, Nat.reduceMul, Nat.reduceSub, Nat.reduceLeDiff, Nat.reduceBEq, Int.reduceEq, Int.reduceNeg, tk, ntmps21, results21, s56, s22]
  have hmt2 := markLL_k t2 ((markLL t1 (k)).2)
  refine hK _ ?_; clear hK K
  simp only [bW, ↓splitB_true, ↓splitB_false, nilCmp, opConv, eq_self, if_true, if_false, Nat.reduceEqDiff, reduceCtorEq, ↓reduceIte, Nat.reduceLT, Nat.reduceAdd, Nat.reduceMul, Nat.reduceSub, Nat.reduceLeDiff, Nat.reduceBEq, Int.reduceEq, Int.reduceNeg, tk, ntmps21, results21, s56, s22]
  try rfl

end Go.Fs.Sr

set_option linter.unusedVariables false
namespace Go.Fs.Sr

/-! ### what the checks of names, types, instructions say -/
def inR (n lo hi : Int) : Prop := lo ≤ n ∧ n ≤ hi
instance (n lo hi : Int) : Decidable (inR n lo hi) := inferInstanceAs (Decidable (_ ∧ _))
def F99 : List D → Option D
  | [.i .i64 n, .i .i64 lo, .i .i64 hi] => some (.b (decide (lo ≤ n ∧ n ≤ hi)))
  | _ => none
def F59 : List D → Option D
  | [.i .i64 n, .i .i64 many] => if 0 ≤ many ∧ many ≤ 4611686018427387904 then some (.b (decide (0 ≤ n ∧ n < many))) else none
  | _ => none
def F117 : List D → Option D
  | [.i .i64 t] => some (.b (decide (1 ≤ t ∧ t ≤ 3)))
  | _ => none
def F132 : List D → Option D
  | [.i .i64 n] => some (.b (decide (-99999999999999999 ≤ n ∧ n ≤ 99999999999999999)))
  | _ => none
/-- An instruction is right. -/
def insP (op a : Int) : Prop := 1 ≤ op ∧ op ≤ 10 ∧ ((op = 1 ∧ -99999999999999999 ≤ a ∧ a ≤ 99999999999999999) ∨ (op = 2 ∧ 0 ≤ a ∧ a ≤ 1) ∨ (op = 9 ∧ a = 0) ∨ (op ≠ 1 ∧ op ≠ 2 ∧ op ≠ 9 ∧ 0 ≤ a ∧ a ≤ 1000))
instance (op a : Int) : Decidable (insP op a) := inferInstanceAs (Decidable (_ ∧ _))
def F92 : List D → Option D
  | [.g [.i .i64 op, .i .i64 a]] => some (.b (decide (insP op a)))
  | _ => none
def F91 : List D → Option D
  | [.g [.i .i64 op, .i .i64 a]] => some (.b (decide (¬ insP op a)))
  | _ => none
/-- A type's word. -/
def tyText (t : Int) : ByteArray := if t = 1 then ⟨#[105, 110, 116]⟩ else if t = 2 then ⟨#[98, 111, 111, 108]⟩ else if t = 3 then ⟨#[114, 111, 119]⟩ else .empty
theorem tyText_nil (t : Int) : tyText t = .empty ↔ ¬ (1 ≤ t ∧ t ≤ 3) := by
  unfold tyText
  by_cases h1 : t = 1
  · subst h1; simp; decide
  · by_cases h2 : t = 2
    · subst h2; simp; decide
    · by_cases h3 : t = 3
      · subst h3; simp; decide
      · simp [h1, h2, h3]; omega
def F126 : List D → Option D
  | [.i .i64 t] => some (.s (tyText t))
  | _ => none
def F152 : List D → Option D
  | [.i .i64 t] => some (.b (decide (¬ (1 ≤ t ∧ t ≤ 3))))
  | _ => none
def F94 : List D → Option D
  | [.i .i64 n, .p [.l 6 xs, .l 1 ys]] => if xs.length ≤ 140737488355328 then some (.b (decide (¬ (0 ≤ n ∧ n < (xs.length : Int))))) else none
  | _ => none

/-- The language's own words. -/
def own19 : List (List D) := [[.s ⟨#[117, 115, 101]⟩], [.s ⟨#[102, 117, 110]⟩], [.s ⟨#[112, 117, 98]⟩], [.s ⟨#[109, 97, 105, 110]⟩], [.s ⟨#[105, 110, 116]⟩], [.s ⟨#[98, 111, 111, 108]⟩], [.s ⟨#[114, 111, 119]⟩], [.s ⟨#[105, 102]⟩], [.s ⟨#[108, 101, 116]⟩], [.s ⟨#[116, 114, 117, 101]⟩], [.s ⟨#[102, 97, 108, 115, 101]⟩], [.s ⟨#[97, 110, 100]⟩], [.s ⟨#[111, 114]⟩], [.s ⟨#[110, 111, 116]⟩], [.s ⟨#[97, 116]⟩], [.s ⟨#[108, 101, 110]⟩], [.s ⟨#[112, 117, 116]⟩], [.s ⟨#[106, 111, 105, 110]⟩], [.s ⟨#[112, 114, 105, 110, 116]⟩]]
def txt (s : ByteArray) (x : List D) : Bool := decide (nameOf x = s)
def idxP (p : List D → Bool) : List (List D) → Int → Int
  | [], _ => -1
  | x :: xs, k => if p x = true then k else idxP p xs (k + 1)
theorem idxP_any (p : List D → Bool) : ∀ (xs : List (List D)) (k : Int), 0 ≤ k → (0 ≤ idxP p xs k ↔ xs.any p = true)
  | [], k, _ => by simp [idxP]
  | x :: xs, k, h => by
    simp only [idxP, List.any_cons, Bool.or_eq_true]
    split
    · rename_i e; simp [e, h]
    · rename_i e
      rw [idxP_any p xs (k + 1) (by omega)]
      simp [e]
theorem idxP_step (p : List D → Bool) {xs : List (List D)} {i : Nat} (h : i < xs.length) (k : Int) : idxP p (xs.drop i) k = if p (xs.getD i []) = true then k else idxP p (xs.drop (i + 1)) (k + 1) := by
  rw [drop_get h, idxP]
theorem any_step (p : List D → Bool) {xs : List (List D)} {i : Nat} (h : i < xs.length) : (xs.drop i).any p = (p (xs.getD i []) || (xs.drop (i + 1)).any p) := by
  rw [drop_get h, List.any_cons]
theorem all_step (p : List D → Bool) {xs : List (List D)} {i : Nat} (h : i < xs.length) : (xs.drop i).all p = (p (xs.getD i []) && (xs.drop (i + 1)).all p) := by
  rw [drop_get h, List.all_cons]
theorem own19_sh : shLL [.s] own19 = true := by decide
theorem own19_len : own19.length = 19 := rfl
def ownB (s : ByteArray) : Bool := own19.any (txt s)
def F124 : List D → Option D
  | [.s w] => some (.b (ownB w))
  | _ => none
def F166 : List D → Option D
  | [.l 1 xs, .s w] => if shLL [.s] xs = true ∧ xs.length ≤ 140737488355328 then some (.i .i64 (idxP (txt w) xs 0)) else none
  | _ => none
def F148 : List D → Option D
  | [.l 1 xs, .s w] => if shLL [.s] xs = true ∧ xs.length ≤ 140737488355328 then some (.b (xs.any (txt w))) else none
  | _ => none
/-- A small letter. -/
def low (c : UInt8) : Bool := decide (97 ≤ c.toNat ∧ c.toNat ≤ 122)
def lexB (w : ByteArray) : Bool := decide (1 ≤ w.size ∧ w.size ≤ 8) && (!ownB w && w.data.toList.all low)
def F85 : List D → Option D
  | [.s w] => if w.size ≤ 140737488355328 then some (.b (lexB w)) else none
  | _ => none
def mainW : ByteArray := ⟨#[109, 97, 105, 110]⟩
def nameB (w : ByteArray) : Bool := lexB w || decide (w = mainW)
def F125 : List D → Option D
  | [.s w] => if w.size ≤ 140737488355328 then some (.b (nameB w)) else none
  | _ => none
theorem byte_get {w : ByteArray} {i : Nat} (h : i < w.size) : w.data.toList.drop i = (w.data.getD i 0) :: w.data.toList.drop (i + 1) := by
  have h' : i < w.data.toList.length := by simpa using h
  have h2 : i < w.data.size := h
  rw [List.drop_eq_getElem_cons h']
  simp [Array.getD]
  intro hle
  omega
theorem low_step {w : ByteArray} {i : Nat} (h : i < w.size) : (w.data.toList.drop i).all low = (low (w.data.getD i 0) && (w.data.toList.drop (i + 1)).all low) := by
  rw [byte_get h, List.all_cons]
theorem byteAt_nat (w : ByteArray) (i : Nat) : byteAt w (i : Int) = ((w.data.getD i 0).toNat : Int) := by simp [byteAt]
theorem range_19 : List.range 19 = [0, 1, 2, 3, 4, 5, 6, 7, 8, 9, 10, 11, 12, 13, 14, 15, 16, 17, 18] := rfl
theorem range_3 : List.range 3 = [0, 1, 2] := rfl
theorem chunk_3 (sz : Nat) (ds : List D) : chunk sz 3 ds = [ds.take sz, (ds.drop sz).take sz, ((ds.drop sz).drop sz).take sz] := rfl
theorem wrap0 : IntKind.i64.wrap 0 = 0 := by decide
theorem wrap1 : IntKind.i64.wrap 1 = 1 := by decide
theorem wrap2 : IntKind.i64.wrap 2 = 2 := by decide

/-- An instruction of a row. -/
def insB : List D → Bool
  | [.i _ op, .i _ a] => decide (insP op a)
  | _ => false
def F131 : List D → Option D
  | [.l 2 xs, .f 91 []] => if shLL ins2 xs = true ∧ xs.length ≤ 140737488355328 then some (.i .i64 (idxP (fun x => !insB x) xs 0)) else none
  | _ => none
def F90 : List D → Option D
  | [.l 2 xs, .f 91 []] => if shLL ins2 xs = true ∧ xs.length ≤ 140737488355328 then some (.b (xs.any (fun x => !insB x))) else none
  | _ => none
/-- A number of a row. -/
def numOf : List D → Int
  | .i _ n :: _ => n
  | _ => 0
def typB (x : List D) : Bool := decide (1 ≤ numOf x ∧ numOf x ≤ 3)
def plcB (many : Nat) (x : List D) : Bool := decide (0 ≤ numOf x ∧ numOf x < (many : Int))
def F133 : List D → Option D
  | [.l 1 xs, .f 152 []] => if shLL [.i] xs = true ∧ xs.length ≤ 140737488355328 then some (.i .i64 (idxP (fun x => !typB x) xs 0)) else none
  | [.l 1 xs, .f 94 [.p [.l 6 fs, .l 1 ys]]] => if shLL [.i] xs = true ∧ xs.length ≤ 140737488355328 ∧ fs.length ≤ 140737488355328 then some (.i .i64 (idxP (fun x => !plcB fs.length x) xs 0)) else none
  | _ => none
def F93 : List D → Option D
  | [.l 1 xs, .f 152 []] => if shLL [.i] xs = true ∧ xs.length ≤ 140737488355328 then some (.b (xs.any (fun x => !typB x))) else none
  | [.l 1 xs, .f 94 [.p [.l 6 fs, .l 1 ys]]] => if shLL [.i] xs = true ∧ xs.length ≤ 140737488355328 ∧ fs.length ≤ 140737488355328 then some (.b (xs.any (fun x => !plcB fs.length x))) else none
  | _ => none
theorem any_not (p : List D → Bool) (xs : List (List D)) : xs.any (fun x => !p x) = !xs.all p := by
  induction xs with
  | nil => rfl
  | cons x xs ih => simp [ih]
/-- The types of parameters. -/
def argsB (xs : List (List D)) : Bool := decide (xs.length ≤ 4) && xs.all typB
def F130 : List D → Option D
  | [.l 1 xs] => if shLL [.i] xs = true ∧ xs.length ≤ 140737488355328 then some (.b (argsB xs)) else none
  | _ => none
def headB (w : ByteArray) (xs : List (List D)) (ty sl : Int) : Bool := nameB w && (argsB xs && (decide (1 ≤ ty ∧ ty ≤ 3) && decide (0 ≤ sl ∧ sl ≤ 1000)))
def F89 : List D → Option D
  | [.s w, .l 1 xs, .i .i64 ty, .i .i64 sl] => if w.size ≤ 140737488355328 ∧ shLL [.i] xs = true ∧ xs.length ≤ 140737488355328 then some (.b (headB w xs ty sl)) else none
  | _ => none
def codeB (xs : List (List D)) : Bool := decide (xs.length ≤ 460) && xs.all insB
/-- A function of an object is right. -/
def F86 : List D → Option D
  | [.g [.s w, .b _, .l 1 xs, .i .i64 ty, .i .i64 sl, .l 2 cs]] => if w.size ≤ 140737488355328 ∧ shLL [.i] xs = true ∧ xs.length ≤ 140737488355328 ∧ shLL ins2 cs = true ∧ cs.length ≤ 140737488355328 then some (.b (headB w xs ty sl && codeB cs)) else none
  | _ => none
/-- A function of an image is right. -/
def funB : List D → Bool
  | [.s m, .s w, .l _ xs, .i _ ty, .i _ sl, .l _ cs] => lexB m && (headB w xs ty sl && codeB cs)
  | _ => false
def codeN : List D → Nat
  | [_, _, _, _, _, .l _ cs] => cs.length
  | _ => 0
def manyN : List (List D) → Nat
  | [] => 0
  | x :: xs => codeN x + manyN xs
def imgB (fs ns : List (List D)) : Bool := decide (fs.length ≤ 72 ∧ ns.length ≤ 8) && (fs.all funB && (decide (manyN fs ≤ 3680) && ns.all (plcB fs.length)))
def F53 : List D → Option D
  | [.g [.l 6 fs, .l 1 ns]] => if shLL lfun fs = true ∧ okLL fs = true ∧ fs.length ≤ 1048576 ∧ wtLL fs ≤ 1048576 ∧ shLL [.i] ns = true ∧ okLL ns = true ∧ ns.length ≤ 1048576 then some (.b (imgB fs ns)) else none
  | _ => none
theorem manyN_step {xs : List (List D)} {i : Nat} (h : i < xs.length) : manyN (xs.drop i) = codeN (xs.getD i []) + manyN (xs.drop (i + 1)) := by
  rw [drop_get h, manyN]
end Go.Fs.Sr
