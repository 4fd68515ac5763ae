/- A part of the proof: an evaluator of the program's code over plain data, proved sound, and walks of the program's functions by it. No conditions beyond those in the theorems. -/
import Derived.Test.YtbgbnmghhmfihaaLawIp8
import Derived.Test.YtbgbnmghhmfihaaLawIp12
import Derived.Test.YtbgbnmghhmfihaaLawIp18
import Derived.Test.YtbgbnmghhmfihaaLawIp9
set_option linter.unusedVariables false
set_option linter.unusedSimpArgs false
set_option maxRecDepth 20000
set_option maxHeartbeats 2000000
namespace Go.Fs.Sr
open Go.Proofs.Try

theorem f24_ok {S : Nat → Option Summ} (hS : SumOK prog S) (s49 : S 49 = some (.own F53)) (s16 : S 16 = some (.own F18)) (s57 : S 57 = some (.own F57)) (ds : List D) (r : D) (hr : F24 ds = some r) : FnOK prog 24 (ds.map .d) { ret := r } := by
  unfold F24 at hr
  split at hr
  case h_2 => cases hr
  rename_i fs ns
  split at hr
  case isFalse => cases hr
  rename_i hc
  obtain ⟨h1, h2, h3, h4, h5, h6, h7, h8⟩ := hc
  simp only [Option.some.injEq] at hr
  subst hr
  refine fnOK_awp (A := ⟨tab, S, .x⟩) tab_ok hS mixed func24 rfl rfl rfl rfl (by show 1 ≤ 98; decide) rfl ?_
  refine seqK fun K hK => ?_
  simp only [bW, ↓splitB_true, ↓splitB_false, nilCmp, opConv, eq_self, if_true, if_false, Nat.reduceEqDiff, reduceCtorEq, ↓reduceIte, Nat.reduceLT, Nat.reduceAdd, Nat.reduceMul, Nat.reduceSub, Nat.reduceLeDiff, Nat.reduceBEq, Int.reduceEq, Int.reduceNeg, tk, ntmps24, results24, s49, s16, s57, F53, F18, F57, fillA, placeT]
  refine hK _ ?_; clear hK K
  refine seqK fun K hK => ?_
  simp only [bW, ↓splitB_true, ↓splitB_false, nilCmp, opConv, eq_self, if_true, if_false, Nat.reduceEqDiff, reduceCtorEq, ↓reduceIte, Nat.reduceLT, Nat.reduceAdd, Nat.reduceMul, Nat.reduceSub, Nat.reduceLeDiff, Nat.reduceBEq, Int.reduceEq, Int.reduceNeg, tk, ntmps24, results24, s49, s16, s57, F53, F18, F57, fillA, placeT]
  refine ⟨rfl, ?_⟩
  refine hK _ ?_; clear hK K
  refine seqK fun K hK => ?_
  simp only [bW, ↓splitB_true, ↓splitB_false, nilCmp, opConv, eq_self, if_true, if_false, Nat.reduceEqDiff, reduceCtorEq, ↓reduceIte, Nat.reduceLT, Nat.reduceAdd, Nat.reduceMul, Nat.reduceSub, Nat.reduceLeDiff, Nat.reduceBEq, Int.reduceEq, Int.reduceNeg, tk, ntmps24, results24, s49, s16, s57, F53, F18, F57, fillA, placeT]
  refine ⟨⟨h1, h2, h3, h4, h5, h6, h7⟩, ?_⟩
  cases hi : imgB fs ns with
  | false =>
    simp only [bW, ↓splitB_true, ↓splitB_false, nilCmp, opConv, eq_self, if_true, if_false, Nat.reduceEqDiff, reduceCtorEq, ↓reduceIte, Nat.reduceLT, Nat.reduceAdd, Nat.reduceMul, Nat.reduceSub, Nat.reduceLeDiff, Nat.reduceBEq, Int.reduceEq, Int.reduceNeg, tk, ntmps24, results24, s49, s16, s57, F53, F18, F57, fillA, placeT]
    simp only [ansI]
    rw [hi]
    try trivial
  | true =>
  have hlen := img_len hi
  have hans : ansI fs ns = [.l 6 ((reachL fs ns).map (newFun fs (reachL fs ns))), .l 1 (ns.map (newMain (reachL fs ns)))] := by
    simp only [ansI]; rw [if_pos hi]; rfl
  simp only [bW, ↓splitB_true, ↓splitB_false, nilCmp, opConv, eq_self, if_true, if_false, Nat.reduceEqDiff, reduceCtorEq, ↓reduceIte, Nat.reduceLT, Nat.reduceAdd, Nat.reduceMul, Nat.reduceSub, Nat.reduceLeDiff, Nat.reduceBEq, Int.reduceEq, Int.reduceNeg, tk, ntmps24, results24, s49, s16, s57, F53, F18, F57, fillA, placeT]
  refine hK _ ?_; clear hK K
  refine seqK fun K hK => ?_
  simp only [bW, ↓splitB_true, ↓splitB_false, nilCmp, opConv, eq_self, if_true, if_false, Nat.reduceEqDiff, reduceCtorEq, ↓reduceIte, Nat.reduceLT, Nat.reduceAdd, Nat.reduceMul, Nat.reduceSub, Nat.reduceLeDiff, Nat.reduceBEq, Int.reduceEq, Int.reduceNeg, tk, ntmps24, results24, s49, s16, s57, F53, F18, F57, fillA, placeT]
  refine ⟨⟨h1, h2, h3, h4, h5, h6, h7⟩, ?_⟩
  rw [if_pos hi]
  refine hK _ ?_; clear hK K
  have hL1 : shLL [.i] (reachL fs ns) = true := pick1_sh _ _
  have hL2 : (reachL fs ns).length ≤ fs.length := pick1_len _ _
  have hL3 : ∀ j, j < (reachL fs ns).length → ∃ a : Nat, a < fs.length ∧ (reachL fs ns).getD j [] = [.i .i64 (a : Int)] := fun j hj => by
    obtain ⟨a, q1, _, q2⟩ := pick1_get hj
    exact ⟨a, q1, q2⟩
  generalize reachL fs ns = L at hL1 hL2 hL3 hans ⊢
  refine seqK fun K hK => ?_
  refine seqK fun K2 hK2 => ?_
  simp only [bW, ↓splitB_true, ↓splitB_false, nilCmp, opConv, eq_self, if_true, if_false, Nat.reduceEqDiff, reduceCtorEq, ↓reduceIte, Nat.reduceLT, Nat.reduceAdd, Nat.reduceMul, Nat.reduceSub, Nat.reduceLeDiff, Nat.reduceBEq, Int.reduceEq, Int.reduceNeg, tk, ntmps24, results24, s49, s16, s57, F53, F18, F57, fillA, placeT]
  refine hK2 _ ?_; clear hK2 K2
  rw [awp_block]
  refine awp_loop_sem (sem_nil 3 0 777777 6 rfl rfl rfl) ?_
  simp only [List.set_cons_zero, List.set_cons_succ]
  refine loopW [1, 2, 3, 4, 5] (fun i : Nat => stL 98 [(1, .a 500000 0), (2, .a 500001 0), (3, .a 500002 0), (4, .r 500003), (5, .d (.i .i64 i))] [(500000, some (.box [.d (.l 6 fs), .d (.l 1 ns)])), (500001, some (.box [.z 6, .z 1])), (500002, some (.box [.r 500004, .z 1])), (500003, some (.row 1 L true false 0)), (500004, some (.row 6 ((L.take i).map (newFun fs L)) true false 0))]) (fun i => i ≤ L.length) (fun i => L.length - i) ?_ ?_
  · refine ⟨?_, 0, ?_, by omega⟩
    · simp only [bK, Nat.reduceEqDiff, reduceCtorEq, ↓reduceIte, Nat.reduceBEq, Nat.reduceLeDiff, Nat.reduceAdd, if_true, if_false]
    · simp only [bK, Nat.reduceEqDiff, reduceCtorEq, ↓reduceIte, Nat.reduceBEq, Nat.reduceLeDiff, Nat.reduceAdd, if_true, if_false]
      try rfl
  rintro i hil
  refine seqK fun K3 hK3 => ?_
  simp only [bW, ↓splitB_true, ↓splitB_false, nilCmp, opConv, eq_self, if_true, if_false, Nat.reduceEqDiff, reduceCtorEq, ↓reduceIte, Nat.reduceLT, Nat.reduceAdd, Nat.reduceMul, Nat.reduceSub, Nat.reduceLeDiff, Nat.reduceBEq, Int.reduceEq, Int.reduceNeg, tk, ntmps24, results24, s49, s16, s57, F53, F18, F57, fillA, placeT]
  refine splitB_intro (fun hb => hK3 _ ?_) (fun hb => hK _ ?_) <;> clear hK3 K3
  · have hlt := of_decide_eq_true hb
    clear hb
    have hlt : i < L.length := by omega
    obtain ⟨a, hal, hLa⟩ := hL3 i hlt
    have hts := map_step (newFun fs L) (d := []) hlt
    rw [hLa, newFun_at] at hts
    have hrow := shLL_get h1 hal
    have hok := okLL_get h2 hal
    have hwt := wtLL_mono hal
    have hco := img_code hi hal
    have hins := fun k => img_ins hi (i := a) (k := k) hal
    generalize hrw : fs.getD a [] = row at hrow hok hwt hts hco hins
    obtain ⟨cm, qm, rfl, em, hrow⟩ := shL_cons hrow
    obtain ⟨cw, qw, rfl, ew, hrow⟩ := shL_cons hrow
    obtain ⟨ca, qa, rfl, ea, hrow⟩ := shL_cons hrow
    obtain ⟨cy, qy, rfl, ey, hrow⟩ := shL_cons hrow
    obtain ⟨cl, ql, rfl, el, hrow⟩ := shL_cons hrow
    obtain ⟨cc, qc, rfl, ec, hrow⟩ := shL_cons hrow
    obtain rfl := shL_nil hrow
    obtain ⟨m, rfl⟩ := shD_s em
    obtain ⟨w, rfl⟩ := shD_s ew
    obtain ⟨za, ps, rfl, hza, ha⟩ := shD_l2 ea
    obtain rfl : za = 1 := hza
    obtain ⟨ty, rfl⟩ := shD_i ey
    obtain ⟨sl, rfl⟩ := shD_i el
    obtain ⟨zc, cs, rfl, hzc, hc⟩ := shD_l2 ec
    obtain rfl : zc = 2 := hzc
    simp only [okL_cons, okL_nil, okD_s, okD_l, okD_i, okD_b, and_true, true_and] at hok
    obtain ⟨k1, k2, ⟨k3, k3'⟩, k4, k5, ⟨k6, k6'⟩⟩ := hok
    simp only [wtL, wt] at hwt
    simp only [codeL] at hco hins
    rw [movF_row] at hts
    have hsa := scal_i ha
    refine seqK fun K4 hK4 => ?_
    rw [awp_block]
    refine seqK fun K5 hK5 => ?_
    refine awp_ord [0, 1, 2, 3, 4, 5, 6, 7, 8, 9] (fun i => [1, 1, 1, 1, 1, 1, 1, 1, 2, 0].getD i 0) (by decide +kernel) ?_
    simp only [bW, ↓splitB_true, ↓splitB_false, nilCmp, opConv, eq_self, if_true, if_false, Nat.reduceEqDiff, reduceCtorEq, ↓reduceIte, Nat.reduceLT, Nat.reduceAdd, Nat.reduceMul, Nat.reduceSub, Nat.reduceLeDiff, Nat.reduceBEq, Int.reduceEq, Int.reduceNeg, tk, ntmps24, results24, s57, F57, awpXs, xk_0, xk_1, xk_2, ext_refl, ext_upd, noneB]
    refine ⟨⟨by omega, by omega⟩, ?_⟩
    rw [hLa]
    simp only [bW, ↓splitB_true, ↓splitB_false, nilCmp, opConv, eq_self, if_true, if_false, Nat.reduceEqDiff, reduceCtorEq, ↓reduceIte, Nat.reduceLT, Nat.reduceAdd, Nat.reduceMul, Nat.reduceSub, Nat.reduceLeDiff, Nat.reduceBEq, Int.reduceEq, Int.reduceNeg, tk, ntmps24, results24, s57, F57, awpXs, xk_0, xk_1, xk_2, ext_refl, ext_upd, noneB]
    refine ⟨⟨by omega, by omega⟩, ?_⟩
    rw [hrw]
    simp only [bW, ↓splitB_true, ↓splitB_false, nilCmp, opConv, eq_self, if_true, if_false, Nat.reduceEqDiff, reduceCtorEq, ↓reduceIte, Nat.reduceLT, Nat.reduceAdd, Nat.reduceMul, Nat.reduceSub, Nat.reduceLeDiff, Nat.reduceBEq, Int.reduceEq, Int.reduceNeg, tk, ntmps24, results24, s57, F57, awpXs, xk_0, xk_1, xk_2, ext_refl, ext_upd, noneB]
    refine hK5 _ ?_; clear hK5 K5
    refine seqK fun K5 hK5 => ?_
    simp only [bW, ↓splitB_true, ↓splitB_false, nilCmp, opConv, eq_self, if_true, if_false, Nat.reduceEqDiff, reduceCtorEq, ↓reduceIte, Nat.reduceLT, Nat.reduceAdd, Nat.reduceMul, Nat.reduceSub, Nat.reduceLeDiff, Nat.reduceBEq, Int.reduceEq, Int.reduceNeg, tk, ntmps24, results24, s49, s16, s57, F53, F18, F57, fillA, placeT]
    refine ⟨⟨by omega, by omega⟩, ?_⟩
    rw [hsa]
    refine hK5 _ ?_; clear hK5 K5
    refine seqK fun K5 hK5 => ?_
    simp only [bW, ↓splitB_true, ↓splitB_false, nilCmp, opConv, eq_self, if_true, if_false, Nat.reduceEqDiff, reduceCtorEq, ↓reduceIte, Nat.reduceLT, Nat.reduceAdd, Nat.reduceMul, Nat.reduceSub, Nat.reduceLeDiff, Nat.reduceBEq, Int.reduceEq, Int.reduceNeg, tk, ntmps24, results24, s49, s16, s57, F53, F18, F57, fillA, placeT]
    refine hK5 _ ?_; clear hK5 K5
    refine seqK fun K5 hK5 => ?_
    refine seqK fun K6 hK6 => ?_
    simp only [bW, ↓splitB_true, ↓splitB_false, nilCmp, opConv, eq_self, if_true, if_false, Nat.reduceEqDiff, reduceCtorEq, ↓reduceIte, Nat.reduceLT, Nat.reduceAdd, Nat.reduceMul, Nat.reduceSub, Nat.reduceLeDiff, Nat.reduceBEq, Int.reduceEq, Int.reduceNeg, tk, ntmps24, results24, s49, s16, s57, F53, F18, F57, fillA, placeT]
    refine hK6 _ ?_; clear hK6 K6
    rw [awp_block]
    refine loopW [1, 2, 3, 4, 5, 6, 7, 8] (fun k : Nat => stL 98 [(1, .a 500000 0), (2, .a 500001 0), (3, .a 500002 0), (4, .r 500003), (5, .d (.i .i64 i)), (6, .a 500004 0), (7, .r 500005), (8, .d (.i .i64 k))] [(500000, some (.box [.d (.l 6 fs), .d (.l 1 ns)])), (500001, some (.box [.z 6, .z 1])), (500002, some (.box [.r 500006, .z 1])), (500003, some (.row 1 L true false 0)), (500004, some (.box [.d (.s m), .d (.s w), .r 500007, .d (.i .i64 ty), .d (.i .i64 sl), .d (.l 2 cs)])), (500005, some (.row 2 ((cs.take k).map (movI fs.length L)) true false 0)), (500006, some (.row 6 ((L.take i).map (newFun fs L)) true false 0)), (500007, some (.row 1 ps true false 0))]) (fun k => k ≤ cs.length) (fun k => cs.length - k) ?_ ?_
    · refine ⟨?_, 0, ?_, by omega⟩
      · simp only [bK, Nat.reduceEqDiff, reduceCtorEq, ↓reduceIte, Nat.reduceBEq, Nat.reduceLeDiff, Nat.reduceAdd, if_true, if_false]
      · simp only [bK, Nat.reduceEqDiff, reduceCtorEq, ↓reduceIte, Nat.reduceBEq, Nat.reduceLeDiff, Nat.reduceAdd, if_true, if_false]
        try rfl
    rintro k hk
    refine seqK fun K6 hK6 => ?_
    simp only [bW, ↓splitB_true, ↓splitB_false, nilCmp, opConv, eq_self, if_true, if_false, Nat.reduceEqDiff, reduceCtorEq, ↓reduceIte, Nat.reduceLT, Nat.reduceAdd, Nat.reduceMul, Nat.reduceSub, Nat.reduceLeDiff, Nat.reduceBEq, Int.reduceEq, Int.reduceNeg, tk, ntmps24, results24, s49, s16, s57, F53, F18, F57, fillA, placeT]
    refine splitB_intro (fun hb => hK6 _ ?_) (fun hb => hK5 _ ?_) <;> clear hK6 K6
    · have hltk := of_decide_eq_true hb
      clear hb
      have hltk : k < cs.length := by omega
      have hrow := shLL_get hc hltk
      have htc := map_step (movI fs.length L) (d := []) hltk
      have hin := hins k hltk
      have htk : ((cs.take k).map (movI fs.length L)).length ≤ k := by rw [List.length_map, List.length_take]; omega
      generalize hrw2 : cs.getD k [] = row2 at hrow htc hin
      obtain ⟨c1, q1, rfl, e1, hrow⟩ := shL_cons hrow
      obtain ⟨c2, q2, rfl, e2, hrow⟩ := shL_cons hrow
      obtain rfl := shL_nil hrow
      obtain ⟨op, rfl⟩ := shD_i e1
      obtain ⟨b, rfl⟩ := shD_i e2
      have hin : insP op b := of_decide_eq_true (show decide (insP op b) = true from hin)
      obtain ⟨i1, i2, i3⟩ := hin
      refine seqK fun K7 hK7 => ?_
      rw [awp_block]
      refine seqK fun K8 hK8 => ?_
      simp only [bW, ↓splitB_true, ↓splitB_false, nilCmp, opConv, eq_self, if_true, if_false, Nat.reduceEqDiff, reduceCtorEq, ↓reduceIte, Nat.reduceLT, Nat.reduceAdd, Nat.reduceMul, Nat.reduceSub, Nat.reduceLeDiff, Nat.reduceBEq, Int.reduceEq, Int.reduceNeg, tk, ntmps24, results24, s49, s16, s57, F53, F18, F57, fillA, placeT]
      refine ⟨⟨by omega, by omega⟩, ?_⟩
      rw [hrw2]
      simp only [bW, ↓splitB_true, ↓splitB_false, nilCmp, opConv, eq_self, if_true, if_false, Nat.reduceEqDiff, reduceCtorEq, ↓reduceIte, Nat.reduceLT, Nat.reduceAdd, Nat.reduceMul, Nat.reduceSub, Nat.reduceLeDiff, Nat.reduceBEq, Int.reduceEq, Int.reduceNeg, tk, ntmps24, results24, s49, s16, s57, F53, F18, F57, fillA, placeT]
      refine hK8 _ ?_; clear hK8 K8
      refine seqK fun K8 hK8 => ?_
      simp only [bW, ↓splitB_true, ↓splitB_false, nilCmp, opConv, eq_self, if_true, if_false, Nat.reduceEqDiff, reduceCtorEq, ↓reduceIte, Nat.reduceLT, Nat.reduceAdd, Nat.reduceMul, Nat.reduceSub, Nat.reduceLeDiff, Nat.reduceBEq, Int.reduceEq, Int.reduceNeg, tk, ntmps24, results24, s49, s16, s57, F53, F18, F57, fillA, placeT]
      refine splitB_intro (fun hb => ?_) (fun hb => ?_)
      · have hb := of_decide_eq_true hb
        refine splitB_intro (fun hb2 => ?_) (fun hb2 => ?_)
        · have hb2 := of_decide_eq_true hb2
          rw [movI_yes ⟨hb, by omega, hb2⟩] at htc
          refine ⟨⟨hL1, by omega⟩, ?_⟩
          refine hK8 _ ?_; clear hK8 K8
          simp only [bW, ↓splitB_true, ↓splitB_false, nilCmp, opConv, eq_self, if_true, if_false, Nat.reduceEqDiff, reduceCtorEq, ↓reduceIte, Nat.reduceLT, Nat.reduceAdd, Nat.reduceMul, Nat.reduceSub, Nat.reduceLeDiff, Nat.reduceBEq, Int.reduceEq, Int.reduceNeg, tk, ntmps24, results24, s49, s16, s57, F53, F18, F57, fillA, placeT]
          refine ⟨⟨by omega, by omega⟩, ?_⟩
          refine hK7 _ ?_; clear hK7 K7
          simp only [bW, ↓splitB_true, ↓splitB_false, nilCmp, opConv, eq_self, if_true, if_false, Nat.reduceEqDiff, reduceCtorEq, ↓reduceIte, Nat.reduceLT, Nat.reduceAdd, Nat.reduceMul, Nat.reduceSub, Nat.reduceLeDiff, Nat.reduceBEq, Int.reduceEq, Int.reduceNeg, tk, ntmps24, results24, s49, s16, s57, F53, F18, F57, fillA, placeT]
          simp (disch := omega) only [wrap64]
          refine ⟨?_, k + 1, ?_, by omega, by omega⟩
          · simp only [bK, Nat.reduceEqDiff, reduceCtorEq, ↓reduceIte, Nat.reduceBEq, Nat.reduceLeDiff, Nat.reduceAdd, if_true, if_false]
          · simp only [bK, Nat.reduceEqDiff, reduceCtorEq, ↓reduceIte, Nat.reduceBEq, Nat.reduceLeDiff, Nat.reduceAdd, if_true, if_false]
            rw [htc]
            refine stL_eq ?_ ?_
            · simp only [Option.some.injEq, Ret.mk.injEq, List.cons.injEq, Prod.mk.injEq, AV.d.injEq, D.i.injEq, D.b.injEq, D.s.injEq, true_and, and_true]
              try omega
            · try rfl
        · have hb2 := of_decide_eq_false hb2
          rw [movI_no (fun h => hb2 h.2.2)] at htc
          refine hK8 _ ?_; clear hK8 K8
          simp only [bW, ↓splitB_true, ↓splitB_false, nilCmp, opConv, eq_self, if_true, if_false, Nat.reduceEqDiff, reduceCtorEq, ↓reduceIte, Nat.reduceLT, Nat.reduceAdd, Nat.reduceMul, Nat.reduceSub, Nat.reduceLeDiff, Nat.reduceBEq, Int.reduceEq, Int.reduceNeg, tk, ntmps24, results24, s49, s16, s57, F53, F18, F57, fillA, placeT]
          refine ⟨⟨by omega, by omega⟩, ?_⟩
          refine hK7 _ ?_; clear hK7 K7
          simp only [bW, ↓splitB_true, ↓splitB_false, nilCmp, opConv, eq_self, if_true, if_false, Nat.reduceEqDiff, reduceCtorEq, ↓reduceIte, Nat.reduceLT, Nat.reduceAdd, Nat.reduceMul, Nat.reduceSub, Nat.reduceLeDiff, Nat.reduceBEq, Int.reduceEq, Int.reduceNeg, tk, ntmps24, results24, s49, s16, s57, F53, F18, F57, fillA, placeT]
          simp (disch := omega) only [wrap64]
          refine ⟨?_, k + 1, ?_, by omega, by omega⟩
          · simp only [bK, Nat.reduceEqDiff, reduceCtorEq, ↓reduceIte, Nat.reduceBEq, Nat.reduceLeDiff, Nat.reduceAdd, if_true, if_false]
          · simp only [bK, Nat.reduceEqDiff, reduceCtorEq, ↓reduceIte, Nat.reduceBEq, Nat.reduceLeDiff, Nat.reduceAdd, if_true, if_false]
            rw [htc]
            refine stL_eq ?_ ?_
            · simp only [Option.some.injEq, Ret.mk.injEq, List.cons.injEq, Prod.mk.injEq, AV.d.injEq, D.i.injEq, D.b.injEq, D.s.injEq, true_and, and_true]
              try omega
            · try rfl
      · have hb := of_decide_eq_false hb
        rw [movI_no (fun h => hb h.1)] at htc
        refine hK8 _ ?_; clear hK8 K8
        simp only [bW, ↓splitB_true, ↓splitB_false, nilCmp, opConv, eq_self, if_true, if_false, Nat.reduceEqDiff, reduceCtorEq, ↓reduceIte, Nat.reduceLT, Nat.reduceAdd, Nat.reduceMul, Nat.reduceSub, Nat.reduceLeDiff, Nat.reduceBEq, Int.reduceEq, Int.reduceNeg, tk, ntmps24, results24, s49, s16, s57, F53, F18, F57, fillA, placeT]
        refine ⟨⟨by omega, by omega⟩, ?_⟩
        refine hK7 _ ?_; clear hK7 K7
        simp only [bW, ↓splitB_true, ↓splitB_false, nilCmp, opConv, eq_self, if_true, if_false, Nat.reduceEqDiff, reduceCtorEq, ↓reduceIte, Nat.reduceLT, Nat.reduceAdd, Nat.reduceMul, Nat.reduceSub, Nat.reduceLeDiff, Nat.reduceBEq, Int.reduceEq, Int.reduceNeg, tk, ntmps24, results24, s49, s16, s57, F53, F18, F57, fillA, placeT]
        simp (disch := omega) only [wrap64]
        refine ⟨?_, k + 1, ?_, by omega, by omega⟩
        · simp only [bK, Nat.reduceEqDiff, reduceCtorEq, ↓reduceIte, Nat.reduceBEq, Nat.reduceLeDiff, Nat.reduceAdd, if_true, if_false]
        · simp only [bK, Nat.reduceEqDiff, reduceCtorEq, ↓reduceIte, Nat.reduceBEq, Nat.reduceLeDiff, Nat.reduceAdd, if_true, if_false]
          rw [htc]
          refine stL_eq ?_ ?_
          · simp only [Option.some.injEq, Ret.mk.injEq, List.cons.injEq, Prod.mk.injEq, AV.d.injEq, D.i.injEq, D.b.injEq, D.s.injEq, true_and, and_true]
            try omega
          · try rfl
    · have hge := of_decide_eq_false hb
      obtain rfl : k = cs.length := by omega
      clear hb hge
      rw [List.take_length]
      refine seqK fun K6 hK6 => ?_
      simp only [bW, ↓splitB_true, ↓splitB_false, nilCmp, opConv, eq_self, if_true, if_false, Nat.reduceEqDiff, reduceCtorEq, ↓reduceIte, Nat.reduceLT, Nat.reduceAdd, Nat.reduceMul, Nat.reduceSub, Nat.reduceLeDiff, Nat.reduceBEq, Int.reduceEq, Int.reduceNeg, tk, ntmps24, results24, s49, s16, s57, F53, F18, F57, fillA, placeT]
      refine hK6 _ ?_; clear hK6 K6
      simp only [bW, ↓splitB_true, ↓splitB_false, nilCmp, opConv, eq_self, if_true, if_false, Nat.reduceEqDiff, reduceCtorEq, ↓reduceIte, Nat.reduceLT, Nat.reduceAdd, Nat.reduceMul, Nat.reduceSub, Nat.reduceLeDiff, Nat.reduceBEq, Int.reduceEq, Int.reduceNeg, tk, ntmps24, results24, s49, s16, s57, F53, F18, F57, fillA, placeT]
      have htl : ((L.take i).map (newFun fs L)).length ≤ i := by rw [List.length_map, List.length_take]; omega
      refine ⟨⟨by omega, by omega⟩, ?_⟩
      refine hK4 _ ?_; clear hK5 K5 hK4 K4
      simp only [bW, ↓splitB_true, ↓splitB_false, nilCmp, opConv, eq_self, if_true, if_false, Nat.reduceEqDiff, reduceCtorEq, ↓reduceIte, Nat.reduceLT, Nat.reduceAdd, Nat.reduceMul, Nat.reduceSub, Nat.reduceLeDiff, Nat.reduceBEq, Int.reduceEq, Int.reduceNeg, tk, ntmps24, results24, s49, s16, s57, F53, F18, F57, fillA, placeT]
      simp (disch := omega) only [wrap64]
      refine ⟨?_, i + 1, ?_, by omega, by omega⟩
      · simp only [bK, Nat.reduceEqDiff, reduceCtorEq, ↓reduceIte, Nat.reduceBEq, Nat.reduceLeDiff, Nat.reduceAdd, if_true, if_false]
      · simp only [bK, Nat.reduceEqDiff, reduceCtorEq, ↓reduceIte, Nat.reduceBEq, Nat.reduceLeDiff, Nat.reduceAdd, if_true, if_false]
        rw [hts]
        refine stL_eq ?_ ?_
        · simp only [Option.some.injEq, Ret.mk.injEq, List.cons.injEq, Prod.mk.injEq, AV.d.injEq, D.i.injEq, D.b.injEq, D.s.injEq, true_and, and_true]
          try omega
        · try rfl
  have hge := of_decide_eq_false hb
  obtain rfl : i = L.length := by omega
  clear hb hge
  rw [List.take_length]
  refine seqK fun K hK => ?_
  refine seqK fun K2 hK2 => ?_
  simp only [bW, ↓splitB_true, ↓splitB_false, nilCmp, opConv, eq_self, if_true, if_false, Nat.reduceEqDiff, reduceCtorEq, ↓reduceIte, Nat.reduceLT, Nat.reduceAdd, Nat.reduceMul, Nat.reduceSub, Nat.reduceLeDiff, Nat.reduceBEq, Int.reduceEq, Int.reduceNeg, tk, ntmps24, results24, s49, s16, s57, F53, F18, F57, fillA, placeT]
  refine hK2 _ ?_; clear hK2 K2
  rw [awp_block]
  refine awp_loop_sem (sem_nil 500002 1 777777 1 rfl rfl rfl) ?_
  simp only [List.set_cons_zero, List.set_cons_succ]
  refine loopW [1, 2, 3, 4, 10] (fun i : Nat => stL 98 [(1, .a 500000 0), (2, .a 500001 0), (3, .a 500002 0), (4, .r 500003), (10, .d (.i .i64 i))] [(500000, some (.box [.d (.l 6 fs), .d (.l 1 ns)])), (500001, some (.box [.z 6, .z 1])), (500002, some (.box [.r 500004, .r 500005])), (500003, some (.row 1 L true false 0)), (500004, some (.row 6 (L.map (newFun fs L)) true false 0)), (500005, some (.row 1 ((ns.take i).map (newMain L)) true false 0))]) (fun i => i ≤ ns.length) (fun i => ns.length - i) ?_ ?_
  · refine ⟨?_, 0, ?_, by omega⟩
    · simp only [bK, Nat.reduceEqDiff, reduceCtorEq, ↓reduceIte, Nat.reduceBEq, Nat.reduceLeDiff, Nat.reduceAdd, if_true, if_false]
    · simp only [bK, Nat.reduceEqDiff, reduceCtorEq, ↓reduceIte, Nat.reduceBEq, Nat.reduceLeDiff, Nat.reduceAdd, if_true, if_false]
      try rfl
  rintro i hin
  refine seqK fun K3 hK3 => ?_
  simp only [bW, ↓splitB_true, ↓splitB_false, nilCmp, opConv, eq_self, if_true, if_false, Nat.reduceEqDiff, reduceCtorEq, ↓reduceIte, Nat.reduceLT, Nat.reduceAdd, Nat.reduceMul, Nat.reduceSub, Nat.reduceLeDiff, Nat.reduceBEq, Int.reduceEq, Int.reduceNeg, tk, ntmps24, results24, s49, s16, s57, F53, F18, F57, fillA, placeT]
  refine splitB_intro (fun hb => hK3 _ ?_) (fun hb => hK _ ?_) <;> clear hK3 K3
  · have hlt := of_decide_eq_true hb
    clear hb
    have hlt : i < ns.length := by omega
    have hrow := shLL_get h5 hlt
    have htm := map_step (newMain L) (d := []) hlt
    have htl : ((ns.take i).map (newMain L)).length ≤ i := by rw [List.length_map, List.length_take]; omega
    generalize hrw : ns.getD i [] = row at hrow htm
    obtain ⟨c1, q1, rfl, e1, hrow⟩ := shL_cons hrow
    obtain rfl := shL_nil hrow
    obtain ⟨v, rfl⟩ := shD_i e1
    have hnm : newMain L [.i .i64 v] = [.i .i64 (idxN L v)] := rfl
    rw [hnm] at htm
    refine seqK fun K4 hK4 => ?_
    rw [awp_block]
    refine awp_ord [0, 1, 2, 3, 4, 5, 6, 7, 8, 9, 10, 11, 12] (fun i => [1, 1, 1, 1, 1, 1, 1, 1, 2, 2, 0, 0, 0].getD i 0) (by decide +kernel) ?_
    simp only [bW, ↓splitB_true, ↓splitB_false, nilCmp, opConv, eq_self, if_true, if_false, Nat.reduceEqDiff, reduceCtorEq, ↓reduceIte, Nat.reduceLT, Nat.reduceAdd, Nat.reduceMul, Nat.reduceSub, Nat.reduceLeDiff, Nat.reduceBEq, Int.reduceEq, Int.reduceNeg, tk, ntmps24, results24, s57, F57, awpXs, xk_0, xk_1, xk_2, ext_refl, ext_upd, noneB]
    refine ⟨⟨by omega, by omega⟩, ?_⟩
    rw [hrw]
    simp only [bW, ↓splitB_true, ↓splitB_false, nilCmp, opConv, eq_self, if_true, if_false, Nat.reduceEqDiff, reduceCtorEq, ↓reduceIte, Nat.reduceLT, Nat.reduceAdd, Nat.reduceMul, Nat.reduceSub, Nat.reduceLeDiff, Nat.reduceBEq, Int.reduceEq, Int.reduceNeg, tk, ntmps24, results24, s57, F57, awpXs, xk_0, xk_1, xk_2, ext_refl, ext_upd, noneB]
    refine ⟨⟨hL1, by omega⟩, ?_⟩
    refine ⟨⟨by omega, by omega⟩, ?_⟩
    refine hK4 _ ?_; clear hK4 K4
    simp only [bW, ↓splitB_true, ↓splitB_false, nilCmp, opConv, eq_self, if_true, if_false, Nat.reduceEqDiff, reduceCtorEq, ↓reduceIte, Nat.reduceLT, Nat.reduceAdd, Nat.reduceMul, Nat.reduceSub, Nat.reduceLeDiff, Nat.reduceBEq, Int.reduceEq, Int.reduceNeg, tk, ntmps24, results24, s49, s16, s57, F53, F18, F57, fillA, placeT]
    simp (disch := omega) only [wrap64]
    refine ⟨?_, i + 1, ?_, by omega, by omega⟩
    · simp only [bK, Nat.reduceEqDiff, reduceCtorEq, ↓reduceIte, Nat.reduceBEq, Nat.reduceLeDiff, Nat.reduceAdd, if_true, if_false]
    · simp only [bK, Nat.reduceEqDiff, reduceCtorEq, ↓reduceIte, Nat.reduceBEq, Nat.reduceLeDiff, Nat.reduceAdd, if_true, if_false]
      rw [htm]
      refine stL_eq ?_ ?_
      · simp only [Option.some.injEq, Ret.mk.injEq, List.cons.injEq, Prod.mk.injEq, AV.d.injEq, D.i.injEq, D.b.injEq, D.s.injEq, true_and, and_true]
        try omega
      · try rfl
  have hge := of_decide_eq_false hb
  obtain rfl : i = ns.length := by omega
  clear hb hge
  rw [List.take_length]
  simp only [bW, ↓splitB_true, ↓splitB_false, nilCmp, opConv, eq_self, if_true, if_false, Nat.reduceEqDiff, reduceCtorEq, ↓reduceIte, Nat.reduceLT, Nat.reduceAdd, Nat.reduceMul, Nat.reduceSub, Nat.reduceLeDiff, Nat.reduceBEq, Int.reduceEq, Int.reduceNeg, tk, ntmps24, results24, s49, s16, s57, F53, F18, F57, fillA, placeT]
  rw [hans]

end Go.Fs.Sr

set_option linter.unusedVariables false
namespace Go.Fs.Sr
/-- A list of which a first part is done. -/
def mix (f : List D → List D) (cs : List (List D)) (k : Nat) : List (List D) := (cs.take k).map f ++ cs.drop k
theorem mix_len {f : List D → List D} {cs : List (List D)} {k : Nat} (h : k ≤ cs.length) : (mix f cs k).length = cs.length := by
  simp [mix]; omega
theorem mix_zero (f : List D → List D) (cs : List (List D)) : mix f cs 0 = cs := by simp [mix]
theorem mix_all (f : List D → List D) (cs : List (List D)) : mix f cs cs.length = cs.map f := by simp [mix]
theorem mix_get {f : List D → List D} {cs : List (List D)} {k : Nat} (h : k < cs.length) : (mix f cs k).getD k [] = cs.getD k [] := by
  have h1 : ((cs.take k).map f).length = k := by rw [List.length_map, List.length_take]; omega
  rw [mix, List.getD_eq_getElem?_getD, List.getElem?_append_right (by omega), h1, Nat.sub_self, List.getElem?_drop, Nat.add_zero, List.getD_eq_getElem?_getD]
theorem mix_set {f : List D → List D} {cs : List (List D)} {k : Nat} (h : k < cs.length) : (mix f cs k).set k (f (cs.getD k [])) = mix f cs (k + 1) := by
  have h1 : ((cs.take k).map f).length = k := by rw [List.length_map, List.length_take]; omega
  rw [mix, List.set_append_right _ _ (by omega), h1, Nat.sub_self, drop_get h, List.set_cons_zero, mix, map_step f (d := []) h, List.append_assoc]
  rfl
theorem set_same {xs : List (List D)} {k : Nat} (h : k < xs.length) : xs.set k (xs.getD k []) = xs := by
  rw [List.getD_eq_getElem?_getD, List.getElem?_eq_getElem h]
  exact List.set_getElem_self h
theorem mix_same {f : List D → List D} {cs : List (List D)} {k : Nat} (h : k < cs.length) (hf : f (cs.getD k []) = cs.getD k []) : mix f cs (k + 1) = mix f cs k := by
  rw [← mix_set h, hf, ← mix_get (f := f) h]
  exact set_same (by rw [mix_len (by omega)]; exact h)
theorem pick1_ne {n : Nat} {f : Nat → Bool} {i j : Nat} (hij : i < j) (hj : j < (pick1 n f).length) : (pick1 n f).getD i [] ≠ (pick1 n f).getD j [] := by
  have hp : (pick1 n f).Pairwise (· ≠ ·) := by
    unfold pick1
    rw [List.pairwise_map]
    refine (List.Pairwise.filter f List.pairwise_lt_range).imp fun {a b} hlt e => ?_
    have : (a : Int) = b := by simpa using e
    omega
  have hi : i < (pick1 n f).length := by omega
  rw [List.getD_eq_getElem?_getD, List.getD_eq_getElem?_getD, List.getElem?_eq_getElem hi, List.getElem?_eq_getElem hj]
  exact List.pairwise_iff_getElem.1 hp i j hi hj hij
theorem setCell_ne {xs : List (List D)} {a b o : Nat} {y : D} (h : b ≠ a) : (setCell xs a o y).getD b [] = xs.getD b [] := by
  rw [setCell, List.getD_eq_getElem?_getD, List.getElem?_set_ne (fun e => h e.symm), List.getD_eq_getElem?_getD]
theorem setCell_at {xs : List (List D)} {a o : Nat} {y : D} (h : a < xs.length) : (setCell xs a o y).getD a [] = (xs.getD a []).set o y := by
  rw [setCell, List.getD_eq_getElem?_getD, List.getElem?_set_self h]
  rfl
theorem st_eq2 {n : Nat} {E E' : Nat → AV} {H H' : Nat → Option Ob} (h : ∀ t, E t = E' t) (h' : ∀ k, H k = H' k) : St.mk n E H = St.mk n E' H' := by rw [funext h, funext h']
theorem OkO_F54 {fs ns : List (List D)} {K : D → Prop} (h1 : shLL lfun fs = true) (h2 : okLL fs = true) (h3 : shLL [.i] ns = true) (h4 : okLL ns = true) (h5 : imgB fs ns = true) (hk : K (.l 1 (reachL fs ns))) : OkO (F54 [.g [.l 6 fs, .l 1 ns]]) K := by
  simp only [F54]; rw [if_pos ⟨h1, h2, h3, h4, h5⟩]; exact hk
end Go.Fs.Sr
