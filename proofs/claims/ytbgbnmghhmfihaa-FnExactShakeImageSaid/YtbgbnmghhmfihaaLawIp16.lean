/- A part of the proof: an evaluator of the program's code over plain data, proved sound, and walks of the program's functions by it. No conditions beyond those in the theorems. -/
import Derived.Test.YtbgbnmghhmfihaaLawIp8
import Derived.Test.YtbgbnmghhmfihaaLawIp12
import Derived.Test.YtbgbnmghhmfihaaLawIp15
import Derived.Test.YtbgbnmghhmfihaaLawIp9
set_option linter.unusedVariables false
set_option linter.unusedSimpArgs false
set_option maxRecDepth 20000
set_option maxHeartbeats 2000000
namespace Go.Fs.Sr
open Go.Proofs.Try

theorem f50_ok {S : Nat → Option Summ} (hS : SumOK prog S) (ds : List D) (r : D) (hr : F50 ds = some r) : FnOK prog 50 (ds.map .d) { ret := r } := by
  unfold F50 at hr
  split at hr
  case h_2 => cases hr
  rename_i fs ns
  split at hr
  case isFalse => cases hr
  rename_i hc
  obtain ⟨h1, h2, h3, h4, h5⟩ := hc
  simp only [Option.some.injEq] at hr
  subst hr
  have hlen := img_len h5
  refine fnOK_awp (A := ⟨tab, S, .x⟩) tab_ok hS mixed func50 rfl rfl rfl rfl (by show 1 ≤ 85; decide) rfl ?_
  refine seqK fun K hK => ?_
  simp only [bW, ↓splitB_true, ↓splitB_false, nilCmp, opConv, eq_self, if_true, if_false, Nat.reduceEqDiff, reduceCtorEq, ↓reduceIte, Nat.reduceLT, Nat.reduceAdd, Nat.reduceMul, Nat.reduceSub, Nat.reduceLeDiff, Nat.reduceBEq, Int.reduceEq, Int.reduceNeg, tk, ntmps50, results50, zeroD, List.map_cons, List.map_nil, sr_len, Int.reduceSub, Int.reduceAdd, Int.reduceToNat, Int.reduceLE, Int.reduceLT, Int.toNat_zero, Int.reduceNeg, mCells, mCell]
  refine hK _ ?_; clear hK K
  refine seqK fun K hK => ?_
  simp only [bW, ↓splitB_true, ↓splitB_false, nilCmp, opConv, eq_self, if_true, if_false, Nat.reduceEqDiff, reduceCtorEq, ↓reduceIte, Nat.reduceLT, Nat.reduceAdd, Nat.reduceMul, Nat.reduceSub, Nat.reduceLeDiff, Nat.reduceBEq, Int.reduceEq, Int.reduceNeg, tk, ntmps50, results50, zeroD, List.map_cons, List.map_nil, sr_len, Int.reduceSub, Int.reduceAdd, Int.reduceToNat, Int.reduceLE, Int.reduceLT, Int.toNat_zero, Int.reduceNeg, mCells, mCell]
  refine ⟨⟨by omega, by omega, by omega⟩, ?_⟩
  simp only [sr_false]
  refine hK _ ?_; clear hK K
  refine seqK fun K hK => ?_
  refine seqK fun K2 hK2 => ?_
  simp only [bW, ↓splitB_true, ↓splitB_false, nilCmp, opConv, eq_self, if_true, if_false, Nat.reduceEqDiff, reduceCtorEq, ↓reduceIte, Nat.reduceLT, Nat.reduceAdd, Nat.reduceMul, Nat.reduceSub, Nat.reduceLeDiff, Nat.reduceBEq, Int.reduceEq, Int.reduceNeg, tk, ntmps50, results50, zeroD, List.map_cons, List.map_nil, sr_len, Int.reduceSub, Int.reduceAdd, Int.reduceToNat, Int.reduceLE, Int.reduceLT, Int.toNat_zero, Int.reduceNeg, mCells, mCell]
  refine hK2 _ ?_; clear hK2 K2
  rw [awp_block]
  refine loopW [1, 3, 4] (fun x : Nat × (Nat → Bool) × Nat => stL 85 [(1, .a 500000 0), (3, .r 500001), (4, .d (.i .i64 x.1))] [(500000, some (.box [.d (.l 6 fs), .d (.l 1 ns)])), (500001, some (.row 1 (sr fs.length x.2.1) true false x.2.2))]) (fun x => x.1 ≤ ns.length ∧ MInv fs ns x.2.1 x.1) (fun x => ns.length - x.1) ?_ ?_
  · refine ⟨?_, (0, fun _ => false, 0), ?_, by simp, minv_init fs ns⟩
    · simp only [bK, Nat.reduceEqDiff, reduceCtorEq, ↓reduceIte, Nat.reduceBEq, Nat.reduceLeDiff, Nat.reduceAdd, if_true, if_false]
    · simp only [bK, Nat.reduceEqDiff, reduceCtorEq, ↓reduceIte, Nat.reduceBEq, Nat.reduceLeDiff, Nat.reduceAdd, if_true, if_false]
      try rfl
  rintro ⟨i, seen, ve⟩ ⟨hi, hm⟩
  simp only at hi hm ⊢
  refine seqK fun K3 hK3 => ?_
  simp only [bW, ↓splitB_true, ↓splitB_false, nilCmp, opConv, eq_self, if_true, if_false, Nat.reduceEqDiff, reduceCtorEq, ↓reduceIte, Nat.reduceLT, Nat.reduceAdd, Nat.reduceMul, Nat.reduceSub, Nat.reduceLeDiff, Nat.reduceBEq, Int.reduceEq, Int.reduceNeg, tk, ntmps50, results50, zeroD, List.map_cons, List.map_nil, sr_len, Int.reduceSub, Int.reduceAdd, Int.reduceToNat, Int.reduceLE, Int.reduceLT, Int.toNat_zero, Int.reduceNeg, mCells, mCell]
  refine splitB_intro (fun hb => hK3 _ ?_) (fun hb => hK _ ?_) <;> clear hK3 K3
  · have hlt := of_decide_eq_true hb
    clear hb
    have hlt : i < ns.length := by omega
    obtain ⟨a, ea, hal⟩ := img_mains h5 h3 (ns.getD i []) (by
      rw [List.getD_eq_getElem?_getD, List.getElem?_eq_getElem hlt]
      exact List.getElem_mem hlt)
    have hm2 := minv_step hm hlt ea
    refine seqK fun K4 hK4 => ?_
    rw [awp_block]
    simp only [bW, ↓splitB_true, ↓splitB_false, nilCmp, opConv, eq_self, if_true, if_false, Nat.reduceEqDiff, reduceCtorEq, ↓reduceIte, Nat.reduceLT, Nat.reduceAdd, Nat.reduceMul, Nat.reduceSub, Nat.reduceLeDiff, Nat.reduceBEq, Int.reduceEq, Int.reduceNeg, tk, ntmps50, results50, zeroD, List.map_cons, List.map_nil, sr_len, Int.reduceSub, Int.reduceAdd, Int.reduceToNat, Int.reduceLE, Int.reduceLT, Int.toNat_zero, Int.reduceNeg, mCells, mCell]
    refine ⟨⟨by omega, by omega⟩, ?_⟩
    rw [ea]
    simp only [bW, ↓splitB_true, ↓splitB_false, nilCmp, opConv, eq_self, if_true, if_false, Nat.reduceEqDiff, reduceCtorEq, ↓reduceIte, Nat.reduceLT, Nat.reduceAdd, Nat.reduceMul, Nat.reduceSub, Nat.reduceLeDiff, Nat.reduceBEq, Int.reduceEq, Int.reduceNeg, tk, ntmps50, results50, zeroD, List.map_cons, List.map_nil, sr_len, Int.reduceSub, Int.reduceAdd, Int.reduceToNat, Int.reduceLE, Int.reduceLT, Int.toNat_zero, Int.reduceNeg, mCells, mCell]
    refine ⟨⟨by omega, by omega⟩, ?_⟩
    have hset : (sr fs.length seen).set a (D.b true :: List.drop 1 ((sr fs.length seen).getD a [])) = sr fs.length (upd seen a true) := by
      rw [sr_get hal]
      exact sr_set
    rw [hset]
    refine hK4 _ ?_; clear hK4 K4
    simp only [bW, ↓splitB_true, ↓splitB_false, nilCmp, opConv, eq_self, if_true, if_false, Nat.reduceEqDiff, reduceCtorEq, ↓reduceIte, Nat.reduceLT, Nat.reduceAdd, Nat.reduceMul, Nat.reduceSub, Nat.reduceLeDiff, Nat.reduceBEq, Int.reduceEq, Int.reduceNeg, tk, ntmps50, results50, zeroD, List.map_cons, List.map_nil, sr_len, Int.reduceSub, Int.reduceAdd, Int.reduceToNat, Int.reduceLE, Int.reduceLT, Int.toNat_zero, Int.reduceNeg, mCells, mCell]
    simp (disch := omega) only [wrap64]
    refine ⟨?_, (i + 1, upd seen a true, ve + 1), ?_, ⟨?_, hm2⟩, ?_⟩
    · simp only [bK, Nat.reduceEqDiff, reduceCtorEq, ↓reduceIte, Nat.reduceBEq, Nat.reduceLeDiff, Nat.reduceAdd, if_true, if_false]
    · simp only [bK, Nat.reduceEqDiff, reduceCtorEq, ↓reduceIte, Nat.reduceBEq, Nat.reduceLeDiff, Nat.reduceAdd, if_true, if_false]
      refine stL_eq ?_ rfl
      simp only [Option.some.injEq, Ret.mk.injEq, List.cons.injEq, Prod.mk.injEq, AV.d.injEq, D.i.injEq, D.b.injEq, D.s.injEq, true_and, and_true]
      try omega
    · show i + 1 ≤ _
      omega
    · show ns.length - (i + 1) < ns.length - i
      omega
  have hge := of_decide_eq_false hb
  obtain rfl : i = ns.length := by omega
  have hp := minv_end hm
  clear hm hb hge hi
  refine seqK fun K hK => ?_
  refine seqK fun K2 hK2 => ?_
  simp only [bW, ↓splitB_true, ↓splitB_false, nilCmp, opConv, eq_self, if_true, if_false, Nat.reduceEqDiff, reduceCtorEq, ↓reduceIte, Nat.reduceLT, Nat.reduceAdd, Nat.reduceMul, Nat.reduceSub, Nat.reduceLeDiff, Nat.reduceBEq, Int.reduceEq, Int.reduceNeg, tk, ntmps50, results50, zeroD, List.map_cons, List.map_nil, sr_len, Int.reduceSub, Int.reduceAdd, Int.reduceToNat, Int.reduceLE, Int.reduceLT, Int.toNat_zero, Int.reduceNeg, mCells, mCell]
  refine hK2 _ ?_; clear hK2 K2
  rw [awp_block]
  refine loopW [1, 3, 5] (fun x : Bool × (Nat → Bool) × Nat => stL 85 [(1, .a 500000 0), (3, .r 500001), (5, .d (.b x.1))] [(500000, some (.box [.d (.l 6 fs), .d (.l 1 ns)])), (500001, some (.row 1 (sr fs.length x.2.1) true false x.2.2))]) (fun x => PInv fs ns x.2.1 ∧ (x.1 = false → ∀ j, j < fs.length → clo fs x.2.1 j)) (fun x => 2 * un x.2.1 fs.length + if x.1 = true then 1 else 0) ?_ ?_
  · refine ⟨?_, (true, seen, ve), ?_, hp, fun h => by cases h⟩
    · simp only [bK, Nat.reduceEqDiff, reduceCtorEq, ↓reduceIte, Nat.reduceBEq, Nat.reduceLeDiff, Nat.reduceAdd, if_true, if_false]
    · simp only [bK, Nat.reduceEqDiff, reduceCtorEq, ↓reduceIte, Nat.reduceBEq, Nat.reduceLeDiff, Nat.reduceAdd, if_true, if_false]
      try rfl
  clear hp
  clear seen ve
  rintro ⟨more0, seen0, ve0⟩ ⟨hp, hcl⟩
  simp only at hp hcl ⊢
  refine seqK fun K3 hK3 => ?_
  simp only [bW, ↓splitB_true, ↓splitB_false, nilCmp, opConv, eq_self, if_true, if_false, Nat.reduceEqDiff, reduceCtorEq, ↓reduceIte, Nat.reduceLT, Nat.reduceAdd, Nat.reduceMul, Nat.reduceSub, Nat.reduceLeDiff, Nat.reduceBEq, Int.reduceEq, Int.reduceNeg, tk, ntmps50, results50, zeroD, List.map_cons, List.map_nil, sr_len, Int.reduceSub, Int.reduceAdd, Int.reduceToNat, Int.reduceLE, Int.reduceLT, Int.toNat_zero, Int.reduceNeg, mCells, mCell]
  refine splitB_intro (fun hb => hK3 _ ?_) (fun hb => hK _ ?_) <;> clear hK3 K3
  · subst hb
    rw [if_pos rfl]
    clear hcl
    rw [awp_block]
    refine seqK fun K4 hK4 => ?_
    simp only [bW, ↓splitB_true, ↓splitB_false, nilCmp, opConv, eq_self, if_true, if_false, Nat.reduceEqDiff, reduceCtorEq, ↓reduceIte, Nat.reduceLT, Nat.reduceAdd, Nat.reduceMul, Nat.reduceSub, Nat.reduceLeDiff, Nat.reduceBEq, Int.reduceEq, Int.reduceNeg, tk, ntmps50, results50, zeroD, List.map_cons, List.map_nil, sr_len, Int.reduceSub, Int.reduceAdd, Int.reduceToNat, Int.reduceLE, Int.reduceLT, Int.toNat_zero, Int.reduceNeg, mCells, mCell]
    refine hK4 _ ?_; clear hK4 K4
    refine seqK fun K4 hK4 => ?_
    simp only [bW, ↓splitB_true, ↓splitB_false, nilCmp, opConv, eq_self, if_true, if_false, Nat.reduceEqDiff, reduceCtorEq, ↓reduceIte, Nat.reduceLT, Nat.reduceAdd, Nat.reduceMul, Nat.reduceSub, Nat.reduceLeDiff, Nat.reduceBEq, Int.reduceEq, Int.reduceNeg, tk, ntmps50, results50, zeroD, List.map_cons, List.map_nil, sr_len, Int.reduceSub, Int.reduceAdd, Int.reduceToNat, Int.reduceLE, Int.reduceLT, Int.toNat_zero, Int.reduceNeg, mCells, mCell]
    refine hK4 _ ?_; clear hK4 K4
    rw [awp_block]
    refine loopW [1, 3, 5, 6] (fun x : Bool × (Nat → Bool) × Nat × Nat => stL 85 [(1, .a 500000 0), (3, .r 500001), (5, .d (.b x.1)), (6, .d (.i .i64 x.2.2.2))] [(500000, some (.box [.d (.l 6 fs), .d (.l 1 ns)])), (500001, some (.row 1 (sr fs.length x.2.1) true false x.2.2.1))]) (fun x => x.2.2.2 ≤ fs.length ∧ JInv fs ns (un seen0 fs.length) x.1 x.2.1 x.2.2.2) (fun x => fs.length - x.2.2.2) ?_ ?_
    · refine ⟨?_, (false, seen0, ve0, 0), ?_, Nat.zero_le _, ⟨hp, fun _ j hj => absurd hj (Nat.not_lt_zero j), Nat.le_refl _, fun h => by cases h⟩⟩
      · simp only [bK, Nat.reduceEqDiff, reduceCtorEq, ↓reduceIte, Nat.reduceBEq, Nat.reduceLeDiff, Nat.reduceAdd, if_true, if_false]
      · simp only [bK, Nat.reduceEqDiff, reduceCtorEq, ↓reduceIte, Nat.reduceBEq, Nat.reduceLeDiff, Nat.reduceAdd, if_true, if_false]
        try rfl
    rintro ⟨more, seen, ve, i⟩ ⟨hi, hj⟩
    simp only at hi hj ⊢
    refine seqK fun K5 hK5 => ?_
    simp only [bW, ↓splitB_true, ↓splitB_false, nilCmp, opConv, eq_self, if_true, if_false, Nat.reduceEqDiff, reduceCtorEq, ↓reduceIte, Nat.reduceLT, Nat.reduceAdd, Nat.reduceMul, Nat.reduceSub, Nat.reduceLeDiff, Nat.reduceBEq, Int.reduceEq, Int.reduceNeg, tk, ntmps50, results50, zeroD, List.map_cons, List.map_nil, sr_len, Int.reduceSub, Int.reduceAdd, Int.reduceToNat, Int.reduceLE, Int.reduceLT, Int.toNat_zero, Int.reduceNeg, mCells, mCell]
    refine splitB_intro (fun hb => hK5 _ ?_) (fun hb => ?_) <;> clear hK5 K5
    · have hlt := of_decide_eq_true hb
      clear hb
      have hlt : i < fs.length := by omega
      have hrow := shLL_get h1 hlt
      have hok := okLL_get h2 hlt
      have hcd : calls fs i = (codeL (fs.getD i [])).flatMap (callOf fs.length) := rfl
      have hins := fun k => img_ins h5 (i := i) (k := k) hlt
      generalize hrw : fs.getD i [] = row at hrow hok hcd hins
      obtain ⟨cm, qm, rfl, em, hrow⟩ := shL_cons hrow
      obtain ⟨cw, qw, rfl, ew, hrow⟩ := shL_cons hrow
      obtain ⟨ca, qa, rfl, ea, hrow⟩ := shL_cons hrow
      obtain ⟨cy, qy, rfl, ey, hrow⟩ := shL_cons hrow
      obtain ⟨cl, ql, rfl, el, hrow⟩ := shL_cons hrow
      obtain ⟨cc, qc, rfl, ec, hrow⟩ := shL_cons hrow
      obtain rfl := shL_nil hrow
      obtain ⟨m, rfl⟩ := shD_s em
      obtain ⟨w, rfl⟩ := shD_s ew
      obtain ⟨za, ps, rfl, hza, ha⟩ := shD_l2 ea
      obtain rfl : za = 1 := hza
      obtain ⟨ty, rfl⟩ := shD_i ey
      obtain ⟨sl, rfl⟩ := shD_i el
      obtain ⟨zc, cs, rfl, hzc, hc⟩ := shD_l2 ec
      obtain rfl : zc = 2 := hzc
      simp only [okL_cons, okL_nil, okD_s, okD_l, okD_i, okD_b, and_true, true_and] at hok
      obtain ⟨k1, k2, ⟨k3, k3'⟩, k4, k5, ⟨k6, k6'⟩⟩ := hok
      simp only [codeL] at hcd hins
      refine seqK fun K6 hK6 => ?_
      rw [awp_block]
      refine seqK fun K7 hK7 => ?_
      simp only [bW, ↓splitB_true, ↓splitB_false, nilCmp, opConv, eq_self, if_true, if_false, Nat.reduceEqDiff, reduceCtorEq, ↓reduceIte, Nat.reduceLT, Nat.reduceAdd, Nat.reduceMul, Nat.reduceSub, Nat.reduceLeDiff, Nat.reduceBEq, Int.reduceEq, Int.reduceNeg, tk, ntmps50, results50, zeroD, List.map_cons, List.map_nil, sr_len, Int.reduceSub, Int.reduceAdd, Int.reduceToNat, Int.reduceLE, Int.reduceLT, Int.toNat_zero, Int.reduceNeg, mCells, mCell]
      refine hK7 _ ?_; clear hK7 K7
      rw [awp_block]
      refine loopW [1, 3, 5, 6, 7] (fun x : Bool × (Nat → Bool) × Nat × Nat => stL 85 [(1, .a 500000 0), (3, .r 500001), (5, .d (.b x.1)), (6, .d (.i .i64 i)), (7, .d (.i .i64 x.2.2.2))] [(500000, some (.box [.d (.l 6 fs), .d (.l 1 ns)])), (500001, some (.row 1 (sr fs.length x.2.1) true false x.2.2.1))]) (fun x => x.2.2.2 ≤ cs.length ∧ KInv fs ns cs i (un seen0 fs.length) x.1 x.2.1 x.2.2.2) (fun x => cs.length - x.2.2.2) ?_ ?_
      · refine ⟨?_, (more, seen, ve, 0), ?_, Nat.zero_le _, kinv_init hj⟩
        · simp only [bK, Nat.reduceEqDiff, reduceCtorEq, ↓reduceIte, Nat.reduceBEq, Nat.reduceLeDiff, Nat.reduceAdd, if_true, if_false]
        · simp only [bK, Nat.reduceEqDiff, reduceCtorEq, ↓reduceIte, Nat.reduceBEq, Nat.reduceLeDiff, Nat.reduceAdd, if_true, if_false]
          try rfl
      clear hj
      rintro ⟨more, seen, ve, k⟩ ⟨hk, hj⟩
      simp only at hk hj ⊢
      refine seqK fun K7 hK7 => ?_
      simp only [bW, ↓splitB_true, ↓splitB_false, nilCmp, opConv, eq_self, if_true, if_false, Nat.reduceEqDiff, reduceCtorEq, ↓reduceIte, Nat.reduceLT, Nat.reduceAdd, Nat.reduceMul, Nat.reduceSub, Nat.reduceLeDiff, Nat.reduceBEq, Int.reduceEq, Int.reduceNeg, tk, ntmps50, results50, zeroD, List.map_cons, List.map_nil, sr_len, Int.reduceSub, Int.reduceAdd, Int.reduceToNat, Int.reduceLE, Int.reduceLT, Int.toNat_zero, Int.reduceNeg, mCells, mCell]
      refine ⟨⟨by omega, by omega⟩, ?_⟩
      rw [hrw]
      simp only [bW, ↓splitB_true, ↓splitB_false, nilCmp, opConv, eq_self, if_true, if_false, Nat.reduceEqDiff, reduceCtorEq, ↓reduceIte, Nat.reduceLT, Nat.reduceAdd, Nat.reduceMul, Nat.reduceSub, Nat.reduceLeDiff, Nat.reduceBEq, Int.reduceEq, Int.reduceNeg, tk, ntmps50, results50, zeroD, List.map_cons, List.map_nil, sr_len, Int.reduceSub, Int.reduceAdd, Int.reduceToNat, Int.reduceLE, Int.reduceLT, Int.toNat_zero, Int.reduceNeg, mCells, mCell]
      by_cases hkl : k < cs.length
      rotate_left
      · rw [decide_eq_false (show ¬ ((k : Int) < (cs.length : Int)) by omega)]
        simp only [bW, ↓splitB_true, ↓splitB_false, nilCmp, opConv, eq_self, if_true, if_false, Nat.reduceEqDiff, reduceCtorEq, ↓reduceIte, Nat.reduceLT, Nat.reduceAdd, Nat.reduceMul, Nat.reduceSub, Nat.reduceLeDiff, Nat.reduceBEq, Int.reduceEq, Int.reduceNeg, tk, ntmps50, results50, zeroD, List.map_cons, List.map_nil, sr_len, Int.reduceSub, Int.reduceAdd, Int.reduceToNat, Int.reduceLE, Int.reduceLT, Int.toNat_zero, Int.reduceNeg, mCells, mCell]
        refine hK6 _ ?_
        have hj2 := kinv_end hj hcd (.inl (by omega))
        clear hK6 K6 hK7 K7
        simp only [bW, ↓splitB_true, ↓splitB_false, nilCmp, opConv, eq_self, if_true, if_false, Nat.reduceEqDiff, reduceCtorEq, ↓reduceIte, Nat.reduceLT, Nat.reduceAdd, Nat.reduceMul, Nat.reduceSub, Nat.reduceLeDiff, Nat.reduceBEq, Int.reduceEq, Int.reduceNeg, tk, ntmps50, results50, zeroD, List.map_cons, List.map_nil, sr_len, Int.reduceSub, Int.reduceAdd, Int.reduceToNat, Int.reduceLE, Int.reduceLT, Int.toNat_zero, Int.reduceNeg, mCells, mCell]
        simp (disch := omega) only [wrap64]
        refine ⟨?_, (more, seen, ve, i + 1), ?_, ⟨by show i + 1 ≤ _; omega, hj2⟩, by show fs.length - (i + 1) < fs.length - i; omega⟩
        · simp only [bK, Nat.reduceEqDiff, reduceCtorEq, ↓reduceIte, Nat.reduceBEq, Nat.reduceLeDiff, Nat.reduceAdd, if_true, if_false]
        · simp only [bK, Nat.reduceEqDiff, reduceCtorEq, ↓reduceIte, Nat.reduceBEq, Nat.reduceLeDiff, Nat.reduceAdd, if_true, if_false]
          refine stL_eq ?_ rfl
          simp only [Option.some.injEq, Ret.mk.injEq, List.cons.injEq, Prod.mk.injEq, AV.d.injEq, D.i.injEq, D.b.injEq, D.s.injEq, true_and, and_true]
          try omega
      rw [decide_eq_true (show (k : Int) < (cs.length : Int) by omega)]
      simp only [bW, ↓splitB_true, ↓splitB_false, nilCmp, opConv, eq_self, if_true, if_false, Nat.reduceEqDiff, reduceCtorEq, ↓reduceIte, Nat.reduceLT, Nat.reduceAdd, Nat.reduceMul, Nat.reduceSub, Nat.reduceLeDiff, Nat.reduceBEq, Int.reduceEq, Int.reduceNeg, tk, ntmps50, results50, zeroD, List.map_cons, List.map_nil, sr_len, Int.reduceSub, Int.reduceAdd, Int.reduceToNat, Int.reduceLE, Int.reduceLT, Int.toNat_zero, Int.reduceNeg, mCells, mCell]
      refine ⟨⟨by omega, by omega⟩, ?_⟩
      rw [sr_get hlt]
      simp only [bW, ↓splitB_true, ↓splitB_false, nilCmp, opConv, eq_self, if_true, if_false, Nat.reduceEqDiff, reduceCtorEq, ↓reduceIte, Nat.reduceLT, Nat.reduceAdd, Nat.reduceMul, Nat.reduceSub, Nat.reduceLeDiff, Nat.reduceBEq, Int.reduceEq, Int.reduceNeg, tk, ntmps50, results50, zeroD, List.map_cons, List.map_nil, sr_len, Int.reduceSub, Int.reduceAdd, Int.reduceToNat, Int.reduceLE, Int.reduceLT, Int.toNat_zero, Int.reduceNeg, mCells, mCell]
      refine splitB_intro (fun hs => hK7 _ ?_) (fun hs => hK6 _ ?_)
      rotate_left
      · have hj2 := kinv_end hj hcd (.inr hs)
        clear hK6 K6 hK7 K7
        simp only [bW, ↓splitB_true, ↓splitB_false, nilCmp, opConv, eq_self, if_true, if_false, Nat.reduceEqDiff, reduceCtorEq, ↓reduceIte, Nat.reduceLT, Nat.reduceAdd, Nat.reduceMul, Nat.reduceSub, Nat.reduceLeDiff, Nat.reduceBEq, Int.reduceEq, Int.reduceNeg, tk, ntmps50, results50, zeroD, List.map_cons, List.map_nil, sr_len, Int.reduceSub, Int.reduceAdd, Int.reduceToNat, Int.reduceLE, Int.reduceLT, Int.toNat_zero, Int.reduceNeg, mCells, mCell]
        simp (disch := omega) only [wrap64]
        refine ⟨?_, (more, seen, ve, i + 1), ?_, ⟨by show i + 1 ≤ _; omega, hj2⟩, by show fs.length - (i + 1) < fs.length - i; omega⟩
        · simp only [bK, Nat.reduceEqDiff, reduceCtorEq, ↓reduceIte, Nat.reduceBEq, Nat.reduceLeDiff, Nat.reduceAdd, if_true, if_false]
        · simp only [bK, Nat.reduceEqDiff, reduceCtorEq, ↓reduceIte, Nat.reduceBEq, Nat.reduceLeDiff, Nat.reduceAdd, if_true, if_false]
          refine stL_eq ?_ rfl
          simp only [Option.some.injEq, Ret.mk.injEq, List.cons.injEq, Prod.mk.injEq, AV.d.injEq, D.i.injEq, D.b.injEq, D.s.injEq, true_and, and_true]
          try omega
      clear hK6 hK7 K7
      have hin := hins k hkl
      have hrow := shLL_get hc hkl
      have hmem : cs.getD k [] ∈ cs := by
        rw [List.getD_eq_getElem?_getD, List.getElem?_eq_getElem hkl]
        exact List.getElem_mem hkl
      have hpass := kinv_pass hj hkl
      generalize hrw2 : cs.getD k [] = row2 at hrow hin hmem hpass
      obtain ⟨c1, q1, rfl, e1, hrow⟩ := shL_cons hrow
      obtain ⟨c2, q2, rfl, e2, hrow⟩ := shL_cons hrow
      obtain rfl := shL_nil hrow
      obtain ⟨op, rfl⟩ := shD_i e1
      obtain ⟨b, rfl⟩ := shD_i e2
      have hcc : callOf fs.length [.i .i64 op, .i .i64 b] = if op = 8 ∧ 0 ≤ b ∧ b < (fs.length : Int) then [[.i .i64 b]] else [] := rfl
      have hin : insP op b := of_decide_eq_true (show decide (insP op b) = true from hin)
      obtain ⟨i1, i2, i3⟩ := hin
      refine seqK fun K8 hK8 => ?_
      rw [awp_block]
      refine seqK fun K9 hK9 => ?_
      simp only [bW, ↓splitB_true, ↓splitB_false, nilCmp, opConv, eq_self, if_true, if_false, Nat.reduceEqDiff, reduceCtorEq, ↓reduceIte, Nat.reduceLT, Nat.reduceAdd, Nat.reduceMul, Nat.reduceSub, Nat.reduceLeDiff, Nat.reduceBEq, Int.reduceEq, Int.reduceNeg, tk, ntmps50, results50, zeroD, List.map_cons, List.map_nil, sr_len, Int.reduceSub, Int.reduceAdd, Int.reduceToNat, Int.reduceLE, Int.reduceLT, Int.toNat_zero, Int.reduceNeg, mCells, mCell]
      refine ⟨⟨by omega, by omega⟩, ?_⟩
      rw [hrw]
      simp only [bW, ↓splitB_true, ↓splitB_false, nilCmp, opConv, eq_self, if_true, if_false, Nat.reduceEqDiff, reduceCtorEq, ↓reduceIte, Nat.reduceLT, Nat.reduceAdd, Nat.reduceMul, Nat.reduceSub, Nat.reduceLeDiff, Nat.reduceBEq, Int.reduceEq, Int.reduceNeg, tk, ntmps50, results50, zeroD, List.map_cons, List.map_nil, sr_len, Int.reduceSub, Int.reduceAdd, Int.reduceToNat, Int.reduceLE, Int.reduceLT, Int.toNat_zero, Int.reduceNeg, mCells, mCell]
      refine ⟨⟨by omega, by omega⟩, ?_⟩
      rw [hrw2]
      simp only [bW, ↓splitB_true, ↓splitB_false, nilCmp, opConv, eq_self, if_true, if_false, Nat.reduceEqDiff, reduceCtorEq, ↓reduceIte, Nat.reduceLT, Nat.reduceAdd, Nat.reduceMul, Nat.reduceSub, Nat.reduceLeDiff, Nat.reduceBEq, Int.reduceEq, Int.reduceNeg, tk, ntmps50, results50, zeroD, List.map_cons, List.map_nil, sr_len, Int.reduceSub, Int.reduceAdd, Int.reduceToNat, Int.reduceLE, Int.reduceLT, Int.toNat_zero, Int.reduceNeg, mCells, mCell]
      refine hK9 _ ?_; clear hK9 K9
      simp only [bW, ↓splitB_true, ↓splitB_false, nilCmp, opConv, eq_self, if_true, if_false, Nat.reduceEqDiff, reduceCtorEq, ↓reduceIte, Nat.reduceLT, Nat.reduceAdd, Nat.reduceMul, Nat.reduceSub, Nat.reduceLeDiff, Nat.reduceBEq, Int.reduceEq, Int.reduceNeg, tk, ntmps50, results50, zeroD, List.map_cons, List.map_nil, sr_len, Int.reduceSub, Int.reduceAdd, Int.reduceToNat, Int.reduceLE, Int.reduceLT, Int.toNat_zero, Int.reduceNeg, mCells, mCell]
      by_cases h8 : op = 8
      rotate_left
      · have hj2 := hpass fun a ha => by rw [hcc, if_neg (fun h => h8 h.1)] at ha; cases ha
        rw [decide_eq_false h8]
        simp only [bW, ↓splitB_true, ↓splitB_false, nilCmp, opConv, eq_self, if_true, if_false, Nat.reduceEqDiff, reduceCtorEq, ↓reduceIte, Nat.reduceLT, Nat.reduceAdd, Nat.reduceMul, Nat.reduceSub, Nat.reduceLeDiff, Nat.reduceBEq, Int.reduceEq, Int.reduceNeg, tk, ntmps50, results50, zeroD, List.map_cons, List.map_nil, sr_len, Int.reduceSub, Int.reduceAdd, Int.reduceToNat, Int.reduceLE, Int.reduceLT, Int.toNat_zero, Int.reduceNeg, mCells, mCell]
        refine hK8 _ ?_; clear hK8 K8
        simp only [bW, ↓splitB_true, ↓splitB_false, nilCmp, opConv, eq_self, if_true, if_false, Nat.reduceEqDiff, reduceCtorEq, ↓reduceIte, Nat.reduceLT, Nat.reduceAdd, Nat.reduceMul, Nat.reduceSub, Nat.reduceLeDiff, Nat.reduceBEq, Int.reduceEq, Int.reduceNeg, tk, ntmps50, results50, zeroD, List.map_cons, List.map_nil, sr_len, Int.reduceSub, Int.reduceAdd, Int.reduceToNat, Int.reduceLE, Int.reduceLT, Int.toNat_zero, Int.reduceNeg, mCells, mCell]
        simp (disch := omega) only [wrap64]
        refine ⟨?_, (more, seen, ve, k + 1), ?_, ⟨by show k + 1 ≤ _; omega, hj2⟩, by show cs.length - (k + 1) < cs.length - k; omega⟩
        · simp only [bK, Nat.reduceEqDiff, reduceCtorEq, ↓reduceIte, Nat.reduceBEq, Nat.reduceLeDiff, Nat.reduceAdd, if_true, if_false]
        · simp only [bK, Nat.reduceEqDiff, reduceCtorEq, ↓reduceIte, Nat.reduceBEq, Nat.reduceLeDiff, Nat.reduceAdd, if_true, if_false]
          refine stL_eq ?_ rfl
          simp only [Option.some.injEq, Ret.mk.injEq, List.cons.injEq, Prod.mk.injEq, AV.d.injEq, D.i.injEq, D.b.injEq, D.s.injEq, true_and, and_true]
          try omega
      subst h8
      have hb0 : 0 ≤ b := by omega
      obtain ⟨bn, rfl⟩ : ∃ m : Nat, b = (m : Int) := ⟨b.toNat, by omega⟩
      rw [decide_eq_true (show (8 : Int) = 8 from rfl)]
      simp only [bW, ↓splitB_true, ↓splitB_false, nilCmp, opConv, eq_self, if_true, if_false, Nat.reduceEqDiff, reduceCtorEq, ↓reduceIte, Nat.reduceLT, Nat.reduceAdd, Nat.reduceMul, Nat.reduceSub, Nat.reduceLeDiff, Nat.reduceBEq, Int.reduceEq, Int.reduceNeg, tk, ntmps50, results50, zeroD, List.map_cons, List.map_nil, sr_len, Int.reduceSub, Int.reduceAdd, Int.reduceToNat, Int.reduceLE, Int.reduceLT, Int.toNat_zero, Int.reduceNeg, mCells, mCell]
      by_cases hbl : bn < fs.length
      rotate_left
      · have hj2 := hpass fun a ha => by rw [hcc, if_neg (fun h => by omega)] at ha; cases ha
        rw [decide_eq_false (show ¬ ((bn : Int) < (fs.length : Int)) by omega)]
        simp only [bW, ↓splitB_true, ↓splitB_false, nilCmp, opConv, eq_self, if_true, if_false, Nat.reduceEqDiff, reduceCtorEq, ↓reduceIte, Nat.reduceLT, Nat.reduceAdd, Nat.reduceMul, Nat.reduceSub, Nat.reduceLeDiff, Nat.reduceBEq, Int.reduceEq, Int.reduceNeg, tk, ntmps50, results50, zeroD, List.map_cons, List.map_nil, sr_len, Int.reduceSub, Int.reduceAdd, Int.reduceToNat, Int.reduceLE, Int.reduceLT, Int.toNat_zero, Int.reduceNeg, mCells, mCell]
        refine hK8 _ ?_; clear hK8 K8
        simp only [bW, ↓splitB_true, ↓splitB_false, nilCmp, opConv, eq_self, if_true, if_false, Nat.reduceEqDiff, reduceCtorEq, ↓reduceIte, Nat.reduceLT, Nat.reduceAdd, Nat.reduceMul, Nat.reduceSub, Nat.reduceLeDiff, Nat.reduceBEq, Int.reduceEq, Int.reduceNeg, tk, ntmps50, results50, zeroD, List.map_cons, List.map_nil, sr_len, Int.reduceSub, Int.reduceAdd, Int.reduceToNat, Int.reduceLE, Int.reduceLT, Int.toNat_zero, Int.reduceNeg, mCells, mCell]
        simp (disch := omega) only [wrap64]
        refine ⟨?_, (more, seen, ve, k + 1), ?_, ⟨by show k + 1 ≤ _; omega, hj2⟩, by show cs.length - (k + 1) < cs.length - k; omega⟩
        · simp only [bK, Nat.reduceEqDiff, reduceCtorEq, ↓reduceIte, Nat.reduceBEq, Nat.reduceLeDiff, Nat.reduceAdd, if_true, if_false]
        · simp only [bK, Nat.reduceEqDiff, reduceCtorEq, ↓reduceIte, Nat.reduceBEq, Nat.reduceLeDiff, Nat.reduceAdd, if_true, if_false]
          refine stL_eq ?_ rfl
          simp only [Option.some.injEq, Ret.mk.injEq, List.cons.injEq, Prod.mk.injEq, AV.d.injEq, D.i.injEq, D.b.injEq, D.s.injEq, true_and, and_true]
          try omega
      rw [decide_eq_true (show (bn : Int) < (fs.length : Int) by omega)]
      simp only [bW, ↓splitB_true, ↓splitB_false, nilCmp, opConv, eq_self, if_true, if_false, Nat.reduceEqDiff, reduceCtorEq, ↓reduceIte, Nat.reduceLT, Nat.reduceAdd, Nat.reduceMul, Nat.reduceSub, Nat.reduceLeDiff, Nat.reduceBEq, Int.reduceEq, Int.reduceNeg, tk, ntmps50, results50, zeroD, List.map_cons, List.map_nil, sr_len, Int.reduceSub, Int.reduceAdd, Int.reduceToNat, Int.reduceLE, Int.reduceLT, Int.toNat_zero, Int.reduceNeg, mCells, mCell]
      refine ⟨⟨by omega, by omega⟩, ?_⟩
      rw [sr_get hbl]
      simp only [bW, ↓splitB_true, ↓splitB_false, nilCmp, opConv, eq_self, if_true, if_false, Nat.reduceEqDiff, reduceCtorEq, ↓reduceIte, Nat.reduceLT, Nat.reduceAdd, Nat.reduceMul, Nat.reduceSub, Nat.reduceLeDiff, Nat.reduceBEq, Int.reduceEq, Int.reduceNeg, tk, ntmps50, results50, zeroD, List.map_cons, List.map_nil, sr_len, Int.reduceSub, Int.reduceAdd, Int.reduceToNat, Int.reduceLE, Int.reduceLT, Int.toNat_zero, Int.reduceNeg, mCells, mCell]
      have hset : (sr fs.length seen).set bn (D.b true :: List.drop 1 ((sr fs.length seen).getD bn [])) = sr fs.length (upd seen bn true) := by
        rw [sr_get hbl]
        exact sr_set
      cases hsb : seen bn with
      | true =>
        have hj2 := hpass fun a ha => by
          rw [hcc, if_pos ⟨rfl, by omega, by omega⟩] at ha
          have e := List.mem_singleton.1 ha
          have e2 : a = bn := Int.ofNat_inj.1 (by simpa using e)
          rw [e2]; exact hsb
        simp only [bW, ↓splitB_true, ↓splitB_false, nilCmp, opConv, eq_self, if_true, if_false, Nat.reduceEqDiff, reduceCtorEq, ↓reduceIte, Nat.reduceLT, Nat.reduceAdd, Nat.reduceMul, Nat.reduceSub, Nat.reduceLeDiff, Nat.reduceBEq, Int.reduceEq, Int.reduceNeg, tk, ntmps50, results50, zeroD, List.map_cons, List.map_nil, sr_len, Int.reduceSub, Int.reduceAdd, Int.reduceToNat, Int.reduceLE, Int.reduceLT, Int.toNat_zero, Int.reduceNeg, mCells, mCell]
        refine hK8 _ ?_; clear hK8 K8
        simp only [bW, ↓splitB_true, ↓splitB_false, nilCmp, opConv, eq_self, if_true, if_false, Nat.reduceEqDiff, reduceCtorEq, ↓reduceIte, Nat.reduceLT, Nat.reduceAdd, Nat.reduceMul, Nat.reduceSub, Nat.reduceLeDiff, Nat.reduceBEq, Int.reduceEq, Int.reduceNeg, tk, ntmps50, results50, zeroD, List.map_cons, List.map_nil, sr_len, Int.reduceSub, Int.reduceAdd, Int.reduceToNat, Int.reduceLE, Int.reduceLT, Int.toNat_zero, Int.reduceNeg, mCells, mCell]
        simp (disch := omega) only [wrap64]
        refine ⟨?_, (more, seen, ve, k + 1), ?_, ⟨by show k + 1 ≤ _; omega, hj2⟩, by show cs.length - (k + 1) < cs.length - k; omega⟩
        · simp only [bK, Nat.reduceEqDiff, reduceCtorEq, ↓reduceIte, Nat.reduceBEq, Nat.reduceLeDiff, Nat.reduceAdd, if_true, if_false]
        · simp only [bK, Nat.reduceEqDiff, reduceCtorEq, ↓reduceIte, Nat.reduceBEq, Nat.reduceLeDiff, Nat.reduceAdd, if_true, if_false]
          refine stL_eq ?_ rfl
          simp only [Option.some.injEq, Ret.mk.injEq, List.cons.injEq, Prod.mk.injEq, AV.d.injEq, D.i.injEq, D.b.injEq, D.s.injEq, true_and, and_true]
          try omega
      | false =>
        have hj2 := kinv_set (a := bn) hj hlt hs (by
          rw [hcd]
          refine List.mem_flatMap.2 ⟨_, hmem, ?_⟩
          rw [hcc, if_pos ⟨rfl, by omega, by omega⟩]
          exact List.mem_singleton.2 rfl) hbl hsb
        simp only [bW, ↓splitB_true, ↓splitB_false, nilCmp, opConv, eq_self, if_true, if_false, Nat.reduceEqDiff, reduceCtorEq, ↓reduceIte, Nat.reduceLT, Nat.reduceAdd, Nat.reduceMul, Nat.reduceSub, Nat.reduceLeDiff, Nat.reduceBEq, Int.reduceEq, Int.reduceNeg, tk, ntmps50, results50, zeroD, List.map_cons, List.map_nil, sr_len, Int.reduceSub, Int.reduceAdd, Int.reduceToNat, Int.reduceLE, Int.reduceLT, Int.toNat_zero, Int.reduceNeg, mCells, mCell]
        refine ⟨⟨by omega, by omega⟩, ?_⟩
        rw [hset]
        refine hK8 _ ?_; clear hK8 K8
        simp only [bW, ↓splitB_true, ↓splitB_false, nilCmp, opConv, eq_self, if_true, if_false, Nat.reduceEqDiff, reduceCtorEq, ↓reduceIte, Nat.reduceLT, Nat.reduceAdd, Nat.reduceMul, Nat.reduceSub, Nat.reduceLeDiff, Nat.reduceBEq, Int.reduceEq, Int.reduceNeg, tk, ntmps50, results50, zeroD, List.map_cons, List.map_nil, sr_len, Int.reduceSub, Int.reduceAdd, Int.reduceToNat, Int.reduceLE, Int.reduceLT, Int.toNat_zero, Int.reduceNeg, mCells, mCell]
        simp (disch := omega) only [wrap64]
        refine ⟨?_, (true, upd seen bn true, ve + 1, k + 1), ?_, ⟨by show k + 1 ≤ _; omega, hj2⟩, by show cs.length - (k + 1) < cs.length - k; omega⟩
        · simp only [bK, Nat.reduceEqDiff, reduceCtorEq, ↓reduceIte, Nat.reduceBEq, Nat.reduceLeDiff, Nat.reduceAdd, if_true, if_false]
        · simp only [bK, Nat.reduceEqDiff, reduceCtorEq, ↓reduceIte, Nat.reduceBEq, Nat.reduceLeDiff, Nat.reduceAdd, if_true, if_false]
          refine stL_eq ?_ rfl
          simp only [Option.some.injEq, Ret.mk.injEq, List.cons.injEq, Prod.mk.injEq, AV.d.injEq, D.i.injEq, D.b.injEq, D.s.injEq, true_and, and_true]
          try omega
    · have hge := of_decide_eq_false hb
      obtain rfl : i = fs.length := by omega
      clear hb hge
      refine ⟨?_, (more, seen, ve), ?_, ⟨hj.p, hj.done⟩, ?_⟩
      · simp only [bK, Nat.reduceEqDiff, reduceCtorEq, ↓reduceIte, Nat.reduceBEq, Nat.reduceLeDiff, Nat.reduceAdd, if_true, if_false]
      · simp only [bK, Nat.reduceEqDiff, reduceCtorEq, ↓reduceIte, Nat.reduceBEq, Nat.reduceLeDiff, Nat.reduceAdd, if_true, if_false]
        try rfl
      · have a1 := hj.le
        have a2 := hj.lt
        show 2 * un seen fs.length + (if more = true then 1 else 0) < _
        cases more with
        | true => have := a2 rfl; rw [if_pos rfl]; omega
        | false => rw [if_neg (by simp)]; omega
  subst hb
  rw [sr_congr (pinv_end h5 h3 hp (hcl rfl))]
  simp only [bW, ↓splitB_true, ↓splitB_false, nilCmp, opConv, eq_self, if_true, if_false, Nat.reduceEqDiff, reduceCtorEq, ↓reduceIte, Nat.reduceLT, Nat.reduceAdd, Nat.reduceMul, Nat.reduceSub, Nat.reduceLeDiff, Nat.reduceBEq, Int.reduceEq, Int.reduceNeg, tk, ntmps50, results50, zeroD, List.map_cons, List.map_nil, sr_len, Int.reduceSub, Int.reduceAdd, Int.reduceToNat, Int.reduceLE, Int.reduceLT, Int.toNat_zero, Int.reduceNeg, mCells, mCell]

end Go.Fs.Sr

set_option linter.unusedVariables false
set_option linter.unusedSimpArgs false
set_option maxRecDepth 20000
set_option maxHeartbeats 2000000
namespace Go.Fs.Sr
open Go.Proofs.Try

theorem f18_ok {S : Nat → Option Summ} (hS : SumOK prog S) (s53 : S 53 = some (.own F53)) (s54 : S 54 = some (.own F54)) (ds : List D) (r : D) (hr : F18 ds = some r) : FnOK prog 18 (ds.map .d) { ret := r } := by
  unfold F18 at hr
  split at hr
  case h_2 => cases hr
  rename_i fs ns
  split at hr
  case isFalse => cases hr
  rename_i hc
  obtain ⟨h1, h2, h3, h4, h5, h6, h7⟩ := hc
  simp only [Option.some.injEq] at hr
  subst hr
  refine fnOK_awp (A := ⟨tab, S, .x⟩) tab_ok hS mixed func18 rfl rfl rfl rfl (by show 1 ≤ 8; decide) rfl ?_
  refine seqK fun K hK => ?_
  simp only [bW, ↓splitB_true, ↓splitB_false, nilCmp, opConv, eq_self, if_true, if_false, Nat.reduceEqDiff, reduceCtorEq, ↓reduceIte, Nat.reduceLT, Nat.reduceAdd, Nat.reduceMul, Nat.reduceSub, Nat.reduceLeDiff, Nat.reduceBEq, Int.reduceEq, Int.reduceNeg, tk, ntmps18, results18, s53, s54, F53, F54]
  refine hK _ ?_; clear hK K
  refine seqK fun K hK => ?_
  simp only [bW, ↓splitB_true, ↓splitB_false, nilCmp, opConv, eq_self, if_true, if_false, Nat.reduceEqDiff, reduceCtorEq, ↓reduceIte, Nat.reduceLT, Nat.reduceAdd, Nat.reduceMul, Nat.reduceSub, Nat.reduceLeDiff, Nat.reduceBEq, Int.reduceEq, Int.reduceNeg, tk, ntmps18, results18, s53, s54, F53, F54]
  refine ⟨⟨h1, h2, h3, h4, h5, h6, h7⟩, ?_⟩
  cases hi : imgB fs ns with
  | false =>
    simp only [bW, ↓splitB_true, ↓splitB_false, nilCmp, opConv, eq_self, if_true, if_false, Nat.reduceEqDiff, reduceCtorEq, ↓reduceIte, Nat.reduceLT, Nat.reduceAdd, Nat.reduceMul, Nat.reduceSub, Nat.reduceLeDiff, Nat.reduceBEq, Int.reduceEq, Int.reduceNeg, tk, ntmps18, results18, s53, s54, F53, F54]
    try rw [if_neg (by simp)]
    try trivial
  | true =>
    simp only [bW, ↓splitB_true, ↓splitB_false, nilCmp, opConv, eq_self, if_true, if_false, Nat.reduceEqDiff, reduceCtorEq, ↓reduceIte, Nat.reduceLT, Nat.reduceAdd, Nat.reduceMul, Nat.reduceSub, Nat.reduceLeDiff, Nat.reduceBEq, Int.reduceEq, Int.reduceNeg, tk, ntmps18, results18, s53, s54, F53, F54]
    refine hK _ ?_; clear hK K
    simp only [bW, ↓splitB_true, ↓splitB_false, nilCmp, opConv, eq_self, if_true, if_false, Nat.reduceEqDiff, reduceCtorEq, ↓reduceIte, Nat.reduceLT, Nat.reduceAdd, Nat.reduceMul, Nat.reduceSub, Nat.reduceLeDiff, Nat.reduceBEq, Int.reduceEq, Int.reduceNeg, tk, ntmps18, results18, s53, s54, F53, F54]
    refine ⟨⟨h1, h2, h5, h6, hi⟩, ?_⟩
    rw [if_pos hi]

theorem f16_ok {S : Nat → Option Summ} (hS : SumOK prog S) (s49 : S 49 = some (.own F53)) (s50 : S 50 = some (.own F50)) (ds : List D) (r : D) (hr : F18 ds = some r) : FnOK prog 16 (ds.map .d) { ret := r } := by
  unfold F18 at hr
  split at hr
  case h_2 => cases hr
  rename_i fs ns
  split at hr
  case isFalse => cases hr
  rename_i hc
  obtain ⟨h1, h2, h3, h4, h5, h6, h7⟩ := hc
  simp only [Option.some.injEq] at hr
  subst hr
  refine fnOK_awp (A := ⟨tab, S, .x⟩) tab_ok hS mixed func16 rfl rfl rfl rfl (by show 1 ≤ 28; decide) rfl ?_
  refine seqK fun K hK => ?_
  simp only [bW, ↓splitB_true, ↓splitB_false, nilCmp, opConv, eq_self, if_true, if_false, Nat.reduceEqDiff, reduceCtorEq, ↓reduceIte, Nat.reduceLT, Nat.reduceAdd, Nat.reduceMul, Nat.reduceSub, Nat.reduceLeDiff, Nat.reduceBEq, Int.reduceEq, Int.reduceNeg, tk, ntmps16, results16, s49, s50, F53, F50, sr_len]
  refine hK _ ?_; clear hK K
  refine seqK fun K hK => ?_
  simp only [bW, ↓splitB_true, ↓splitB_false, nilCmp, opConv, eq_self, if_true, if_false, Nat.reduceEqDiff, reduceCtorEq, ↓reduceIte, Nat.reduceLT, Nat.reduceAdd, Nat.reduceMul, Nat.reduceSub, Nat.reduceLeDiff, Nat.reduceBEq, Int.reduceEq, Int.reduceNeg, tk, ntmps16, results16, s49, s50, F53, F50, sr_len]
  refine hK _ ?_; clear hK K
  refine seqK fun K hK => ?_
  simp only [bW, ↓splitB_true, ↓splitB_false, nilCmp, opConv, eq_self, if_true, if_false, Nat.reduceEqDiff, reduceCtorEq, ↓reduceIte, Nat.reduceLT, Nat.reduceAdd, Nat.reduceMul, Nat.reduceSub, Nat.reduceLeDiff, Nat.reduceBEq, Int.reduceEq, Int.reduceNeg, tk, ntmps16, results16, s49, s50, F53, F50, sr_len]
  refine ⟨⟨h1, h2, h3, h4, h5, h6, h7⟩, ?_⟩
  cases hi : imgB fs ns with
  | false =>
    simp only [bW, ↓splitB_true, ↓splitB_false, nilCmp, opConv, eq_self, if_true, if_false, Nat.reduceEqDiff, reduceCtorEq, ↓reduceIte, Nat.reduceLT, Nat.reduceAdd, Nat.reduceMul, Nat.reduceSub, Nat.reduceLeDiff, Nat.reduceBEq, Int.reduceEq, Int.reduceNeg, tk, ntmps16, results16, s49, s50, F53, F50, sr_len]
    try rw [if_neg (by simp)]
    try trivial
  | true =>
  have hlen := img_len hi
  simp only [bW, ↓splitB_true, ↓splitB_false, nilCmp, opConv, eq_self, if_true, if_false, Nat.reduceEqDiff, reduceCtorEq, ↓reduceIte, Nat.reduceLT, Nat.reduceAdd, Nat.reduceMul, Nat.reduceSub, Nat.reduceLeDiff, Nat.reduceBEq, Int.reduceEq, Int.reduceNeg, tk, ntmps16, results16, s49, s50, F53, F50, sr_len]
  refine hK _ ?_; clear hK K
  refine seqK fun K hK => ?_
  simp only [bW, ↓splitB_true, ↓splitB_false, nilCmp, opConv, eq_self, if_true, if_false, Nat.reduceEqDiff, reduceCtorEq, ↓reduceIte, Nat.reduceLT, Nat.reduceAdd, Nat.reduceMul, Nat.reduceSub, Nat.reduceLeDiff, Nat.reduceBEq, Int.reduceEq, Int.reduceNeg, tk, ntmps16, results16, s49, s50, F53, F50, sr_len]
  refine ⟨⟨h1, h2, h5, h6, hi⟩, ?_⟩
  refine hK _ ?_; clear hK K
  rw [if_pos hi]
  refine seqK fun K hK => ?_
  refine seqK fun K2 hK2 => ?_
  simp only [bW, ↓splitB_true, ↓splitB_false, nilCmp, opConv, eq_self, if_true, if_false, Nat.reduceEqDiff, reduceCtorEq, ↓reduceIte, Nat.reduceLT, Nat.reduceAdd, Nat.reduceMul, Nat.reduceSub, Nat.reduceLeDiff, Nat.reduceBEq, Int.reduceEq, Int.reduceNeg, tk, ntmps16, results16, s49, s50, F53, F50, sr_len]
  refine hK2 _ ?_; clear hK2 K2
  rw [awp_block]
  refine loopW [3, 4, 5] (fun i : Nat => stL 28 [(3, .r 500000), (4, .r 500001), (5, .d (.i .i64 i))] [(500000, some (.row 1 (pick1 i (reachB fs ns)) true false 0)), (500001, some (.row 1 (sr fs.length (reachB fs ns)) true false 0))]) (fun i => i ≤ fs.length) (fun i => fs.length - i) ?_ ?_
  · refine ⟨?_, 0, ?_, by omega⟩
    · simp only [bK, Nat.reduceEqDiff, reduceCtorEq, ↓reduceIte, Nat.reduceBEq, Nat.reduceLeDiff, Nat.reduceAdd, if_true, if_false]
    · simp only [bK, Nat.reduceEqDiff, reduceCtorEq, ↓reduceIte, Nat.reduceBEq, Nat.reduceLeDiff, Nat.reduceAdd, if_true, if_false]
      try rfl
  rintro i hil
  refine seqK fun K3 hK3 => ?_
  simp only [bW, ↓splitB_true, ↓splitB_false, nilCmp, opConv, eq_self, if_true, if_false, Nat.reduceEqDiff, reduceCtorEq, ↓reduceIte, Nat.reduceLT, Nat.reduceAdd, Nat.reduceMul, Nat.reduceSub, Nat.reduceLeDiff, Nat.reduceBEq, Int.reduceEq, Int.reduceNeg, tk, ntmps16, results16, s49, s50, F53, F50, sr_len]
  refine splitB_intro (fun hb => hK3 _ ?_) (fun hb => hK _ ?_) <;> clear hK3 K3
  · have hlt := of_decide_eq_true hb
    clear hb
    have hlt : i < fs.length := by omega
    have hst := pick1_step (n := i) (f := reachB fs ns)
    have hpl := pick1_len i (reachB fs ns)
    refine seqK fun K4 hK4 => ?_
    rw [awp_block]
    simp only [bW, ↓splitB_true, ↓splitB_false, nilCmp, opConv, eq_self, if_true, if_false, Nat.reduceEqDiff, reduceCtorEq, ↓reduceIte, Nat.reduceLT, Nat.reduceAdd, Nat.reduceMul, Nat.reduceSub, Nat.reduceLeDiff, Nat.reduceBEq, Int.reduceEq, Int.reduceNeg, tk, ntmps16, results16, s49, s50, F53, F50, sr_len]
    refine ⟨⟨by omega, by omega⟩, ?_⟩
    rw [sr_get hlt]
    simp only [bW, ↓splitB_true, ↓splitB_false, nilCmp, opConv, eq_self, if_true, if_false, Nat.reduceEqDiff, reduceCtorEq, ↓reduceIte, Nat.reduceLT, Nat.reduceAdd, Nat.reduceMul, Nat.reduceSub, Nat.reduceLeDiff, Nat.reduceBEq, Int.reduceEq, Int.reduceNeg, tk, ntmps16, results16, s49, s50, F53, F50, sr_len]
    refine splitB_intro (fun hb => ?_) (fun hb => hK4 _ ?_)
    · rw [if_pos hb] at hst
      refine ⟨⟨by omega, by omega⟩, hK4 _ ?_⟩
      clear hK4 K4
      simp only [bW, ↓splitB_true, ↓splitB_false, nilCmp, opConv, eq_self, if_true, if_false, Nat.reduceEqDiff, reduceCtorEq, ↓reduceIte, Nat.reduceLT, Nat.reduceAdd, Nat.reduceMul, Nat.reduceSub, Nat.reduceLeDiff, Nat.reduceBEq, Int.reduceEq, Int.reduceNeg, tk, ntmps16, results16, s49, s50, F53, F50, sr_len]
      simp (disch := omega) only [wrap64]
      refine ⟨?_, i + 1, ?_, ?_, ?_⟩
      · simp only [bK, Nat.reduceEqDiff, reduceCtorEq, ↓reduceIte, Nat.reduceBEq, Nat.reduceLeDiff, Nat.reduceAdd, if_true, if_false]
      · simp only [bK, Nat.reduceEqDiff, reduceCtorEq, ↓reduceIte, Nat.reduceBEq, Nat.reduceLeDiff, Nat.reduceAdd, if_true, if_false]
        rw [hst]
        refine stL_eq ?_ ?_
        · simp only [Option.some.injEq, Ret.mk.injEq, List.cons.injEq, Prod.mk.injEq, AV.d.injEq, D.i.injEq, D.b.injEq, D.s.injEq, true_and, and_true]
          try omega
        · try rfl
      · omega
      · omega
    · rw [hb, if_neg (by simp)] at hst
      clear hK4 K4
      simp only [bW, ↓splitB_true, ↓splitB_false, nilCmp, opConv, eq_self, if_true, if_false, Nat.reduceEqDiff, reduceCtorEq, ↓reduceIte, Nat.reduceLT, Nat.reduceAdd, Nat.reduceMul, Nat.reduceSub, Nat.reduceLeDiff, Nat.reduceBEq, Int.reduceEq, Int.reduceNeg, tk, ntmps16, results16, s49, s50, F53, F50, sr_len]
      simp (disch := omega) only [wrap64]
      refine ⟨?_, i + 1, ?_, ?_, ?_⟩
      · simp only [bK, Nat.reduceEqDiff, reduceCtorEq, ↓reduceIte, Nat.reduceBEq, Nat.reduceLeDiff, Nat.reduceAdd, if_true, if_false]
      · simp only [bK, Nat.reduceEqDiff, reduceCtorEq, ↓reduceIte, Nat.reduceBEq, Nat.reduceLeDiff, Nat.reduceAdd, if_true, if_false]
        rw [hst]
        refine stL_eq ?_ ?_
        · simp only [Option.some.injEq, Ret.mk.injEq, List.cons.injEq, Prod.mk.injEq, AV.d.injEq, D.i.injEq, D.b.injEq, D.s.injEq, true_and, and_true]
          try omega
        · try rfl
      · omega
      · omega
  · have hge := of_decide_eq_false hb
    obtain rfl : i = fs.length := by omega
    clear hb hge
    simp only [bW, ↓splitB_true, ↓splitB_false, nilCmp, opConv, eq_self, if_true, if_false, Nat.reduceEqDiff, reduceCtorEq, ↓reduceIte, Nat.reduceLT, Nat.reduceAdd, Nat.reduceMul, Nat.reduceSub, Nat.reduceLeDiff, Nat.reduceBEq, Int.reduceEq, Int.reduceNeg, tk, ntmps16, results16, s49, s50, F53, F50, sr_len]
    try rfl

end Go.Fs.Sr

set_option linter.unusedVariables false
namespace Go.Fs.Sr
theorem num_sh (l : List Nat) : shLL [.i] (l.map fun (i : Nat) => ([.i .i64 (i : Int)] : List D)) = true := by
  induction l with
  | nil => rfl
  | cons x l ih => simp only [List.map_cons, shLL, ih, Bool.and_true]; rfl
theorem num_ok : ∀ (l : List Nat), (∀ x ∈ l, x < 4294967296) → okLL (l.map fun (i : Nat) => ([.i .i64 (i : Int)] : List D)) = true
  | [], _ => rfl
  | x :: l, h => by
    have h1 := h x (.head _)
    simp only [List.map_cons, okLL_cons, okL_cons, okL_nil, okD_i, and_true]
    exact ⟨by omega, num_ok l fun y hy => h y (.tail _ hy)⟩
theorem pick1_sh (n : Nat) (f : Nat → Bool) : shLL [.i] (pick1 n f) = true := num_sh _
theorem pick1_ok {n : Nat} (f : Nat → Bool) (h : n ≤ 1048576) : okLL (pick1 n f) = true := num_ok _ fun x hx => by
  have := (List.mem_filter.1 hx).1
  have := List.mem_range.1 this
  omega
/-- What ShakeReach answers. -/
noncomputable def ansR (fs ns : List (List D)) : List (List D) := if imgB fs ns = true then reachL fs ns else []
theorem ansR_sh (fs ns : List (List D)) : shLL [.i] (ansR fs ns) = true := by
  unfold ansR; split
  · exact pick1_sh _ _
  · rfl
theorem ansR_ok {fs : List (List D)} (ns : List (List D)) (h : fs.length ≤ 1048576) : okLL (ansR fs ns) = true := by
  unfold ansR; split
  · exact pick1_ok _ h
  · rfl
theorem ansR_len (fs ns : List (List D)) : (ansR fs ns).length ≤ fs.length := by
  unfold ansR; split
  · exact pick1_len _ _
  · simp
theorem OkO_F18 {fs ns : List (List D)} {K : D → Prop} (h1 : shLL lfun fs = true) (h2 : okLL fs = true) (h3 : fs.length ≤ 1048576) (h4 : wtLL fs ≤ 1048576) (h5 : shLL [.i] ns = true) (h6 : okLL ns = true) (h7 : ns.length ≤ 1048576) (hk : K (.l 1 (ansR fs ns))) : OkO (F18 [.g [.l 6 fs, .l 1 ns]]) K := by
  simp only [F18]; rw [if_pos ⟨h1, h2, h3, h4, h5, h6, h7⟩]; exact hk
end Go.Fs.Sr

set_option linter.unusedVariables false
namespace Go.Fs.Sr
def eqN (n : Int) (x : List D) : Bool := decide (numOf x = n)
def idxN (xs : List (List D)) (n : Int) : Int := idxP (eqN n) xs 0
def F57 : List D → Option D
  | [.l 1 xs, .i .i64 n] => if shLL [.i] xs = true ∧ xs.length ≤ 140737488355328 then some (.i .i64 (idxN xs n)) else none
  | _ => none
theorem scal_ins : ∀ {xs : List (List D)}, shLL ins2 xs = true → (xs.all fun x => x.all scal) = true
  | [], _ => rfl
  | x :: xs, h => by
    simp only [shLL, Bool.and_eq_true] at h
    obtain ⟨c, q, rfl, e, h'⟩ := shL_cons h.1
    obtain ⟨c2, q2, rfl, e2, h''⟩ := shL_cons h'
    obtain rfl := shL_nil h''
    obtain ⟨t, rfl⟩ := shD_i e
    obtain ⟨t2, rfl⟩ := shD_i e2
    simp only [List.all_cons, List.all_nil, scal, Bool.and_true, Bool.true_and]
    exact scal_ins h.2
/-- An instruction whose callee has another number. -/
def movI (n : Nat) (list : List (List D)) : List D → List D
  | [.i k op, .i k' a] => if op = 8 ∧ 0 ≤ a ∧ a < (n : Int) then [.i k op, .i .i64 (idxN list a)] else [.i k op, .i k' a]
  | x => x
def movF (n : Nat) (list : List (List D)) : List D → List D
  | [a, b, c, d, e, .l z cs] => [a, b, c, d, e, .l z (cs.map (movI n list))]
  | x => x
def newFuns (fs list : List (List D)) : List (List D) := list.map fun x => movF fs.length list (fs.getD (numOf x).toNat [])
def newMains (ns list : List (List D)) : List (List D) := ns.map fun x => [.i .i64 (idxN list (numOf x))]
/-- What ShakeImage answers. -/
noncomputable def ansI (fs ns : List (List D)) : List D := if imgB fs ns = true then [.l 6 (newFuns fs (reachL fs ns)), .l 1 (newMains ns (reachL fs ns))] else [.l 6 [], .l 1 []]
noncomputable def F24 : List D → Option D
  | [.g [.l 6 fs, .l 1 ns]] => if shLL lfun fs = true ∧ okLL fs = true ∧ fs.length ≤ 1048576 ∧ wtLL fs ≤ 1048576 ∧ shLL [.i] ns = true ∧ okLL ns = true ∧ ns.length ≤ 1048576 ∧ wtL [.l 6 fs, .l 1 ns] ≤ 1048576 then some (.g (ansI fs ns)) else none
  | _ => none
theorem map_step {α β : Type} (f : α → β) {xs : List α} {i : Nat} {d : α} (h : i < xs.length) : (xs.take (i + 1)).map f = (xs.take i).map f ++ [f (xs.getD i d)] := by
  rw [List.take_add_one, List.map_append, List.getD_eq_getElem?_getD, List.getElem?_eq_getElem h]
  rfl
end Go.Fs.Sr
