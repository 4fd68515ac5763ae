/- A part of the proof: an evaluator of the program's code over plain data, proved sound, and walks of the program's functions by it. No conditions beyond those in the theorems. -/
import Derived.Test.YtbgbnmghhmfihaaLawRp9
import Derived.Test.YtbgbnmghhmfihaaLawRp13
import Derived.Test.YtbgbnmghhmfihaaLawRp10
set_option linter.unusedVariables false
set_option linter.unusedSimpArgs false
set_option maxRecDepth 20000
set_option maxHeartbeats 2000000
namespace Go.Fs.Sr
open Go.Proofs.Try

theorem f99_ok {S : Nat → Option Summ} (hS : SumOK prog S) (ds : List D) (r : D) (hr : F99 ds = some r) : FnOK prog 99 (ds.map .d) { ret := r } := by
  unfold F99 at hr
  split at hr
  case h_2 => cases hr
  simp only [Option.some.injEq] at hr
  subst hr
  refine fnOK_awp (A := ⟨tab, S, .x⟩) tab_ok hS mixed func99 rfl rfl rfl rfl (by show 3 ≤ 15; decide) rfl ?_
  simp only [bW, ↓splitB_true, ↓splitB_false, nilCmp, opConv, eq_self, if_true, if_false, Nat.reduceEqDiff, reduceCtorEq, ↓reduceIte, Nat.reduceLT, Nat.reduceAdd, Nat.reduceMul, Nat.reduceSub, Nat.reduceLeDiff, Nat.reduceBEq, Int.reduceEq, Int.reduceNeg, tk, ntmps99, results99]
  try simp (disch := omega) only [wrap64]
  repeat' refine splitB_intro (fun hb => ?_) (fun hb => ?_)
  all_goals try simp only [Option.some.injEq, Ret.mk.injEq, D.b.injEq, and_true]
  all_goals rw [Bool.eq_iff_iff]
  all_goals simp only [decide_eq_true_eq, decide_eq_false_iff_not, Bool.not_eq_true', Bool.not_eq_false', Bool.false_eq_true, Bool.true_eq_false, reduceCtorEq, false_iff, true_iff, iff_false, iff_true] at *
  all_goals ( omega)

theorem f59_ok {S : Nat → Option Summ} (hS : SumOK prog S) (s99 : S 99 = some (.own F99)) (ds : List D) (r : D) (hr : F59 ds = some r) : FnOK prog 59 (ds.map .d) { ret := r } := by
  unfold F59 at hr
  split at hr
  case h_2 => cases hr
  rename_i n many
  split at hr
  case isFalse => cases hr
  rename_i hm
  simp only [Option.some.injEq] at hr
  subst hr
  refine fnOK_awp (A := ⟨tab, S, .x⟩) tab_ok hS mixed func59 rfl rfl rfl rfl (by show 2 ≤ 9; decide) rfl ?_
  simp only [bW, ↓splitB_true, ↓splitB_false, nilCmp, opConv, eq_self, if_true, if_false, Nat.reduceEqDiff, reduceCtorEq, ↓reduceIte, Nat.reduceLT, Nat.reduceAdd, Nat.reduceMul, Nat.reduceSub, Nat.reduceLeDiff, Nat.reduceBEq, Int.reduceEq, Int.reduceNeg, tk, ntmps59, results59, s99, F99]
  try simp (disch := omega) only [wrap64]
  repeat' refine splitB_intro (fun hb => ?_) (fun hb => ?_)
  all_goals try simp only [Option.some.injEq, Ret.mk.injEq, D.b.injEq, and_true]
  all_goals rw [Bool.eq_iff_iff]
  all_goals simp only [decide_eq_true_eq, decide_eq_false_iff_not, Bool.not_eq_true', Bool.not_eq_false', Bool.false_eq_true, Bool.true_eq_false, reduceCtorEq, false_iff, true_iff, iff_false, iff_true] at *
  all_goals ( omega)

theorem f117_ok {S : Nat → Option Summ} (hS : SumOK prog S) (s99 : S 99 = some (.own F99)) (ds : List D) (r : D) (hr : F117 ds = some r) : FnOK prog 117 (ds.map .d) { ret := r } := by
  unfold F117 at hr
  split at hr
  case h_2 => cases hr
  simp only [Option.some.injEq] at hr
  subst hr
  refine fnOK_awp (A := ⟨tab, S, .x⟩) tab_ok hS mixed func117 rfl rfl rfl rfl (by show 1 ≤ 5; decide) rfl ?_
  simp only [bW, ↓splitB_true, ↓splitB_false, nilCmp, opConv, eq_self, if_true, if_false, Nat.reduceEqDiff, reduceCtorEq, ↓reduceIte, Nat.reduceLT, Nat.reduceAdd, Nat.reduceMul, Nat.reduceSub, Nat.reduceLeDiff, Nat.reduceBEq, Int.reduceEq, Int.reduceNeg, tk, ntmps117, results117, s99, F99]

theorem f132_ok {S : Nat → Option Summ} (hS : SumOK prog S) (s99 : S 99 = some (.own F99)) (ds : List D) (r : D) (hr : F132 ds = some r) : FnOK prog 132 (ds.map .d) { ret := r } := by
  unfold F132 at hr
  split at hr
  case h_2 => cases hr
  simp only [Option.some.injEq] at hr
  subst hr
  refine fnOK_awp (A := ⟨tab, S, .x⟩) tab_ok hS mixed func132 rfl rfl rfl rfl (by show 1 ≤ 5; decide) rfl ?_
  simp only [bW, ↓splitB_true, ↓splitB_false, nilCmp, opConv, eq_self, if_true, if_false, Nat.reduceEqDiff, reduceCtorEq, ↓reduceIte, Nat.reduceLT, Nat.reduceAdd, Nat.reduceMul, Nat.reduceSub, Nat.reduceLeDiff, Nat.reduceBEq, Int.reduceEq, Int.reduceNeg, tk, ntmps132, results132, s99, F99]

theorem f92_ok {S : Nat → Option Summ} (hS : SumOK prog S) (s99 : S 99 = some (.own F99)) (s132 : S 132 = some (.own F132)) (ds : List D) (r : D) (hr : F92 ds = some r) : FnOK prog 92 (ds.map .d) { ret := r } := by
  unfold F92 at hr
  split at hr
  case h_2 => cases hr
  simp only [Option.some.injEq] at hr
  subst hr
  refine fnOK_awp (A := ⟨tab, S, .x⟩) tab_ok hS mixed func92 rfl rfl rfl rfl (by show 1 ≤ 28; decide) rfl ?_
  simp only [bW, ↓splitB_true, ↓splitB_false, nilCmp, opConv, eq_self, if_true, if_false, Nat.reduceEqDiff, reduceCtorEq, ↓reduceIte, Nat.reduceLT, Nat.reduceAdd, Nat.reduceMul, Nat.reduceSub, Nat.reduceLeDiff, Nat.reduceBEq, Int.reduceEq, Int.reduceNeg, tk, ntmps92, results92, s99, s132, F99, F132]
  try simp (disch := omega) only [wrap64]
  repeat' refine splitB_intro (fun hb => ?_) (fun hb => ?_)
  all_goals try simp only [Option.some.injEq, Ret.mk.injEq, D.b.injEq, and_true]
  all_goals rw [Bool.eq_iff_iff]
  all_goals simp only [decide_eq_true_eq, decide_eq_false_iff_not, Bool.not_eq_true', Bool.not_eq_false', Bool.false_eq_true, Bool.true_eq_false, reduceCtorEq, false_iff, true_iff, iff_false, iff_true] at *
  all_goals ( unfold insP; omega)

theorem f91_ok {S : Nat → Option Summ} (hS : SumOK prog S) (s92 : S 92 = some (.own F92)) (ds : List D) (r : D) (hr : F91 ds = some r) : FnOK prog 91 (ds.map .d) { ret := r } := by
  unfold F91 at hr
  split at hr
  case h_2 => cases hr
  simp only [Option.some.injEq] at hr
  subst hr
  refine fnOK_awp (A := ⟨tab, S, .x⟩) tab_ok hS mixed func91 rfl rfl rfl rfl (by show 1 ≤ 6; decide) rfl ?_
  simp only [bW, ↓splitB_true, ↓splitB_false, nilCmp, opConv, eq_self, if_true, if_false, Nat.reduceEqDiff, reduceCtorEq, ↓reduceIte, Nat.reduceLT, Nat.reduceAdd, Nat.reduceMul, Nat.reduceSub, Nat.reduceLeDiff, Nat.reduceBEq, Int.reduceEq, Int.reduceNeg, tk, ntmps91, results91, s92, F92]
  try simp (disch := omega) only [wrap64]
  repeat' refine splitB_intro (fun hb => ?_) (fun hb => ?_)
  all_goals try simp only [Option.some.injEq, Ret.mk.injEq, D.b.injEq, and_true]
  all_goals rw [Bool.eq_iff_iff]
  all_goals simp only [decide_eq_true_eq, decide_eq_false_iff_not, Bool.not_eq_true', Bool.not_eq_false', Bool.false_eq_true, Bool.true_eq_false, reduceCtorEq, false_iff, true_iff, iff_false, iff_true] at *
  all_goals ( omega)

theorem f127_ok {S : Nat → Option Summ} (hS : SumOK prog S) (ds : List D) (r : D) (hr : F92 ds = some r) : FnOK prog 127 (ds.map .d) { ret := r } := by
  unfold F92 at hr
  split at hr
  case h_2 => cases hr
  simp only [Option.some.injEq] at hr
  subst hr
  refine fnOK_awp (A := ⟨tab, S, .x⟩) tab_ok hS mixed func127 rfl rfl rfl rfl (by show 1 ≤ 52; decide) rfl ?_
  simp only [bW, ↓splitB_true, ↓splitB_false, nilCmp, opConv, eq_self, if_true, if_false, Nat.reduceEqDiff, reduceCtorEq, ↓reduceIte, Nat.reduceLT, Nat.reduceAdd, Nat.reduceMul, Nat.reduceSub, Nat.reduceLeDiff, Nat.reduceBEq, Int.reduceEq, Int.reduceNeg, tk, ntmps127, results127]
  try simp (disch := omega) only [wrap64]
  repeat' refine splitB_intro (fun hb => ?_) (fun hb => ?_)
  all_goals try simp only [Option.some.injEq, Ret.mk.injEq, D.b.injEq, and_true]
  all_goals rw [Bool.eq_iff_iff]
  all_goals simp only [decide_eq_true_eq, decide_eq_false_iff_not, Bool.not_eq_true', Bool.not_eq_false', Bool.false_eq_true, Bool.true_eq_false, reduceCtorEq, false_iff, true_iff, iff_false, iff_true] at *
  all_goals ( unfold insP; omega)

theorem f152_ok {S : Nat → Option Summ} (hS : SumOK prog S) (s117 : S 117 = some (.own F117)) (ds : List D) (r : D) (hr : F152 ds = some r) : FnOK prog 152 (ds.map .d) { ret := r } := by
  unfold F152 at hr
  split at hr
  case h_2 => cases hr
  simp only [Option.some.injEq] at hr
  subst hr
  refine fnOK_awp (A := ⟨tab, S, .x⟩) tab_ok hS mixed func152 rfl rfl rfl rfl (by show 1 ≤ 6; decide) rfl ?_
  simp only [bW, ↓splitB_true, ↓splitB_false, nilCmp, opConv, eq_self, if_true, if_false, Nat.reduceEqDiff, reduceCtorEq, ↓reduceIte, Nat.reduceLT, Nat.reduceAdd, Nat.reduceMul, Nat.reduceSub, Nat.reduceLeDiff, Nat.reduceBEq, Int.reduceEq, Int.reduceNeg, tk, ntmps152, results152, s117, F117]
  try simp (disch := omega) only [wrap64]
  repeat' refine splitB_intro (fun hb => ?_) (fun hb => ?_)
  all_goals try simp only [Option.some.injEq, Ret.mk.injEq, D.b.injEq, and_true]
  all_goals rw [Bool.eq_iff_iff]
  all_goals simp only [decide_eq_true_eq, decide_eq_false_iff_not, Bool.not_eq_true', Bool.not_eq_false', Bool.false_eq_true, Bool.true_eq_false, reduceCtorEq, false_iff, true_iff, iff_false, iff_true] at *
  all_goals ( omega)

theorem f94_ok {S : Nat → Option Summ} (hS : SumOK prog S) (s59 : S 59 = some (.own F59)) (ds : List D) (r : D) (hr : F94 ds = some r) : FnOK prog 94 (ds.map .d) { ret := r } := by
  unfold F94 at hr
  split at hr
  case h_2 => cases hr
  rename_i n xs ys
  split at hr
  case isFalse => cases hr
  rename_i hm
  simp only [Option.some.injEq] at hr
  subst hr
  refine fnOK_awp (A := ⟨tab, S, .x⟩) tab_ok hS mixed func94 rfl rfl rfl rfl (by show 2 ≤ 10; decide) rfl ?_
  simp only [bW, ↓splitB_true, ↓splitB_false, nilCmp, opConv, eq_self, if_true, if_false, Nat.reduceEqDiff, reduceCtorEq, ↓reduceIte, Nat.reduceLT, Nat.reduceAdd, Nat.reduceMul, Nat.reduceSub, Nat.reduceLeDiff, Nat.reduceBEq, Int.reduceEq, Int.reduceNeg, tk, ntmps94, results94, s59, F59]
  refine ⟨⟨by omega, by omega⟩, ?_⟩
  try simp only [bW, ↓splitB_true, ↓splitB_false, nilCmp, opConv, eq_self, if_true, if_false, Nat.reduceEqDiff, reduceCtorEq, ↓reduceIte, Nat.reduceLT, Nat.reduceAdd, Nat.reduceMul, Nat.reduceSub, Nat.reduceLeDiff, Nat.reduceBEq, Int.reduceEq, Int.reduceNeg, tk, ntmps94, results94, s59, F59]
  try simp (disch := omega) only [wrap64]
  repeat' refine splitB_intro (fun hb => ?_) (fun hb => ?_)
  all_goals try simp only [Option.some.injEq, Ret.mk.injEq, D.b.injEq, and_true]
  all_goals rw [Bool.eq_iff_iff]
  all_goals simp only [decide_eq_true_eq, decide_eq_false_iff_not, Bool.not_eq_true', Bool.not_eq_false', Bool.false_eq_true, Bool.true_eq_false, reduceCtorEq, false_iff, true_iff, iff_false, iff_true] at *
  all_goals ( omega)

end Go.Fs.Sr

set_option linter.unusedVariables false
set_option linter.unusedSimpArgs false
set_option maxRecDepth 20000
set_option maxHeartbeats 2000000
namespace Go.Fs.Sr
open Go.Proofs.Try

theorem f126_ok {S : Nat → Option Summ} (hS : SumOK prog S) (ds : List D) (r : D) (hr : F126 ds = some r) : FnOK prog 126 (ds.map .d) { ret := r } := by
  unfold F126 at hr
  split at hr
  case h_2 => cases hr
  rename_i n
  simp only [Option.some.injEq] at hr
  subst hr
  refine fnOK_awp (A := ⟨tab, S, .x⟩) tab_ok hS mixed func126 rfl rfl rfl rfl (by show 1 ≤ 14; decide) rfl ?_
  refine seqK fun K hK => ?_
  simp only [bW, ↓splitB_true, ↓splitB_false, nilCmp, opConv, eq_self, if_true, if_false, Nat.reduceEqDiff, reduceCtorEq, ↓reduceIte, Nat.reduceLT, Nat.reduceAdd, Nat.reduceMul, Nat.reduceSub, Nat.reduceLeDiff, Nat.reduceBEq, Int.reduceEq, Int.reduceNeg, tk, ntmps126, results126, Int.reduceSub, Int.reduceAdd, Int.reduceToNat, Int.reduceLE, Int.reduceLT, Int.toNat_zero, Int.reduceNeg, wrap1, wrap0, wrap2, chunk_3, range_3, mCells, mCell]
  refine hK _ ?_; clear hK K
  refine seqK fun K hK => ?_
  simp only [bW, ↓splitB_true, ↓splitB_false, nilCmp, opConv, eq_self, if_true, if_false, Nat.reduceEqDiff, reduceCtorEq, ↓reduceIte, Nat.reduceLT, Nat.reduceAdd, Nat.reduceMul, Nat.reduceSub, Nat.reduceLeDiff, Nat.reduceBEq, Int.reduceEq, Int.reduceNeg, tk, ntmps126, results126, Int.reduceSub, Int.reduceAdd, Int.reduceToNat, Int.reduceLE, Int.reduceLT, Int.toNat_zero, Int.reduceNeg, wrap1, wrap0, wrap2, chunk_3, range_3, mCells, mCell]
  have hin : (1 ≤ n ∧ n ≤ 3) ∨ ¬ (1 ≤ n ∧ n ≤ 3) := Decidable.em _
  rcases hin with hin | hin
  · refine splitB_intro (fun hb => ?_) (fun hb => ?_)
    · exact absurd (of_decide_eq_true hb) (by omega)
    refine splitB_intro (fun hb => ?_) (fun hb => hK _ ?_) <;> clear hK K
    · exact absurd (of_decide_eq_true hb) (by omega)
    have h3 : n = 1 ∨ n = 2 ∨ n = 3 := by omega
    rcases h3 with rfl | rfl | rfl
    all_goals
      simp only [bW, ↓splitB_true, ↓splitB_false, nilCmp, opConv, eq_self, if_true, if_false, Nat.reduceEqDiff, reduceCtorEq, ↓reduceIte, Nat.reduceLT, Nat.reduceAdd, Nat.reduceMul, Nat.reduceSub, Nat.reduceLeDiff, Nat.reduceBEq, Int.reduceEq, Int.reduceNeg, tk, ntmps126, results126, Int.reduceSub, Int.reduceAdd, Int.reduceToNat, Int.reduceLE, Int.reduceLT, Int.toNat_zero, Int.reduceNeg, wrap1, wrap0, wrap2, chunk_3, range_3, mCells, mCell]
      refine ⟨by decide, ?_⟩
      try rfl
  · have e := (tyText_nil n).2 hin
    rw [e]
    refine splitB_intro (fun hb => ?_) (fun hb => ?_)
    · trivial
    have hb := of_decide_eq_false hb
    refine splitB_intro (fun hb2 => ?_) (fun hb2 => ?_)
    · trivial
    exact absurd (of_decide_eq_false hb2) (by omega)

theorem f124_ok {S : Nat → Option Summ} (hS : SumOK prog S) (ds : List D) (r : D) (hr : F124 ds = some r) : FnOK prog 124 (ds.map .d) { ret := r } := by
  unfold F124 at hr
  split at hr
  case h_2 => cases hr
  rename_i w
  simp only [Option.some.injEq] at hr
  subst hr
  refine fnOK_awp (A := ⟨tab, S, .x⟩) tab_ok hS mixed func124 rfl rfl rfl rfl (by show 1 ≤ 18; decide) rfl ?_
  refine seqK fun K hK => ?_
  simp only [bW, ↓splitB_true, ↓splitB_false, nilCmp, opConv, eq_self, if_true, if_false, Nat.reduceEqDiff, reduceCtorEq, ↓reduceIte, Nat.reduceLT, Nat.reduceAdd, Nat.reduceMul, Nat.reduceSub, Nat.reduceLeDiff, Nat.reduceBEq, Int.reduceEq, Int.reduceNeg, tk, ntmps124, results124, range_19, chunk]
  refine hK _ ?_; clear hK K
  refine seqK fun K hK => ?_
  simp only [bW, ↓splitB_true, ↓splitB_false, nilCmp, opConv, eq_self, if_true, if_false, Nat.reduceEqDiff, reduceCtorEq, ↓reduceIte, Nat.reduceLT, Nat.reduceAdd, Nat.reduceMul, Nat.reduceSub, Nat.reduceLeDiff, Nat.reduceBEq, Int.reduceEq, Int.reduceNeg, tk, ntmps124, results124, range_19, chunk]
  have hown : ∀ H' : List (List D), H' = own19 → H' = own19 := fun _ h => h
  refine hK _ ?_; clear hK K hown
  generalize hown : ([[.s ⟨#[117, 115, 101]⟩], [.s ⟨#[102, 117, 110]⟩], [.s ⟨#[112, 117, 98]⟩], [.s ⟨#[109, 97, 105, 110]⟩], [.s ⟨#[105, 110, 116]⟩], [.s ⟨#[98, 111, 111, 108]⟩], [.s ⟨#[114, 111, 119]⟩], [.s ⟨#[105, 102]⟩], [.s ⟨#[108, 101, 116]⟩], [.s ⟨#[116, 114, 117, 101]⟩], [.s ⟨#[102, 97, 108, 115, 101]⟩], [.s ⟨#[97, 110, 100]⟩], [.s ⟨#[111, 114]⟩], [.s ⟨#[110, 111, 116]⟩], [.s ⟨#[97, 116]⟩], [.s ⟨#[108, 101, 110]⟩], [.s ⟨#[112, 117, 116]⟩], [.s ⟨#[106, 111, 105, 110]⟩], [.s ⟨#[112, 114, 105, 110, 116]⟩]] : List (List D)) = L
  obtain rfl : L = own19 := by rw [← hown]; rfl
  clear hown
  have hl19 := own19_len
  refine seqK fun K hK => ?_
  refine seqK fun K2 hK2 => ?_
  simp only [bW, ↓splitB_true, ↓splitB_false, nilCmp, opConv, eq_self, if_true, if_false, Nat.reduceEqDiff, reduceCtorEq, ↓reduceIte, Nat.reduceLT, Nat.reduceAdd, Nat.reduceMul, Nat.reduceSub, Nat.reduceLeDiff, Nat.reduceBEq, Int.reduceEq, Int.reduceNeg, tk, ntmps124, results124, range_19, chunk]
  refine hK2 _ ?_; clear hK2 K2
  rw [awp_block]
  refine loopW [0, 3, 4] (fun i : Nat => stL 18 [(0, .d (.s w)), (3, .r 500000), (4, .d (.i .i64 i))] [(500000, some (.row 1 own19 true false 0))]) (fun i => i ≤ own19.length ∧ own19.any (txt w) = (own19.drop i).any (txt w)) (fun i => own19.length - i) ?_ ?_
  · refine ⟨?_, 0, ?_, by omega, by first | rfl | simp⟩
    · simp only [bK, Nat.reduceEqDiff, reduceCtorEq, ↓reduceIte, Nat.reduceBEq, Nat.reduceLeDiff, Nat.reduceAdd, if_true, if_false]
    · simp only [bK, Nat.reduceEqDiff, reduceCtorEq, ↓reduceIte, Nat.reduceBEq, Nat.reduceLeDiff, Nat.reduceAdd, if_true, if_false]
      refine stL_eq ?_ ?_
      · simp only [Option.some.injEq, Ret.mk.injEq, List.cons.injEq, Prod.mk.injEq, AV.d.injEq, D.i.injEq, D.b.injEq, D.s.injEq, true_and, and_true]
        first | rfl | (simp only [List.drop_zero]; omega)
      · try rfl
  rintro i ⟨hi, hn⟩
  refine seqK fun K3 hK3 => ?_
  simp only [bW, ↓splitB_true, ↓splitB_false, nilCmp, opConv, eq_self, if_true, if_false, Nat.reduceEqDiff, reduceCtorEq, ↓reduceIte, Nat.reduceLT, Nat.reduceAdd, Nat.reduceMul, Nat.reduceSub, Nat.reduceLeDiff, Nat.reduceBEq, Int.reduceEq, Int.reduceNeg, tk, ntmps124, results124, range_19, chunk]
  refine splitB_intro (fun hb => hK3 _ ?_) (fun hb => hK _ ?_) <;> clear hK3 K3
  · have hlt := of_decide_eq_true hb
    clear hb
    have hlt : i < own19.length := by omega
    have hrow := shLL_get (cs := [.s]) own19_sh (i := i) hlt
    have hst := any_step (txt w) (xs := own19) (i := i) hlt
    generalize hrw : own19.getD i [] = row at hrow hst
    obtain ⟨c1, q1, rfl, e1, hrow⟩ := shL_cons hrow
    obtain rfl := shL_nil hrow
    obtain ⟨t, rfl⟩ := shD_s e1
    have hnm : txt w [.s t] = decide (t = w) := rfl
    rw [hnm] at hst
    refine seqK fun K4 hK4 => ?_
    rw [awp_block]
    simp only [bW, ↓splitB_true, ↓splitB_false, nilCmp, opConv, eq_self, if_true, if_false, Nat.reduceEqDiff, reduceCtorEq, ↓reduceIte, Nat.reduceLT, Nat.reduceAdd, Nat.reduceMul, Nat.reduceSub, Nat.reduceLeDiff, Nat.reduceBEq, Int.reduceEq, Int.reduceNeg, tk, ntmps124, results124, range_19, chunk]
    refine ⟨⟨by omega, by omega⟩, ?_⟩
    rw [hrw]
    simp only [bW, ↓splitB_true, ↓splitB_false, nilCmp, opConv, eq_self, if_true, if_false, Nat.reduceEqDiff, reduceCtorEq, ↓reduceIte, Nat.reduceLT, Nat.reduceAdd, Nat.reduceMul, Nat.reduceSub, Nat.reduceLeDiff, Nat.reduceBEq, Int.reduceEq, Int.reduceNeg, tk, ntmps124, results124, range_19, chunk]
    refine splitB_intro (fun hb => ?_) (fun hb => hK4 _ ?_) <;> clear hK4 K4
    · simp only [ownB]
      rw [hn, hst, hb]; rfl
    rw [hb, Bool.false_or] at hst
    simp only [bW, ↓splitB_true, ↓splitB_false, nilCmp, opConv, eq_self, if_true, if_false, Nat.reduceEqDiff, reduceCtorEq, ↓reduceIte, Nat.reduceLT, Nat.reduceAdd, Nat.reduceMul, Nat.reduceSub, Nat.reduceLeDiff, Nat.reduceBEq, Int.reduceEq, Int.reduceNeg, tk, ntmps124, results124, range_19, chunk]
    try simp (disch := omega) only [wrap64]
    refine ⟨?_, i + 1, ?_, ⟨?_, ?_⟩, ?_⟩
    · simp only [bK, Nat.reduceEqDiff, reduceCtorEq, ↓reduceIte, Nat.reduceBEq, Nat.reduceLeDiff, Nat.reduceAdd, if_true, if_false]
    · simp only [bK, Nat.reduceEqDiff, reduceCtorEq, ↓reduceIte, Nat.reduceBEq, Nat.reduceLeDiff, Nat.reduceAdd, if_true, if_false]
      refine stL_eq ?_ ?_
      · simp only [Option.some.injEq, Ret.mk.injEq, List.cons.injEq, Prod.mk.injEq, AV.d.injEq, D.i.injEq, D.b.injEq, D.s.injEq, true_and, and_true]
        try omega
      · try rfl
    · omega
    · rw [hn, hst]
    · omega
  · have hge := of_decide_eq_false hb
    have e : i = own19.length := by omega
    subst e
    clear hb hge
    rw [List.drop_length] at hn
    simp only [bW, ↓splitB_true, ↓splitB_false, nilCmp, opConv, eq_self, if_true, if_false, Nat.reduceEqDiff, reduceCtorEq, ↓reduceIte, Nat.reduceLT, Nat.reduceAdd, Nat.reduceMul, Nat.reduceSub, Nat.reduceLeDiff, Nat.reduceBEq, Int.reduceEq, Int.reduceNeg, tk, ntmps124, results124, range_19, chunk]
    simp only [ownB]
    rw [hn]; rfl

theorem f166_ok {S : Nat → Option Summ} (hS : SumOK prog S) (ds : List D) (r : D) (hr : F166 ds = some r) : FnOK prog 166 (ds.map .d) { ret := r } := by
  unfold F166 at hr
  split at hr
  case h_2 => cases hr
  rename_i xs w
  split at hr
  case isFalse => cases hr
  rename_i hc
  obtain ⟨h1, h2⟩ := hc
  simp only [Option.some.injEq] at hr
  subst hr
  refine fnOK_awp (A := ⟨tab, S, .x⟩) tab_ok hS mixed func166 rfl rfl rfl rfl (by show 2 ≤ 19; decide) rfl ?_
  refine seqK fun K hK => ?_
  simp only [bW, ↓splitB_true, ↓splitB_false, nilCmp, opConv, eq_self, if_true, if_false, Nat.reduceEqDiff, reduceCtorEq, ↓reduceIte, Nat.reduceLT, Nat.reduceAdd, Nat.reduceMul, Nat.reduceSub, Nat.reduceLeDiff, Nat.reduceBEq, Int.reduceEq, Int.reduceNeg, tk, ntmps166, results166]
  refine hK _ ?_; clear hK K
  refine seqK fun K hK => ?_
  refine seqK fun K2 hK2 => ?_
  simp only [bW, ↓splitB_true, ↓splitB_false, nilCmp, opConv, eq_self, if_true, if_false, Nat.reduceEqDiff, reduceCtorEq, ↓reduceIte, Nat.reduceLT, Nat.reduceAdd, Nat.reduceMul, Nat.reduceSub, Nat.reduceLeDiff, Nat.reduceBEq, Int.reduceEq, Int.reduceNeg, tk, ntmps166, results166]
  refine hK2 _ ?_; clear hK2 K2
  rw [awp_block]
  refine loopW [0, 1, 7, 8] (fun i : Nat => stL 19 [(0, .d (.l 1 xs)), (1, .d (.s w)), (7, .d (.i .i64 xs.length)), (8, .d (.i .i64 i))] []) (fun i => i ≤ xs.length ∧ idxP (txt w) xs 0 = idxP (txt w) (xs.drop i) i) (fun i => xs.length - i) ?_ ?_
  · refine ⟨?_, 0, ?_, by omega, by first | rfl | simp⟩
    · simp only [bK, Nat.reduceEqDiff, reduceCtorEq, ↓reduceIte, Nat.reduceBEq, Nat.reduceLeDiff, Nat.reduceAdd, if_true, if_false]
    · simp only [bK, Nat.reduceEqDiff, reduceCtorEq, ↓reduceIte, Nat.reduceBEq, Nat.reduceLeDiff, Nat.reduceAdd, if_true, if_false]
      refine stL_eq ?_ ?_
      · simp only [Option.some.injEq, Ret.mk.injEq, List.cons.injEq, Prod.mk.injEq, AV.d.injEq, D.i.injEq, D.b.injEq, D.s.injEq, true_and, and_true]
        first | rfl | (simp only [List.drop_zero]; omega)
      · try rfl
  rintro i ⟨hi, hn⟩
  refine seqK fun K3 hK3 => ?_
  simp only [bW, ↓splitB_true, ↓splitB_false, nilCmp, opConv, eq_self, if_true, if_false, Nat.reduceEqDiff, reduceCtorEq, ↓reduceIte, Nat.reduceLT, Nat.reduceAdd, Nat.reduceMul, Nat.reduceSub, Nat.reduceLeDiff, Nat.reduceBEq, Int.reduceEq, Int.reduceNeg, tk, ntmps166, results166]
  refine hK3 _ ?_; clear hK3 K3
  refine seqK fun K3 hK3 => ?_
  simp only [bW, ↓splitB_true, ↓splitB_false, nilCmp, opConv, eq_self, if_true, if_false, Nat.reduceEqDiff, reduceCtorEq, ↓reduceIte, Nat.reduceLT, Nat.reduceAdd, Nat.reduceMul, Nat.reduceSub, Nat.reduceLeDiff, Nat.reduceBEq, Int.reduceEq, Int.reduceNeg, tk, ntmps166, results166]
  refine splitB_intro (fun hb => hK3 _ ?_) (fun hb => hK _ ?_) <;> clear hK3 K3
  · have hlt := of_decide_eq_true hb
    clear hb
    have hlt : i < xs.length := by omega
    have hrow := shLL_get h1 hlt
    have hst := idxP_step (txt w) hlt (i : Int)
    generalize hrw : xs.getD i [] = row at hrow hst
    obtain ⟨c1, q1, rfl, e1, hrow⟩ := shL_cons hrow
    obtain rfl := shL_nil hrow
    obtain ⟨t, rfl⟩ := shD_s e1
    have hnm : (txt w [.s t] = true) = (w = t) := by simp [txt, nameOf, eq_comm]
    simp only [hnm] at hst
    refine seqK fun K4 hK4 => ?_
    rw [awp_block]
    refine seqK fun K5 hK5 => ?_
    simp only [bW, ↓splitB_true, ↓splitB_false, nilCmp, opConv, eq_self, if_true, if_false, Nat.reduceEqDiff, reduceCtorEq, ↓reduceIte, Nat.reduceLT, Nat.reduceAdd, Nat.reduceMul, Nat.reduceSub, Nat.reduceLeDiff, Nat.reduceBEq, Int.reduceEq, Int.reduceNeg, tk, ntmps166, results166]
    refine hK5 _ ?_; clear hK5 K5
    simp only [bW, ↓splitB_true, ↓splitB_false, nilCmp, opConv, eq_self, if_true, if_false, Nat.reduceEqDiff, reduceCtorEq, ↓reduceIte, Nat.reduceLT, Nat.reduceAdd, Nat.reduceMul, Nat.reduceSub, Nat.reduceLeDiff, Nat.reduceBEq, Int.reduceEq, Int.reduceNeg, tk, ntmps166, results166]
    refine ⟨⟨by omega, by omega⟩, ?_⟩
    rw [hrw]
    simp only [bW, ↓splitB_true, ↓splitB_false, nilCmp, opConv, eq_self, if_true, if_false, Nat.reduceEqDiff, reduceCtorEq, ↓reduceIte, Nat.reduceLT, Nat.reduceAdd, Nat.reduceMul, Nat.reduceSub, Nat.reduceLeDiff, Nat.reduceBEq, Int.reduceEq, Int.reduceNeg, tk, ntmps166, results166]
    refine splitB_intro (fun hb => ?_) (fun hb => hK4 _ ?_) <;> clear hK4 K4
    · have hb := of_decide_eq_true hb
      rw [if_pos hb] at hst
      rw [hn, hst]
    have hb := of_decide_eq_false hb
    rw [if_neg hb] at hst
    simp only [bW, ↓splitB_true, ↓splitB_false, nilCmp, opConv, eq_self, if_true, if_false, Nat.reduceEqDiff, reduceCtorEq, ↓reduceIte, Nat.reduceLT, Nat.reduceAdd, Nat.reduceMul, Nat.reduceSub, Nat.reduceLeDiff, Nat.reduceBEq, Int.reduceEq, Int.reduceNeg, tk, ntmps166, results166]
    try simp (disch := omega) only [wrap64]
    refine ⟨?_, i + 1, ?_, ⟨?_, ?_⟩, ?_⟩
    · simp only [bK, Nat.reduceEqDiff, reduceCtorEq, ↓reduceIte, Nat.reduceBEq, Nat.reduceLeDiff, Nat.reduceAdd, if_true, if_false]
    · simp only [bK, Nat.reduceEqDiff, reduceCtorEq, ↓reduceIte, Nat.reduceBEq, Nat.reduceLeDiff, Nat.reduceAdd, if_true, if_false]
      refine stL_eq ?_ ?_
      · simp only [Option.some.injEq, Ret.mk.injEq, List.cons.injEq, Prod.mk.injEq, AV.d.injEq, D.i.injEq, D.b.injEq, D.s.injEq, true_and, and_true]
        try omega
      · try rfl
    · omega
    · rw [hn, hst]; rfl
    · omega
  · have hge := of_decide_eq_false hb
    have e : i = xs.length := by omega
    subst e
    clear hb hge
    rw [List.drop_length] at hn
    simp only [bW, ↓splitB_true, ↓splitB_false, nilCmp, opConv, eq_self, if_true, if_false, Nat.reduceEqDiff, reduceCtorEq, ↓reduceIte, Nat.reduceLT, Nat.reduceAdd, Nat.reduceMul, Nat.reduceSub, Nat.reduceLeDiff, Nat.reduceBEq, Int.reduceEq, Int.reduceNeg, tk, ntmps166, results166]
    rw [hn]; rfl

theorem f148_ok {S : Nat → Option Summ} (hS : SumOK prog S) (s166 : S 166 = some (.own F166)) (ds : List D) (r : D) (hr : F148 ds = some r) : FnOK prog 148 (ds.map .d) { ret := r } := by
  unfold F148 at hr
  split at hr
  case h_2 => cases hr
  rename_i xs w
  split at hr
  case isFalse => cases hr
  rename_i hc
  obtain ⟨h1, h2⟩ := hc
  simp only [Option.some.injEq] at hr
  subst hr
  refine fnOK_awp (A := ⟨tab, S, .x⟩) tab_ok hS mixed func148 rfl rfl rfl rfl (by show 2 ≤ 9; decide) rfl ?_
  simp only [bW, ↓splitB_true, ↓splitB_false, nilCmp, opConv, eq_self, if_true, if_false, Nat.reduceEqDiff, reduceCtorEq, ↓reduceIte, Nat.reduceLT, Nat.reduceAdd, Nat.reduceMul, Nat.reduceSub, Nat.reduceLeDiff, Nat.reduceBEq, Int.reduceEq, Int.reduceNeg, tk, ntmps148, results148, s166, F166]
  refine ⟨⟨h1, by omega⟩, ?_⟩
  try simp only [bW, ↓splitB_true, ↓splitB_false, nilCmp, opConv, eq_self, if_true, if_false, Nat.reduceEqDiff, reduceCtorEq, ↓reduceIte, Nat.reduceLT, Nat.reduceAdd, Nat.reduceMul, Nat.reduceSub, Nat.reduceLeDiff, Nat.reduceBEq, Int.reduceEq, Int.reduceNeg, tk, ntmps148, results148, s166, F166]
  simp only [Option.some.injEq, Ret.mk.injEq, List.cons.injEq, Prod.mk.injEq, AV.d.injEq, D.i.injEq, D.b.injEq, D.s.injEq, true_and, and_true]
  rw [Bool.eq_iff_iff, decide_eq_true_eq]
  exact idxP_any _ _ _ (by omega)

theorem f129_ok {S : Nat → Option Summ} (hS : SumOK prog S) (s148 : S 148 = some (.own F148)) (ds : List D) (r : D) (hr : F124 ds = some r) : FnOK prog 129 (ds.map .d) { ret := r } := by
  unfold F124 at hr
  split at hr
  case h_2 => cases hr
  rename_i w
  simp only [Option.some.injEq] at hr
  subst hr
  refine fnOK_awp (A := ⟨tab, S, .x⟩) tab_ok hS mixed func129 rfl rfl rfl rfl (by show 1 ≤ 6; decide) rfl ?_
  refine seqK fun K hK => ?_
  simp only [bW, ↓splitB_true, ↓splitB_false, nilCmp, opConv, eq_self, if_true, if_false, Nat.reduceEqDiff, reduceCtorEq, ↓reduceIte, Nat.reduceLT, Nat.reduceAdd, Nat.reduceMul, Nat.reduceSub, Nat.reduceLeDiff, Nat.reduceBEq, Int.reduceEq, Int.reduceNeg, tk, ntmps129, results129, s148, F148, range_19, chunk]
  refine hK _ ?_; clear hK K
  simp only [bW, ↓splitB_true, ↓splitB_false, nilCmp, opConv, eq_self, if_true, if_false, Nat.reduceEqDiff, reduceCtorEq, ↓reduceIte, Nat.reduceLT, Nat.reduceAdd, Nat.reduceMul, Nat.reduceSub, Nat.reduceLeDiff, Nat.reduceBEq, Int.reduceEq, Int.reduceNeg, tk, ntmps129, results129, s148, F148, range_19, chunk]
  refine ⟨by decide, ?_⟩
  try rfl

end Go.Fs.Sr

set_option linter.unusedVariables false
set_option linter.unusedSimpArgs false
set_option maxRecDepth 20000
set_option maxHeartbeats 2000000
namespace Go.Fs.Sr
open Go.Proofs.Try

theorem f88_ok {S : Nat → Option Summ} (hS : SumOK prog S) (s99 : S 99 = some (.own F99)) (s129 : S 129 = some (.own F124)) (ds : List D) (r : D) (hr : F85 ds = some r) : FnOK prog 88 (ds.map .d) { ret := r } := by
  unfold F85 at hr
  split at hr
  case h_2 => cases hr
  rename_i w
  split at hr
  case isFalse => cases hr
  rename_i hc
  have hc2 := hc
  simp only [Option.some.injEq] at hr
  subst hr
  refine fnOK_awp (A := ⟨tab, S, .x⟩) tab_ok hS mixed func88 rfl rfl rfl rfl (by show 1 ≤ 28; decide) rfl ?_
  refine seqK fun K hK => ?_
  simp only [bW, ↓splitB_true, ↓splitB_false, nilCmp, opConv, eq_self, if_true, if_false, Nat.reduceEqDiff, reduceCtorEq, ↓reduceIte, Nat.reduceLT, Nat.reduceAdd, Nat.reduceMul, Nat.reduceSub, Nat.reduceLeDiff, Nat.reduceBEq, Int.reduceEq, Int.reduceNeg, tk, ntmps88, results88, s99, s129, F99, F124, opByte]
  refine hK _ ?_; clear hK K
  refine seqK fun K hK => ?_
  refine seqK fun K2 hK2 => ?_
  simp only [bW, ↓splitB_true, ↓splitB_false, nilCmp, opConv, eq_self, if_true, if_false, Nat.reduceEqDiff, reduceCtorEq, ↓reduceIte, Nat.reduceLT, Nat.reduceAdd, Nat.reduceMul, Nat.reduceSub, Nat.reduceLeDiff, Nat.reduceBEq, Int.reduceEq, Int.reduceNeg, tk, ntmps88, results88, s99, s129, F99, F124, opByte]
  refine hK2 _ ?_; clear hK2 K2
  rw [awp_block]
  refine loopW [0, 5, 6] (fun i : Nat => stL 28 [(0, .d (.s w)), (5, .d (.i .i64 w.size)), (6, .d (.i .i64 i))] []) (fun i => i ≤ w.size ∧ w.data.toList.all low = (w.data.toList.drop i).all low) (fun i => w.size - i) ?_ ?_
  · refine ⟨?_, 0, ?_, by omega, by first | rfl | simp⟩
    · simp only [bK, Nat.reduceEqDiff, reduceCtorEq, ↓reduceIte, Nat.reduceBEq, Nat.reduceLeDiff, Nat.reduceAdd, if_true, if_false]
    · simp only [bK, Nat.reduceEqDiff, reduceCtorEq, ↓reduceIte, Nat.reduceBEq, Nat.reduceLeDiff, Nat.reduceAdd, if_true, if_false]
      refine stL_eq ?_ ?_
      · simp only [Option.some.injEq, Ret.mk.injEq, List.cons.injEq, Prod.mk.injEq, AV.d.injEq, D.i.injEq, D.b.injEq, D.s.injEq, true_and, and_true]
        first | rfl | (simp only [List.drop_zero]; omega)
      · try rfl
  rintro i ⟨hi, hn⟩
  refine seqK fun K3 hK3 => ?_
  simp only [bW, ↓splitB_true, ↓splitB_false, nilCmp, opConv, eq_self, if_true, if_false, Nat.reduceEqDiff, reduceCtorEq, ↓reduceIte, Nat.reduceLT, Nat.reduceAdd, Nat.reduceMul, Nat.reduceSub, Nat.reduceLeDiff, Nat.reduceBEq, Int.reduceEq, Int.reduceNeg, tk, ntmps88, results88, s99, s129, F99, F124, opByte]
  refine hK3 _ ?_; clear hK3 K3
  refine seqK fun K3 hK3 => ?_
  simp only [bW, ↓splitB_true, ↓splitB_false, nilCmp, opConv, eq_self, if_true, if_false, Nat.reduceEqDiff, reduceCtorEq, ↓reduceIte, Nat.reduceLT, Nat.reduceAdd, Nat.reduceMul, Nat.reduceSub, Nat.reduceLeDiff, Nat.reduceBEq, Int.reduceEq, Int.reduceNeg, tk, ntmps88, results88, s99, s129, F99, F124, opByte]
  refine splitB_intro (fun hb => hK3 _ ?_) (fun hb => hK _ ?_) <;> clear hK3 K3
  · have hlt := of_decide_eq_true hb
    clear hb
    have hlt : i < w.size := by omega
    have hst := low_step (w := w) hlt
    have hb0 : low (w.data.getD i 0) = decide (97 ≤ byteAt w i ∧ byteAt w i ≤ 122) := by
      rw [byteAt_nat]; simp only [low]; rw [decide_eq_decide]; omega
    rw [hb0] at hst
    refine seqK fun K4 hK4 => ?_
    rw [awp_block]
    refine seqK fun K5 hK5 => ?_
    simp only [bW, ↓splitB_true, ↓splitB_false, nilCmp, opConv, eq_self, if_true, if_false, Nat.reduceEqDiff, reduceCtorEq, ↓reduceIte, Nat.reduceLT, Nat.reduceAdd, Nat.reduceMul, Nat.reduceSub, Nat.reduceLeDiff, Nat.reduceBEq, Int.reduceEq, Int.reduceNeg, tk, ntmps88, results88, s99, s129, F99, F124, opByte]
    refine hK5 _ ?_; clear hK5 K5
    simp only [bW, ↓splitB_true, ↓splitB_false, nilCmp, opConv, eq_self, if_true, if_false, Nat.reduceEqDiff, reduceCtorEq, ↓reduceIte, Nat.reduceLT, Nat.reduceAdd, Nat.reduceMul, Nat.reduceSub, Nat.reduceLeDiff, Nat.reduceBEq, Int.reduceEq, Int.reduceNeg, tk, ntmps88, results88, s99, s129, F99, F124, opByte]
    refine ⟨⟨by omega, by omega⟩, ?_⟩
    generalize byteAt w i = c at hst ⊢
    refine splitB_intro (fun hb => ?_) (fun hb => ?_)
    · have hb := of_decide_eq_true hb
      rw [decide_eq_false (by omega), Bool.false_and] at hst
      simp only [lexB]
      rw [hn, hst, Bool.and_false, Bool.and_false]
    have hb := of_decide_eq_false hb
    refine ⟨⟨by omega, by omega⟩, ?_⟩
    refine splitB_intro (fun hb2 => ?_) (fun hb2 => hK4 _ ?_) <;> clear hK4 K4
    · have hb2 := of_decide_eq_true hb2
      rw [decide_eq_false (by omega), Bool.false_and] at hst
      simp only [lexB]
      rw [hn, hst, Bool.and_false, Bool.and_false]
    have hb2 := of_decide_eq_false hb2
    rw [decide_eq_true (by omega), Bool.true_and] at hst
    simp only [bW, ↓splitB_true, ↓splitB_false, nilCmp, opConv, eq_self, if_true, if_false, Nat.reduceEqDiff, reduceCtorEq, ↓reduceIte, Nat.reduceLT, Nat.reduceAdd, Nat.reduceMul, Nat.reduceSub, Nat.reduceLeDiff, Nat.reduceBEq, Int.reduceEq, Int.reduceNeg, tk, ntmps88, results88, s99, s129, F99, F124, opByte]
    try simp (disch := omega) only [wrap64]
    refine ⟨?_, i + 1, ?_, ⟨?_, ?_⟩, ?_⟩
    · simp only [bK, Nat.reduceEqDiff, reduceCtorEq, ↓reduceIte, Nat.reduceBEq, Nat.reduceLeDiff, Nat.reduceAdd, if_true, if_false]
    · simp only [bK, Nat.reduceEqDiff, reduceCtorEq, ↓reduceIte, Nat.reduceBEq, Nat.reduceLeDiff, Nat.reduceAdd, if_true, if_false]
      refine stL_eq ?_ ?_
      · simp only [Option.some.injEq, Ret.mk.injEq, List.cons.injEq, Prod.mk.injEq, AV.d.injEq, D.i.injEq, D.b.injEq, D.s.injEq, true_and, and_true]
        try omega
      · try rfl
    · omega
    · rw [hn, hst]
    · omega
  · have hge := of_decide_eq_false hb
    have e : i = w.size := by omega
    subst e
    clear hb hge
    rw [List.drop_eq_nil_of_le (by simp)] at hn
    simp only [bW, ↓splitB_true, ↓splitB_false, nilCmp, opConv, eq_self, if_true, if_false, Nat.reduceEqDiff, reduceCtorEq, ↓reduceIte, Nat.reduceLT, Nat.reduceAdd, Nat.reduceMul, Nat.reduceSub, Nat.reduceLeDiff, Nat.reduceBEq, Int.reduceEq, Int.reduceNeg, tk, ntmps88, results88, s99, s129, F99, F124, opByte]
    simp only [lexB]
    rw [hn, List.all_nil, Bool.and_true]
    by_cases h18 : 1 ≤ w.size ∧ w.size ≤ 8
    · have e1 : (decide (1 ≤ (w.size : Int) ∧ (w.size : Int) ≤ 8)) = true := decide_eq_true (by omega)
      rw [e1, decide_eq_true h18]
      trivial
    · have e1 : (decide (1 ≤ (w.size : Int) ∧ (w.size : Int) ≤ 8)) = false := decide_eq_false (by omega)
      rw [e1, decide_eq_false h18]
      trivial

end Go.Fs.Sr

set_option linter.unusedVariables false
set_option linter.unusedSimpArgs false
set_option maxRecDepth 20000
set_option maxHeartbeats 2000000
namespace Go.Fs.Sr
open Go.Proofs.Try

theorem f85_ok {S : Nat → Option Summ} (hS : SumOK prog S) (s124 : S 124 = some (.own F124)) (ds : List D) (r : D) (hr : F85 ds = some r) : FnOK prog 85 (ds.map .d) { ret := r } := by
  unfold F85 at hr
  split at hr
  case h_2 => cases hr
  rename_i w
  split at hr
  case isFalse => cases hr
  rename_i hc
  have hc2 := hc
  simp only [Option.some.injEq] at hr
  subst hr
  refine fnOK_awp (A := ⟨tab, S, .x⟩) tab_ok hS mixed func85 rfl rfl rfl rfl (by show 1 ≤ 32; decide) rfl ?_
  refine seqK fun K hK => ?_
  simp only [bW, ↓splitB_true, ↓splitB_false, nilCmp, opConv, eq_self, if_true, if_false, Nat.reduceEqDiff, reduceCtorEq, ↓reduceIte, Nat.reduceLT, Nat.reduceAdd, Nat.reduceMul, Nat.reduceSub, Nat.reduceLeDiff, Nat.reduceBEq, Int.reduceEq, Int.reduceNeg, tk, ntmps85, results85, s124, F124, opByte]
  refine hK _ ?_; clear hK K
  refine seqK fun K hK => ?_
  simp only [bW, ↓splitB_true, ↓splitB_false, nilCmp, opConv, eq_self, if_true, if_false, Nat.reduceEqDiff, reduceCtorEq, ↓reduceIte, Nat.reduceLT, Nat.reduceAdd, Nat.reduceMul, Nat.reduceSub, Nat.reduceLeDiff, Nat.reduceBEq, Int.reduceEq, Int.reduceNeg, tk, ntmps85, results85, s124, F124, opByte]
  have hcase : (1 ≤ w.size ∧ w.size ≤ 8 ∧ ownB w = false) ∨ ¬ (1 ≤ w.size ∧ w.size ≤ 8 ∧ ownB w = false) := Decidable.em _
  rcases hcase with ⟨c1, c2, c3⟩ | hc
  rotate_left
  · have hf : lexB w = false := by
      simp only [lexB]
      cases ho : ownB w with
      | true => simp
      | false =>
        have : ¬ (1 ≤ w.size ∧ w.size ≤ 8) := fun h => hc ⟨h.1, h.2, ho⟩
        rw [decide_eq_false this, Bool.false_and]
    rw [hf]
    refine splitB_intro (fun hb => ?_) (fun hb => ?_)
    · trivial
    have hb := of_decide_eq_false hb
    refine splitB_intro (fun hb2 => ?_) (fun hb2 => ?_)
    · trivial
    have hb2 := of_decide_eq_false hb2
    refine splitB_intro (fun hb3 => ?_) (fun hb3 => ?_)
    · trivial
    exact absurd ⟨by omega, by omega, hb3⟩ hc
  rw [c3]
  refine splitB_intro (fun hb => ?_) (fun hb => ?_)
  · exact absurd (of_decide_eq_true hb) (by omega)
  refine splitB_intro (fun hb => ?_) (fun hb => ?_)
  · exact absurd (of_decide_eq_true hb) (by omega)
  simp only [bW, ↓splitB_true, ↓splitB_false, nilCmp, opConv, eq_self, if_true, if_false, Nat.reduceEqDiff, reduceCtorEq, ↓reduceIte, Nat.reduceLT, Nat.reduceAdd, Nat.reduceMul, Nat.reduceSub, Nat.reduceLeDiff, Nat.reduceBEq, Int.reduceEq, Int.reduceNeg, tk, ntmps85, results85, s124, F124, opByte]
  refine hK _ ?_; clear hK K
  refine seqK fun K hK => ?_
  refine seqK fun K2 hK2 => ?_
  simp only [bW, ↓splitB_true, ↓splitB_false, nilCmp, opConv, eq_self, if_true, if_false, Nat.reduceEqDiff, reduceCtorEq, ↓reduceIte, Nat.reduceLT, Nat.reduceAdd, Nat.reduceMul, Nat.reduceSub, Nat.reduceLeDiff, Nat.reduceBEq, Int.reduceEq, Int.reduceNeg, tk, ntmps85, results85, s124, F124, opByte]
  refine hK2 _ ?_; clear hK2 K2
  rw [awp_block]
  refine loopW [0, 3] (fun i : Nat => stL 32 [(0, .d (.s w)), (3, .d (.i .i64 i))] []) (fun i => i ≤ w.size ∧ w.data.toList.all low = (w.data.toList.drop i).all low) (fun i => w.size - i) ?_ ?_
  · refine ⟨?_, 0, ?_, by omega, by first | rfl | simp⟩
    · simp only [bK, Nat.reduceEqDiff, reduceCtorEq, ↓reduceIte, Nat.reduceBEq, Nat.reduceLeDiff, Nat.reduceAdd, if_true, if_false]
    · simp only [bK, Nat.reduceEqDiff, reduceCtorEq, ↓reduceIte, Nat.reduceBEq, Nat.reduceLeDiff, Nat.reduceAdd, if_true, if_false]
      refine stL_eq ?_ ?_
      · simp only [Option.some.injEq, Ret.mk.injEq, List.cons.injEq, Prod.mk.injEq, AV.d.injEq, D.i.injEq, D.b.injEq, D.s.injEq, true_and, and_true]
        first | rfl | (simp only [List.drop_zero]; omega)
      · try rfl
  rintro i ⟨hi, hn⟩
  refine seqK fun K3 hK3 => ?_
  simp only [bW, ↓splitB_true, ↓splitB_false, nilCmp, opConv, eq_self, if_true, if_false, Nat.reduceEqDiff, reduceCtorEq, ↓reduceIte, Nat.reduceLT, Nat.reduceAdd, Nat.reduceMul, Nat.reduceSub, Nat.reduceLeDiff, Nat.reduceBEq, Int.reduceEq, Int.reduceNeg, tk, ntmps85, results85, s124, F124, opByte]
  refine splitB_intro (fun hb => hK3 _ ?_) (fun hb => hK _ ?_) <;> clear hK3 K3
  · have hlt := of_decide_eq_true hb
    clear hb
    have hlt : i < w.size := by omega
    have hst := low_step (w := w) hlt
    have hb0 : low (w.data.getD i 0) = decide (97 ≤ byteAt w i ∧ byteAt w i ≤ 122) := by
      rw [byteAt_nat]; simp only [low]; rw [decide_eq_decide]; omega
    rw [hb0] at hst
    refine seqK fun K4 hK4 => ?_
    rw [awp_block]
    simp only [bW, ↓splitB_true, ↓splitB_false, nilCmp, opConv, eq_self, if_true, if_false, Nat.reduceEqDiff, reduceCtorEq, ↓reduceIte, Nat.reduceLT, Nat.reduceAdd, Nat.reduceMul, Nat.reduceSub, Nat.reduceLeDiff, Nat.reduceBEq, Int.reduceEq, Int.reduceNeg, tk, ntmps85, results85, s124, F124, opByte]
    refine ⟨⟨by omega, by omega⟩, ?_⟩
    generalize byteAt w i = c at hst ⊢
    refine splitB_intro (fun hb => ?_) (fun hb => ?_)
    · have hb := of_decide_eq_true hb
      rw [decide_eq_false (by omega), Bool.false_and] at hst
      simp only [lexB]
      rw [hn, hst, Bool.and_false, Bool.and_false]
    have hb := of_decide_eq_false hb
    refine ⟨⟨by omega, by omega⟩, ?_⟩
    refine splitB_intro (fun hb2 => ?_) (fun hb2 => hK4 _ ?_) <;> clear hK4 K4
    · have hb2 := of_decide_eq_true hb2
      rw [decide_eq_false (by omega), Bool.false_and] at hst
      simp only [lexB]
      rw [hn, hst, Bool.and_false, Bool.and_false]
    have hb2 := of_decide_eq_false hb2
    rw [decide_eq_true (by omega), Bool.true_and] at hst
    simp only [bW, ↓splitB_true, ↓splitB_false, nilCmp, opConv, eq_self, if_true, if_false, Nat.reduceEqDiff, reduceCtorEq, ↓reduceIte, Nat.reduceLT, Nat.reduceAdd, Nat.reduceMul, Nat.reduceSub, Nat.reduceLeDiff, Nat.reduceBEq, Int.reduceEq, Int.reduceNeg, tk, ntmps85, results85, s124, F124, opByte]
    try simp (disch := omega) only [wrap64]
    refine ⟨?_, i + 1, ?_, ⟨?_, ?_⟩, ?_⟩
    · simp only [bK, Nat.reduceEqDiff, reduceCtorEq, ↓reduceIte, Nat.reduceBEq, Nat.reduceLeDiff, Nat.reduceAdd, if_true, if_false]
    · simp only [bK, Nat.reduceEqDiff, reduceCtorEq, ↓reduceIte, Nat.reduceBEq, Nat.reduceLeDiff, Nat.reduceAdd, if_true, if_false]
      refine stL_eq ?_ ?_
      · simp only [Option.some.injEq, Ret.mk.injEq, List.cons.injEq, Prod.mk.injEq, AV.d.injEq, D.i.injEq, D.b.injEq, D.s.injEq, true_and, and_true]
        try omega
      · try rfl
    · omega
    · rw [hn, hst]
    · omega
  · have hge := of_decide_eq_false hb
    have e : i = w.size := by omega
    subst e
    clear hb hge
    rw [List.drop_eq_nil_of_le (by simp)] at hn
    simp only [bW, ↓splitB_true, ↓splitB_false, nilCmp, opConv, eq_self, if_true, if_false, Nat.reduceEqDiff, reduceCtorEq, ↓reduceIte, Nat.reduceLT, Nat.reduceAdd, Nat.reduceMul, Nat.reduceSub, Nat.reduceLeDiff, Nat.reduceBEq, Int.reduceEq, Int.reduceNeg, tk, ntmps85, results85, s124, F124, opByte]
    simp only [lexB]
    rw [hn, c3, decide_eq_true ⟨c1, c2⟩]
    rfl

theorem f125_ok {S : Nat → Option Summ} (hS : SumOK prog S) (s85 : S 85 = some (.own F85)) (ds : List D) (r : D) (hr : F125 ds = some r) : FnOK prog 125 (ds.map .d) { ret := r } := by
  unfold F125 at hr
  split at hr
  case h_2 => cases hr
  rename_i w
  split at hr
  case isFalse => cases hr
  rename_i hc
  have hc2 := hc
  simp only [Option.some.injEq] at hr
  subst hr
  refine fnOK_awp (A := ⟨tab, S, .x⟩) tab_ok hS mixed func125 rfl rfl rfl rfl (by show 1 ≤ 9; decide) rfl ?_
  simp only [bW, ↓splitB_true, ↓splitB_false, nilCmp, opConv, eq_self, if_true, if_false, Nat.reduceEqDiff, reduceCtorEq, ↓reduceIte, Nat.reduceLT, Nat.reduceAdd, Nat.reduceMul, Nat.reduceSub, Nat.reduceLeDiff, Nat.reduceBEq, Int.reduceEq, Int.reduceNeg, tk, ntmps125, results125, s85, F85]
  refine ⟨by omega, ?_⟩
  have hm : (⟨#[109, 97, 105, 110]⟩ : ByteArray) = mainW := rfl
  simp only [nameB]
  cases hl : lexB w with
  | true => simp only [bW, ↓splitB_true, ↓splitB_false, nilCmp, opConv, eq_self, if_true, if_false, Nat.reduceEqDiff, reduceCtorEq, ↓reduceIte, Nat.reduceLT, Nat.reduceAdd, Nat.reduceMul, Nat.reduceSub, Nat.reduceLeDiff, Nat.reduceBEq, Int.reduceEq, Int.reduceNeg, tk, ntmps125, results125, s85, F85]; rw [Bool.true_or]
  | false => simp only [bW, ↓splitB_true, ↓splitB_false, nilCmp, opConv, eq_self, if_true, if_false, Nat.reduceEqDiff, reduceCtorEq, ↓reduceIte, Nat.reduceLT, Nat.reduceAdd, Nat.reduceMul, Nat.reduceSub, Nat.reduceLeDiff, Nat.reduceBEq, Int.reduceEq, Int.reduceNeg, tk, ntmps125, results125, s85, F85]; rw [hm, Bool.false_or]

end Go.Fs.Sr
