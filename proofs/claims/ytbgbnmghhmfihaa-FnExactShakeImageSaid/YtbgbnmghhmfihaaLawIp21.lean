/- A part of the proof: an evaluator of the program's code over plain data, proved sound, and walks of the program's functions by it. No conditions beyond those in the theorems. -/
import Derived.WalkKit
import Derived.ProofKit
import Derived.OpenShut
import Derived.ShutString
import Derived.ChangeOld
import Derived.Below
import Derived.Carry
import Derived.SizedLaws
import Derived.Test.YtbgbnmghhmfihaaLawIp19
import Derived.Test.YtbgbnmghhmfihaaLawIp8
import Derived.Test.YtbgbnmghhmfihaaLawIp9
import Derived.Test.YtbgbnmghhmfihaaLawIp10
import Derived.Test.YtbgbnmghhmfihaaLawIp11
import Derived.Test.YtbgbnmghhmfihaaLawIp12
import Derived.Test.YtbgbnmghhmfihaaLawIp13
import Derived.Test.YtbgbnmghhmfihaaLawIp14
import Derived.Test.YtbgbnmghhmfihaaLawIp15
import Derived.Test.YtbgbnmghhmfihaaLawIp16
import Derived.Test.YtbgbnmghhmfihaaLawIp17
import Derived.Test.YtbgbnmghhmfihaaLawIp18
import Derived.Test.YtbgbnmghhmfihaaLawIp20
set_option linter.unusedVariables false
namespace Go.Fs.Sr
/-! ### what ShakeImage answers is well shaped and small -/
theorem movI_sh {n : Nat} {list : List (List D)} {x : List D} (h : shL ins2 x = true) : shL ins2 (movI n list x) = true := by
  obtain ⟨c, q, rfl, e, h'⟩ := shL_cons h
  obtain ⟨c2, q2, rfl, e2, h''⟩ := shL_cons h'
  obtain rfl := shL_nil h''
  obtain ⟨t, rfl⟩ := shD_i e
  obtain ⟨t2, rfl⟩ := shD_i e2
  simp only [movI]
  split <;> rfl
theorem mapI_sh {n : Nat} {list : List (List D)} : ∀ {cs : List (List D)}, shLL ins2 cs = true → shLL ins2 (cs.map (movI n list)) = true
  | [], _ => rfl
  | x :: cs, h => by
    simp only [shLL, Bool.and_eq_true] at h
    simp only [List.map_cons, shLL, Bool.and_eq_true]
    exact ⟨movI_sh h.1, mapI_sh h.2⟩
theorem movF_sh {n : Nat} {list : List (List D)} {x : List D} (h : shL lfun x = true) : shL lfun (movF n list x) = true := by
  obtain ⟨c1, q1, rfl, e1, h⟩ := shL_cons h
  obtain ⟨c2, q2, rfl, e2, h⟩ := shL_cons h
  obtain ⟨c3, q3, rfl, e3, h⟩ := shL_cons h
  obtain ⟨c4, q4, rfl, e4, h⟩ := shL_cons h
  obtain ⟨c5, q5, rfl, e5, h⟩ := shL_cons h
  obtain ⟨c6, q6, rfl, e6, h⟩ := shL_cons h
  obtain rfl := shL_nil h
  obtain ⟨cs, rfl, e7⟩ := shD_l e6
  have hl : ins2.length = 2 := rfl
  simp only [movF, lfun, shL, Bool.and_eq_true, and_true]
  refine ⟨e1, e2, e3, e4, e5, ?_⟩
  simp only [shD, Bool.and_eq_true, hl]
  exact ⟨rfl, mapI_sh e7⟩
theorem idxP_lo (p : List D → Bool) : ∀ (xs : List (List D)) (k : Int), 0 ≤ k → -1 ≤ idxP p xs k ∧ idxP p xs k ≤ k + xs.length
  | [], k, h => by simp only [idxP, List.length_nil]; omega
  | x :: xs, k, h => by
    have h1 := idxP_lo p xs (k + 1) (by omega)
    simp only [idxP, List.length_cons]
    split <;> omega
theorem idxN_ok {xs : List (List D)} (n : Int) (h : xs.length ≤ 1048576) : -9223372036854775808 ≤ idxN xs n ∧ idxN xs n < 9223372036854775808 := by
  have h1 := idxP_lo (eqN n) xs 0 (by omega)
  unfold idxN
  omega
theorem movI_ok {n : Nat} {list : List (List D)} {x : List D} (hl : list.length ≤ 1048576) (h : okL x = true) : okL (movI n list x) = true := by
  unfold movI
  split
  · split
    · simp only [okL_cons] at h ⊢
      refine ⟨h.1, ?_, h.2.2⟩
      rw [okD_i]
      exact idxN_ok _ hl
    · exact h
  · exact h
theorem mapI_ok {n : Nat} {list : List (List D)} (hl : list.length ≤ 1048576) : ∀ {cs : List (List D)}, okLL cs = true → okLL (cs.map (movI n list)) = true
  | [], _ => rfl
  | x :: cs, h => by
    rw [okLL_cons] at h
    rw [List.map_cons, okLL_cons]
    exact ⟨movI_ok hl h.1, mapI_ok hl h.2⟩
theorem movF_ok {n : Nat} {list : List (List D)} {x : List D} (hl : list.length ≤ 1048576) (h : okL x = true) : okL (movF n list x) = true := by
  unfold movF
  split
  · simp only [okL_cons, okD_l, List.length_map] at h ⊢
    obtain ⟨h1, h2, h3, h4, h5, ⟨h6, h7⟩, h8⟩ := h
    exact ⟨h1, h2, h3, h4, h5, ⟨h6, mapI_ok hl h7⟩, h8⟩
  · exact h
theorem lv_movI (n : Nat) (list : List (List D)) (x : List D) : lvL (movI n list x) = lvL x := by
  unfold movI
  split
  · split <;> simp [lvL, lv]
  · rfl
theorem lv_mapI (n : Nat) (list : List (List D)) : ∀ (cs : List (List D)), lvLL (cs.map (movI n list)) = lvLL cs
  | [] => rfl
  | x :: cs => by simp only [List.map_cons, lvLL, lv_movI, lv_mapI n list cs]
theorem lv_movF (n : Nat) (list : List (List D)) (x : List D) : lvL (movF n list x) = lvL x := by
  unfold movF
  split
  · simp only [lvL, lv, lv_mapI]
  · rfl
theorem lv_get : ∀ {xs : List (List D)} {i : Nat}, i < xs.length → lvL (xs.getD i []) ≤ lvLL xs
  | [], i, h => by simp at h
  | x :: xs, 0, _ => by simp [lvLL]
  | x :: xs, i + 1, h => by
    have := lv_get (xs := xs) (i := i) (by simpa using h)
    simp only [lvLL]
    simp only [List.getD_cons_succ]
    omega
theorem ansI_facts {fs ns : List (List D)} (h1 : shLL lfun fs = true) (h2 : okLL fs = true) (h3 : fs.length ≤ 1048576) (h5 : shLL [.i] ns = true) (h7 : ns.length ≤ 1048576) (hl : lvLL fs ≤ 33554432) :
    ∃ gs hs, ansI fs ns = [.l 6 gs, .l 1 hs] ∧ shLL lfun gs = true ∧ shLL [.i] hs = true ∧ okLL gs = true ∧ okLL hs = true ∧ gs.length ≤ 1048576 ∧ hs.length ≤ 1048576 ∧ lvLL gs ≤ 35184372088832 ∧ lvLL hs ≤ 1048576 := by
  unfold ansI
  split
  case isFalse => exact ⟨[], [], rfl, rfl, rfl, rfl, rfl, by simp, by simp, by simp [lvLL], by simp [lvLL]⟩
  have hL2 : (reachL fs ns).length ≤ fs.length := pick1_len _ _
  have hL3 : ∀ x ∈ reachL fs ns, ∃ a : Nat, a < fs.length ∧ x = [.i .i64 (a : Int)] := fun x hx => by
    unfold reachL pick1 at hx
    obtain ⟨a, ha, rfl⟩ := List.mem_map.1 hx
    exact ⟨a, List.mem_range.1 (List.mem_filter.1 ha).1, rfl⟩
  have hlen : (reachL fs ns).length ≤ 1048576 := by omega
  refine ⟨_, _, rfl, ?_, ?_, ?_, ?_, ?_, ?_, ?_, ?_⟩
  · rw [newFuns_eq]
    have key : ∀ (L : List (List D)), (∀ x ∈ L, ∃ a : Nat, a < fs.length ∧ x = [.i .i64 (a : Int)]) → shLL lfun (L.map (newFun fs (reachL fs ns))) = true := by
      intro L
      induction L with
      | nil => exact fun _ => rfl
      | cons x L ih =>
        intro h
        obtain ⟨a, ha, rfl⟩ := h x (.head _)
        simp only [List.map_cons, shLL, Bool.and_eq_true]
        rw [newFun_at]
        exact ⟨movF_sh (shLL_get h1 ha), ih fun y hy => h y (.tail _ hy)⟩
    exact key _ hL3
  · rw [newMains_eq]
    have key : ∀ (L : List (List D)), shLL [.i] (L.map (newMain (reachL fs ns))) = true := by
      intro L
      induction L with
      | nil => rfl
      | cons x L ih => simp only [List.map_cons, shLL, Bool.and_eq_true]; exact ⟨rfl, ih⟩
    exact key _
  · rw [newFuns_eq]
    have key : ∀ (L : List (List D)), (∀ x ∈ L, ∃ a : Nat, a < fs.length ∧ x = [.i .i64 (a : Int)]) → okLL (L.map (newFun fs (reachL fs ns))) = true := by
      intro L
      induction L with
      | nil => exact fun _ => rfl
      | cons x L ih =>
        intro h
        obtain ⟨a, ha, rfl⟩ := h x (.head _)
        rw [List.map_cons, okLL_cons, newFun_at]
        exact ⟨movF_ok hlen (okLL_get h2 ha), ih fun y hy => h y (.tail _ hy)⟩
    exact key _ hL3
  · rw [newMains_eq]
    have key : ∀ (L : List (List D)), okLL (L.map (newMain (reachL fs ns))) = true := by
      intro L
      induction L with
      | nil => rfl
      | cons x L ih =>
        rw [List.map_cons, okLL_cons]
        refine ⟨?_, ih⟩
        simp only [newMain, okL_cons, okL_nil, okD_i, and_true]
        exact idxN_ok _ hlen
    exact key _
  · rw [newFuns_eq, List.length_map]; exact hlen
  · rw [newMains_eq, List.length_map]; exact h7
  · rw [newFuns_eq]
    have key : ∀ (L : List (List D)), (∀ x ∈ L, ∃ a : Nat, a < fs.length ∧ x = [.i .i64 (a : Int)]) → lvLL (L.map (newFun fs (reachL fs ns))) ≤ L.length * 33554432 := by
      intro L
      induction L with
      | nil => intro _; simp [lvLL]
      | cons x L ih =>
        intro h
        obtain ⟨a, ha, rfl⟩ := h x (.head _)
        have e1 := ih fun y hy => h y (.tail _ hy)
        have e2 := lv_get ha
        simp only [List.map_cons, lvLL, List.length_cons, newFun_at, lv_movF]
        omega
    have := key _ hL3
    omega
  · rw [newMains_eq]
    have key : ∀ (L : List (List D)), lvLL (L.map (newMain (reachL fs ns))) = L.length := by
      intro L
      induction L with
      | nil => rfl
      | cons x L ih =>
        simp only [List.map_cons, lvLL, List.length_cons, ih, newMain, lvL, lv]
        omega
    rw [key]
    exact h7
theorem OkO_F24 {fs ns : List (List D)} {K : D → Prop} (h1 : shLL lfun fs = true) (h2 : okLL fs = true) (h3 : fs.length ≤ 1048576) (h4 : wtLL fs ≤ 1048576) (h5 : shLL [.i] ns = true) (h6 : okLL ns = true) (h7 : ns.length ≤ 1048576) (h8 : wtL [.l 6 fs, .l 1 ns] ≤ 1048576) (hk : K (.g (ansI fs ns))) : OkO (F24 [.g [.l 6 fs, .l 1 ns]]) K := by
  simp only [F24]; rw [if_pos ⟨h1, h2, h3, h4, h5, h6, h7, h8⟩]; exact hk
theorem OkO_F26 {fs ns : List (List D)} {k : Int} {K : D → Prop} (h1 : shLL lfun fs = true) (h2 : fs.length ≤ 140737488355328) (h3 : lnLL fs = true) (h4 : shLL [.i] ns = true) (h5 : ns.length ≤ 140737488355328) (h6 : lnLL ns = true) (h7 : 0 ≤ k) (h8 : k + ((lvLL fs : Int) + lvLL ns) ≤ 2305843009213693952) (hk : K (.i .i64 (heldL [.l 6 fs, .l 1 ns] k))) : OkO (F26 [.g [.l 6 fs, .l 1 ns], .i .i64 k]) K := by
  simp only [F26]; rw [if_pos ⟨⟨h1, h2, h3⟩, ⟨h4, h5, h6⟩, h7, h8⟩]; exact hk
end Go.Fs.Sr

set_option linter.unusedVariables false
set_option linter.unusedSimpArgs false
set_option maxRecDepth 20000
set_option maxHeartbeats 2000000
namespace Go.Fs.Sr
open Go.Proofs.Try

theorem f5_ok {S : Nat → Option Summ} (hS : SumOK prog S) (s15 : S 15 = some (.own (szG limg))) (s17 : S 17 = some (.own (toG limg))) (s24 : S 24 = some (.own (F24))) (s25 : S 25 = some (.own (F24))) (s20 : S 20 = some (.own (eqG limg))) (s21 : S 21 = some (.io (markG limg))) (s26 : S 26 = some (.own (F26))) (ds : List D) (r : D) (hr : lawG limg ds = some r) : FnOK prog 5 (ds.map .d) { ret := r } := by
  obtain ⟨xs, rfl, h1, h2, rfl⟩ := lawG_inv hr
  clear hr
  have hsh := h1
  have hok := h2
  obtain ⟨c1, q1, rfl, e1, h1⟩ := shL_cons h1
  obtain ⟨c2, q2, rfl, e2, h1⟩ := shL_cons h1
  obtain rfl := shL_nil h1
  obtain ⟨z1, fs, rfl, hz1, e1⟩ := shD_l2 e1
  obtain rfl : z1 = 6 := hz1
  obtain ⟨z2, ns, rfl, hz2, e2⟩ := shD_l2 e2
  obtain rfl : z2 = 1 := hz2
  simp only [okL_cons, okL_nil, okD_s, okD_l, okD_i, okD_b, and_true, true_and] at h2
  obtain ⟨⟨kf, kf'⟩, ⟨kn, kn'⟩⟩ := h2
  refine fnOK_awp (A := ⟨tab, S, .x⟩) tab_ok hS mixed func5 rfl rfl rfl rfl (by show 1 ≤ 69; decide) rfl ?_
  refine seqK fun K hK => ?_
  simp only [bW, ↓splitB_true, ↓splitB_false, nilCmp, opConv, eq_self, if_true, if_false, Nat.reduceEqDiff, reduceCtorEq, ↓reduceIte, Nat.reduceLT, Nat.reduceAdd, Nat.reduceMul, Nat.reduceSub, Nat.reduceLeDiff, Nat.reduceBEq, Int.reduceEq, Int.reduceNeg, tk, ntmps5, results5, s15, s17, s24, s25, s20, s21, s26, keyOf]
  refine hK _ ?_; clear hK K
  refine seqK fun K hK => ?_
  simp only [bW, ↓splitB_true, ↓splitB_false, nilCmp, opConv, eq_self, if_true, if_false, Nat.reduceEqDiff, reduceCtorEq, ↓reduceIte, Nat.reduceLT, Nat.reduceAdd, Nat.reduceMul, Nat.reduceSub, Nat.reduceLeDiff, Nat.reduceBEq, Int.reduceEq, Int.reduceNeg, tk, ntmps5, results5, s15, s17, s24, s25, s20, s21, s26, keyOf]
  refine hK _ ?_; clear hK K
  refine seqK fun K hK => ?_
  simp only [bW, ↓splitB_true, ↓splitB_false, nilCmp, opConv, eq_self, if_true, if_false, Nat.reduceEqDiff, reduceCtorEq, ↓reduceIte, Nat.reduceLT, Nat.reduceAdd, Nat.reduceMul, Nat.reduceSub, Nat.reduceLeDiff, Nat.reduceBEq, Int.reduceEq, Int.reduceNeg, tk, ntmps5, results5, s15, s17, s24, s25, s20, s21, s26, keyOf]
  refine OkO_szG hsh hok (by omega) (by omega) ?_
  simp only [bW, ↓splitB_true, ↓splitB_false, nilCmp, opConv, eq_self, if_true, if_false, Nat.reduceEqDiff, reduceCtorEq, ↓reduceIte, Nat.reduceLT, Nat.reduceAdd, Nat.reduceMul, Nat.reduceSub, Nat.reduceLeDiff, Nat.reduceBEq, Int.reduceEq, Int.reduceNeg, tk, ntmps5, results5, s15, s17, s24, s25, s20, s21, s26, keyOf]
  refine hK _ ?_; clear hK K
  refine seqK fun K hK => ?_
  simp only [bW, ↓splitB_true, ↓splitB_false, nilCmp, opConv, eq_self, if_true, if_false, Nat.reduceEqDiff, reduceCtorEq, ↓reduceIte, Nat.reduceLT, Nat.reduceAdd, Nat.reduceMul, Nat.reduceSub, Nat.reduceLeDiff, Nat.reduceBEq, Int.reduceEq, Int.reduceNeg, tk, ntmps5, results5, s15, s17, s24, s25, s20, s21, s26, keyOf]
  refine splitB_intro (fun hb => ?_) (fun hb => hK _ ?_) <;> clear hK K
  · trivial
  have hb := of_decide_eq_false hb
  have hw : wtL [.l 6 fs, .l 1 ns] ≤ 1048576 := by unfold less at hb; split at hb <;> omega
  have hw2 := hw
  simp only [wtL, wt] at hw2
  clear hb
  have w1 : fs.length ≤ 1048576 := by omega
  have w2 : wtLL fs ≤ 1048576 := by omega
  have w3 : ns.length ≤ 1048576 := by omega
  have hlf := lvLL_le lfun fs e1 (by decide) (by decide)
  have hln := lvLL_le [.i] ns e2 (by decide) (by decide)
  have hwn : wtLL ns = 0 := wt0 e2 (by decide)
  obtain ⟨gs, hs, hgen, g1, g2, g3, g4, g5, g6, g7, g8⟩ := ansI_facts (ns := ns) e1 kf' w1 e2 w3 (by omega)
  have ex := eqL_refl limg _ hsh
  have gsh : shL limg [.l 6 gs, .l 1 hs] = true := by
    simp only [limg, shL, shD, Bool.and_eq_true, and_true]
    exact ⟨⟨rfl, g1⟩, ⟨rfl, g2⟩⟩
  have gok : okL [.l 6 gs, .l 1 hs] = true := by
    simp only [okL_cons, okL_nil, okD_l, and_true]
    exact ⟨⟨by omega, g3⟩, ⟨by omega, g4⟩⟩
  have er := eqL_refl limg _ gsh
  have hkf := markLL_k fs 1
  have hkn := markLL_k ns (markLL fs 1).2
  have hkg := markLL_k gs 1
  have hkh := markLL_k hs (markLL gs 1).2
  have m1 := shLL_mark lfun gs 1 g1
  have m2 := lnLL_mark gs 1 (okLL_ln _ g3)
  have m3 := markLL_len gs 1
  have m4 := lvLL_mark gs 1
  have n1 := shLL_mark [.i] hs (markLL gs 1).2 g2
  have n2 := lnLL_mark hs (markLL gs 1).2 (okLL_ln _ g4)
  have n3 := markLL_len hs (markLL gs 1).2
  have n4 := lvLL_mark hs (markLL gs 1).2
  have m5 : heldL [.l 6 (markLL gs 1).1, .l 1 (markLL hs (markLL gs 1).2).1] 1 = (markLL hs (markLL gs 1).2).2 := by
    have := held_markL [.l 6 gs, .l 1 hs] 1 (by omega)
    simpa only [markL, markC] using this
  refine seqK fun K hK => ?_
  simp only [bW, ↓splitB_true, ↓splitB_false, nilCmp, opConv, eq_self, if_true, if_false, Nat.reduceEqDiff, reduceCtorEq, ↓reduceIte, Nat.reduceLT, Nat.reduceAdd, Nat.reduceMul, Nat.reduceSub, Nat.reduceLeDiff, Nat.reduceBEq, Int.reduceEq, Int.reduceNeg, tk, ntmps5, results5, s15, s17, s24, s25, s20, s21, s26, keyOf]
  refine OkO_toG hsh hok hw ?_
  simp only [bW, ↓splitB_true, ↓splitB_false, nilCmp, opConv, eq_self, if_true, if_false, Nat.reduceEqDiff, reduceCtorEq, ↓reduceIte, Nat.reduceLT, Nat.reduceAdd, Nat.reduceMul, Nat.reduceSub, Nat.reduceLeDiff, Nat.reduceBEq, Int.reduceEq, Int.reduceNeg, tk, ntmps5, results5, s15, s17, s24, s25, s20, s21, s26, keyOf]
  refine OkO_F24 e1 kf' w1 w2 e2 kn' w3 hw ?_
  rw [hgen]
  simp only [bW, ↓splitB_true, ↓splitB_false, nilCmp, opConv, eq_self, if_true, if_false, Nat.reduceEqDiff, reduceCtorEq, ↓reduceIte, Nat.reduceLT, Nat.reduceAdd, Nat.reduceMul, Nat.reduceSub, Nat.reduceLeDiff, Nat.reduceBEq, Int.reduceEq, Int.reduceNeg, tk, ntmps5, results5, s15, s17, s24, s25, s20, s21, s26, keyOf]
  refine hK _ ?_; clear hK K
  refine seqK fun K hK => ?_
  simp only [bW, ↓splitB_true, ↓splitB_false, nilCmp, opConv, eq_self, if_true, if_false, Nat.reduceEqDiff, reduceCtorEq, ↓reduceIte, Nat.reduceLT, Nat.reduceAdd, Nat.reduceMul, Nat.reduceSub, Nat.reduceLeDiff, Nat.reduceBEq, Int.reduceEq, Int.reduceNeg, tk, ntmps5, results5, s15, s17, s24, s25, s20, s21, s26, keyOf]
  refine OkO_toG hsh hok hw ?_
  simp only [bW, ↓splitB_true, ↓splitB_false, nilCmp, opConv, eq_self, if_true, if_false, Nat.reduceEqDiff, reduceCtorEq, ↓reduceIte, Nat.reduceLT, Nat.reduceAdd, Nat.reduceMul, Nat.reduceSub, Nat.reduceLeDiff, Nat.reduceBEq, Int.reduceEq, Int.reduceNeg, tk, ntmps5, results5, s15, s17, s24, s25, s20, s21, s26, keyOf]
  refine hK _ ?_; clear hK K
  refine seqK fun K hK => ?_
  simp only [bW, ↓splitB_true, ↓splitB_false, nilCmp, opConv, eq_self, if_true, if_false, Nat.reduceEqDiff, reduceCtorEq, ↓reduceIte, Nat.reduceLT, Nat.reduceAdd, Nat.reduceMul, Nat.reduceSub, Nat.reduceLeDiff, Nat.reduceBEq, Int.reduceEq, Int.reduceNeg, tk, ntmps5, results5, s15, s17, s24, s25, s20, s21, s26, keyOf]
  refine OkO_F24 e1 kf' w1 w2 e2 kn' w3 hw ?_
  rw [hgen]
  simp only [bW, ↓splitB_true, ↓splitB_false, nilCmp, opConv, eq_self, if_true, if_false, Nat.reduceEqDiff, reduceCtorEq, ↓reduceIte, Nat.reduceLT, Nat.reduceAdd, Nat.reduceMul, Nat.reduceSub, Nat.reduceLeDiff, Nat.reduceBEq, Int.reduceEq, Int.reduceNeg, tk, ntmps5, results5, s15, s17, s24, s25, s20, s21, s26, keyOf]
  refine hK _ ?_; clear hK K
  refine seqK fun K hK => ?_
  simp only [bW, ↓splitB_true, ↓splitB_false, nilCmp, opConv, eq_self, if_true, if_false, Nat.reduceEqDiff, reduceCtorEq, ↓reduceIte, Nat.reduceLT, Nat.reduceAdd, Nat.reduceMul, Nat.reduceSub, Nat.reduceLeDiff, Nat.reduceBEq, Int.reduceEq, Int.reduceNeg, tk, ntmps5, results5, s15, s17, s24, s25, s20, s21, s26, keyOf]
  refine OkO_eqG gsh gsh gok gok ?_
  rw [er]
  simp only [bW, ↓splitB_true, ↓splitB_false, nilCmp, opConv, eq_self, if_true, if_false, Nat.reduceEqDiff, reduceCtorEq, ↓reduceIte, Nat.reduceLT, Nat.reduceAdd, Nat.reduceMul, Nat.reduceSub, Nat.reduceLeDiff, Nat.reduceBEq, Int.reduceEq, Int.reduceNeg, tk, ntmps5, results5, s15, s17, s24, s25, s20, s21, s26, keyOf]
  refine hK _ ?_; clear hK K
  refine seqK fun K hK => ?_
  refine seqK fun K5 hK5 => ?_
  refine awp_any ?_
  apply viaState (K := K5)
  · intro hL
    refine ord_step 0 [1] (by decide +kernel) ⟨?_, ?_⟩
    · simp only [allAt, anyAt]
      simp only [bW, ↓splitB_true, ↓splitB_false, nilCmp, opConv, eq_self, if_true, if_false, Nat.reduceEqDiff, reduceCtorEq, ↓reduceIte, Nat.reduceLT, Nat.reduceAdd, Nat.reduceMul, Nat.reduceSub, Nat.reduceLeDiff, Nat.reduceBEq, Int.reduceEq, Int.reduceNeg, tk, ntmps5, results5, s15, s17, s24, s25, s20, s21, s26, keyOf]
      refine ord_step 1 [] (by decide +kernel) ?_
      simp only [allAt, anyAt]
      simp only [bW, ↓splitB_true, ↓splitB_false, nilCmp, opConv, eq_self, if_true, if_false, Nat.reduceEqDiff, reduceCtorEq, ↓reduceIte, Nat.reduceLT, Nat.reduceAdd, Nat.reduceMul, Nat.reduceSub, Nat.reduceLeDiff, Nat.reduceBEq, Int.reduceEq, Int.reduceNeg, tk, ntmps5, results5, s15, s17, s24, s25, s20, s21, s26, keyOf]
      refine ord_step 2 [] (by decide +kernel) ?_
      simp only [allAt, anyAt]
      simp only [bW, ↓splitB_true, ↓splitB_false, nilCmp, opConv, eq_self, if_true, if_false, Nat.reduceEqDiff, reduceCtorEq, ↓reduceIte, Nat.reduceLT, Nat.reduceAdd, Nat.reduceMul, Nat.reduceSub, Nat.reduceLeDiff, Nat.reduceBEq, Int.reduceEq, Int.reduceNeg, tk, ntmps5, results5, s15, s17, s24, s25, s20, s21, s26, keyOf]
      refine OkO_toG hsh hok hw ?_
      simp only [bW, ↓splitB_true, ↓splitB_false, nilCmp, opConv, eq_self, if_true, if_false, Nat.reduceEqDiff, reduceCtorEq, ↓reduceIte, Nat.reduceLT, Nat.reduceAdd, Nat.reduceMul, Nat.reduceSub, Nat.reduceLeDiff, Nat.reduceBEq, Int.reduceEq, Int.reduceNeg, tk, ntmps5, results5, s15, s17, s24, s25, s20, s21, s26, keyOf]
      refine ord_step 3 [] (by decide +kernel) ?_
      simp only [allAt, anyAt]
      simp only [bW, ↓splitB_true, ↓splitB_false, nilCmp, opConv, eq_self, if_true, if_false, Nat.reduceEqDiff, reduceCtorEq, ↓reduceIte, Nat.reduceLT, Nat.reduceAdd, Nat.reduceMul, Nat.reduceSub, Nat.reduceLeDiff, Nat.reduceBEq, Int.reduceEq, Int.reduceNeg, tk, ntmps5, results5, s15, s17, s24, s25, s20, s21, s26, keyOf]
      refine OkO_eqG hsh hsh hok hok ?_
      simp only [bW, ↓splitB_true, ↓splitB_false, nilCmp, opConv, eq_self, if_true, if_false, Nat.reduceEqDiff, reduceCtorEq, ↓reduceIte, Nat.reduceLT, Nat.reduceAdd, Nat.reduceMul, Nat.reduceSub, Nat.reduceLeDiff, Nat.reduceBEq, Int.reduceEq, Int.reduceNeg, tk, ntmps5, results5, s15, s17, s24, s25, s20, s21, s26, keyOf]
      refine ord_step 4 [] (by decide +kernel) ?_
      simp only [allAt, anyAt]
      simp only [bW, ↓splitB_true, ↓splitB_false, nilCmp, opConv, eq_self, if_true, if_false, Nat.reduceEqDiff, reduceCtorEq, ↓reduceIte, Nat.reduceLT, Nat.reduceAdd, Nat.reduceMul, Nat.reduceSub, Nat.reduceLeDiff, Nat.reduceBEq, Int.reduceEq, Int.reduceNeg, tk, ntmps5, results5, s15, s17, s24, s25, s20, s21, s26, keyOf]
      refine ord_end (by decide +kernel) ?_
      exact hL
    · simp only [allAt, anyAt]
      simp only [bW, ↓splitB_true, ↓splitB_false, nilCmp, opConv, eq_self, if_true, if_false, Nat.reduceEqDiff, reduceCtorEq, ↓reduceIte, Nat.reduceLT, Nat.reduceAdd, Nat.reduceMul, Nat.reduceSub, Nat.reduceLeDiff, Nat.reduceBEq, Int.reduceEq, Int.reduceNeg, tk, ntmps5, results5, s15, s17, s24, s25, s20, s21, s26, keyOf]
      refine ord_step 0 [2] (by decide +kernel) ⟨?_, ?_⟩
      · simp only [allAt, anyAt]
        simp only [bW, ↓splitB_true, ↓splitB_false, nilCmp, opConv, eq_self, if_true, if_false, Nat.reduceEqDiff, reduceCtorEq, ↓reduceIte, Nat.reduceLT, Nat.reduceAdd, Nat.reduceMul, Nat.reduceSub, Nat.reduceLeDiff, Nat.reduceBEq, Int.reduceEq, Int.reduceNeg, tk, ntmps5, results5, s15, s17, s24, s25, s20, s21, s26, keyOf]
        refine ord_step 2 [] (by decide +kernel) ?_
        simp only [allAt, anyAt]
        simp only [bW, ↓splitB_true, ↓splitB_false, nilCmp, opConv, eq_self, if_true, if_false, Nat.reduceEqDiff, reduceCtorEq, ↓reduceIte, Nat.reduceLT, Nat.reduceAdd, Nat.reduceMul, Nat.reduceSub, Nat.reduceLeDiff, Nat.reduceBEq, Int.reduceEq, Int.reduceNeg, tk, ntmps5, results5, s15, s17, s24, s25, s20, s21, s26, keyOf]
        refine OkO_toG hsh hok hw ?_
        simp only [bW, ↓splitB_true, ↓splitB_false, nilCmp, opConv, eq_self, if_true, if_false, Nat.reduceEqDiff, reduceCtorEq, ↓reduceIte, Nat.reduceLT, Nat.reduceAdd, Nat.reduceMul, Nat.reduceSub, Nat.reduceLeDiff, Nat.reduceBEq, Int.reduceEq, Int.reduceNeg, tk, ntmps5, results5, s15, s17, s24, s25, s20, s21, s26, keyOf]
        refine ord_step 3 [] (by decide +kernel) ?_
        simp only [allAt, anyAt]
        simp only [bW, ↓splitB_true, ↓splitB_false, nilCmp, opConv, eq_self, if_true, if_false, Nat.reduceEqDiff, reduceCtorEq, ↓reduceIte, Nat.reduceLT, Nat.reduceAdd, Nat.reduceMul, Nat.reduceSub, Nat.reduceLeDiff, Nat.reduceBEq, Int.reduceEq, Int.reduceNeg, tk, ntmps5, results5, s15, s17, s24, s25, s20, s21, s26, keyOf]
        refine OkO_eqG hsh hsh hok hok ?_
        simp only [bW, ↓splitB_true, ↓splitB_false, nilCmp, opConv, eq_self, if_true, if_false, Nat.reduceEqDiff, reduceCtorEq, ↓reduceIte, Nat.reduceLT, Nat.reduceAdd, Nat.reduceMul, Nat.reduceSub, Nat.reduceLeDiff, Nat.reduceBEq, Int.reduceEq, Int.reduceNeg, tk, ntmps5, results5, s15, s17, s24, s25, s20, s21, s26, keyOf]
        refine ord_step 4 [] (by decide +kernel) ?_
        simp only [allAt, anyAt]
        simp only [bW, ↓splitB_true, ↓splitB_false, nilCmp, opConv, eq_self, if_true, if_false, Nat.reduceEqDiff, reduceCtorEq, ↓reduceIte, Nat.reduceLT, Nat.reduceAdd, Nat.reduceMul, Nat.reduceSub, Nat.reduceLeDiff, Nat.reduceBEq, Int.reduceEq, Int.reduceNeg, tk, ntmps5, results5, s15, s17, s24, s25, s20, s21, s26, keyOf]
        refine ord_end (by decide +kernel) ?_
        refine (congrArg K5 (st_eq fun t => ?_)).mpr hL
        by_cases ht : t = 27
        · subst ht
          simp only [upd, Nat.reduceEqDiff, ↓reduceIte, if_true, if_false]
        · simp only [upd, if_neg ht]
      · simp only [allAt, anyAt]
        simp only [bW, ↓splitB_true, ↓splitB_false, nilCmp, opConv, eq_self, if_true, if_false, Nat.reduceEqDiff, reduceCtorEq, ↓reduceIte, Nat.reduceLT, Nat.reduceAdd, Nat.reduceMul, Nat.reduceSub, Nat.reduceLeDiff, Nat.reduceBEq, Int.reduceEq, Int.reduceNeg, tk, ntmps5, results5, s15, s17, s24, s25, s20, s21, s26, keyOf]
        refine OkO_toG hsh hok hw ?_
        simp only [bW, ↓splitB_true, ↓splitB_false, nilCmp, opConv, eq_self, if_true, if_false, Nat.reduceEqDiff, reduceCtorEq, ↓reduceIte, Nat.reduceLT, Nat.reduceAdd, Nat.reduceMul, Nat.reduceSub, Nat.reduceLeDiff, Nat.reduceBEq, Int.reduceEq, Int.reduceNeg, tk, ntmps5, results5, s15, s17, s24, s25, s20, s21, s26, keyOf]
        refine ord_step 0 [] (by decide +kernel) ?_
        simp only [allAt, anyAt]
        simp only [bW, ↓splitB_true, ↓splitB_false, nilCmp, opConv, eq_self, if_true, if_false, Nat.reduceEqDiff, reduceCtorEq, ↓reduceIte, Nat.reduceLT, Nat.reduceAdd, Nat.reduceMul, Nat.reduceSub, Nat.reduceLeDiff, Nat.reduceBEq, Int.reduceEq, Int.reduceNeg, tk, ntmps5, results5, s15, s17, s24, s25, s20, s21, s26, keyOf]
        refine ord_step 3 [] (by decide +kernel) ?_
        simp only [allAt, anyAt]
        simp only [bW, ↓splitB_true, ↓splitB_false, nilCmp, opConv, eq_self, if_true, if_false, Nat.reduceEqDiff, reduceCtorEq, ↓reduceIte, Nat.reduceLT, Nat.reduceAdd, Nat.reduceMul, Nat.reduceSub, Nat.reduceLeDiff, Nat.reduceBEq, Int.reduceEq, Int.reduceNeg, tk, ntmps5, results5, s15, s17, s24, s25, s20, s21, s26, keyOf]
        refine OkO_eqG hsh hsh hok hok ?_
        simp only [bW, ↓splitB_true, ↓splitB_false, nilCmp, opConv, eq_self, if_true, if_false, Nat.reduceEqDiff, reduceCtorEq, ↓reduceIte, Nat.reduceLT, Nat.reduceAdd, Nat.reduceMul, Nat.reduceSub, Nat.reduceLeDiff, Nat.reduceBEq, Int.reduceEq, Int.reduceNeg, tk, ntmps5, results5, s15, s17, s24, s25, s20, s21, s26, keyOf]
        refine ord_step 4 [] (by decide +kernel) ?_
        simp only [allAt, anyAt]
        simp only [bW, ↓splitB_true, ↓splitB_false, nilCmp, opConv, eq_self, if_true, if_false, Nat.reduceEqDiff, reduceCtorEq, ↓reduceIte, Nat.reduceLT, Nat.reduceAdd, Nat.reduceMul, Nat.reduceSub, Nat.reduceLeDiff, Nat.reduceBEq, Int.reduceEq, Int.reduceNeg, tk, ntmps5, results5, s15, s17, s24, s25, s20, s21, s26, keyOf]
        refine ord_end (by decide +kernel) ?_
        refine (congrArg K5 (st_eq fun t => ?_)).mpr hL
        by_cases ht : t = 27
        · subst ht
          simp only [upd, Nat.reduceEqDiff, ↓reduceIte, if_true, if_false]
        · simp only [upd, if_neg ht]
  refine hK5 _ ?_; clear hK5 K5
  rw [ex]
  simp only [bW, ↓splitB_true, ↓splitB_false, nilCmp, opConv, eq_self, if_true, if_false, Nat.reduceEqDiff, reduceCtorEq, ↓reduceIte, Nat.reduceLT, Nat.reduceAdd, Nat.reduceMul, Nat.reduceSub, Nat.reduceLeDiff, Nat.reduceBEq, Int.reduceEq, Int.reduceNeg, tk, ntmps5, results5, s15, s17, s24, s25, s20, s21, s26, keyOf]
  refine hK _ ?_; clear hK K
  refine seqK fun K hK => ?_
  simp only [bW, ↓splitB_true, ↓splitB_false, nilCmp, opConv, eq_self, if_true, if_false, Nat.reduceEqDiff, reduceCtorEq, ↓reduceIte, Nat.reduceLT, Nat.reduceAdd, Nat.reduceMul, Nat.reduceSub, Nat.reduceLeDiff, Nat.reduceBEq, Int.reduceEq, Int.reduceNeg, tk, ntmps5, results5, s15, s17, s24, s25, s20, s21, s26, keyOf]
  refine hK _ ?_; clear hK K
  refine seqK fun K hK => ?_
  simp only [bW, ↓splitB_true, ↓splitB_false, nilCmp, opConv, eq_self, if_true, if_false, Nat.reduceEqDiff, reduceCtorEq, ↓reduceIte, Nat.reduceLT, Nat.reduceAdd, Nat.reduceMul, Nat.reduceSub, Nat.reduceLeDiff, Nat.reduceBEq, Int.reduceEq, Int.reduceNeg, tk, ntmps5, results5, s15, s17, s24, s25, s20, s21, s26, keyOf]
  refine OkO_markG hsh hok (by omega) (by simp only [lvL, lv]; omega) ?_
  simp only [markS]
  simp only [bW, ↓splitB_true, ↓splitB_false, nilCmp, opConv, eq_self, if_true, if_false, Nat.reduceEqDiff, reduceCtorEq, ↓reduceIte, Nat.reduceLT, Nat.reduceAdd, Nat.reduceMul, Nat.reduceSub, Nat.reduceLeDiff, Nat.reduceBEq, Int.reduceEq, Int.reduceNeg, tk, ntmps5, results5, s15, s17, s24, s25, s20, s21, s26, keyOf]
  refine hK _ ?_; clear hK K
  refine seqK fun K hK => ?_
  simp only [bW, ↓splitB_true, ↓splitB_false, nilCmp, opConv, eq_self, if_true, if_false, Nat.reduceEqDiff, reduceCtorEq, ↓reduceIte, Nat.reduceLT, Nat.reduceAdd, Nat.reduceMul, Nat.reduceSub, Nat.reduceLeDiff, Nat.reduceBEq, Int.reduceEq, Int.reduceNeg, tk, ntmps5, results5, s15, s17, s24, s25, s20, s21, s26, keyOf]
  refine splitB_intro (fun hb => ?_) (fun hb => ?_)
  · have hb := of_decide_eq_true hb
    exact absurd hb (by omega)
  clear hb
  refine OkO_eqG gsh gsh gok gok ?_
  rw [er]
  simp only [bW, ↓splitB_true, ↓splitB_false, nilCmp, opConv, eq_self, if_true, if_false, Nat.reduceEqDiff, reduceCtorEq, ↓reduceIte, Nat.reduceLT, Nat.reduceAdd, Nat.reduceMul, Nat.reduceSub, Nat.reduceLeDiff, Nat.reduceBEq, Int.reduceEq, Int.reduceNeg, tk, ntmps5, results5, s15, s17, s24, s25, s20, s21, s26, keyOf]
  refine hK _ ?_; clear hK K
  refine seqK fun K hK => ?_
  simp only [bW, ↓splitB_true, ↓splitB_false, nilCmp, opConv, eq_self, if_true, if_false, Nat.reduceEqDiff, reduceCtorEq, ↓reduceIte, Nat.reduceLT, Nat.reduceAdd, Nat.reduceMul, Nat.reduceSub, Nat.reduceLeDiff, Nat.reduceBEq, Int.reduceEq, Int.reduceNeg, tk, ntmps5, results5, s15, s17, s24, s25, s20, s21, s26, keyOf]
  refine hK _ ?_; clear hK K
  refine seqK fun K hK => ?_
  simp only [bW, ↓splitB_true, ↓splitB_false, nilCmp, opConv, eq_self, if_true, if_false, Nat.reduceEqDiff, reduceCtorEq, ↓reduceIte, Nat.reduceLT, Nat.reduceAdd, Nat.reduceMul, Nat.reduceSub, Nat.reduceLeDiff, Nat.reduceBEq, Int.reduceEq, Int.reduceNeg, tk, ntmps5, results5, s15, s17, s24, s25, s20, s21, s26, keyOf]
  refine OkO_markG gsh gok (by omega) (by simp only [lvL, lv]; omega) ?_
  simp only [markS]
  simp only [bW, ↓splitB_true, ↓splitB_false, nilCmp, opConv, eq_self, if_true, if_false, Nat.reduceEqDiff, reduceCtorEq, ↓reduceIte, Nat.reduceLT, Nat.reduceAdd, Nat.reduceMul, Nat.reduceSub, Nat.reduceLeDiff, Nat.reduceBEq, Int.reduceEq, Int.reduceNeg, tk, ntmps5, results5, s15, s17, s24, s25, s20, s21, s26, keyOf]
  refine hK _ ?_; clear hK K
  refine seqK fun K hK => ?_
  simp only [bW, ↓splitB_true, ↓splitB_false, nilCmp, opConv, eq_self, if_true, if_false, Nat.reduceEqDiff, reduceCtorEq, ↓reduceIte, Nat.reduceLT, Nat.reduceAdd, Nat.reduceMul, Nat.reduceSub, Nat.reduceLeDiff, Nat.reduceBEq, Int.reduceEq, Int.reduceNeg, tk, ntmps5, results5, s15, s17, s24, s25, s20, s21, s26, keyOf]
  refine hK _ ?_; clear hK K
  refine seqK fun K hK => ?_
  simp only [bW, ↓splitB_true, ↓splitB_false, nilCmp, opConv, eq_self, if_true, if_false, Nat.reduceEqDiff, reduceCtorEq, ↓reduceIte, Nat.reduceLT, Nat.reduceAdd, Nat.reduceMul, Nat.reduceSub, Nat.reduceLeDiff, Nat.reduceBEq, Int.reduceEq, Int.reduceNeg, tk, ntmps5, results5, s15, s17, s24, s25, s20, s21, s26, keyOf]
  refine OkO_F26 m1 (by omega) m2 n1 (by omega) n2 (by omega) (by omega) ?_
  rw [m5]
  simp only [bW, ↓splitB_true, ↓splitB_false, nilCmp, opConv, eq_self, if_true, if_false, Nat.reduceEqDiff, reduceCtorEq, ↓reduceIte, Nat.reduceLT, Nat.reduceAdd, Nat.reduceMul, Nat.reduceSub, Nat.reduceLeDiff, Nat.reduceBEq, Int.reduceEq, Int.reduceNeg, tk, ntmps5, results5, s15, s17, s24, s25, s20, s21, s26, keyOf]
  refine hK _ ?_; clear hK K
  refine seqK fun K hK => ?_
  simp only [bW, ↓splitB_true, ↓splitB_false, nilCmp, opConv, eq_self, if_true, if_false, Nat.reduceEqDiff, reduceCtorEq, ↓reduceIte, Nat.reduceLT, Nat.reduceAdd, Nat.reduceMul, Nat.reduceSub, Nat.reduceLeDiff, Nat.reduceBEq, Int.reduceEq, Int.reduceNeg, tk, ntmps5, results5, s15, s17, s24, s25, s20, s21, s26, keyOf]
  refine splitB_intro (fun hb => ?_) (fun hb => hK _ ?_) <;> clear hK K
  · have hb := of_decide_eq_true hb
    exact absurd hb (by omega)
  clear hb
  refine seqK fun K hK => ?_
  simp only [bW, ↓splitB_true, ↓splitB_false, nilCmp, opConv, eq_self, if_true, if_false, Nat.reduceEqDiff, reduceCtorEq, ↓reduceIte, Nat.reduceLT, Nat.reduceAdd, Nat.reduceMul, Nat.reduceSub, Nat.reduceLeDiff, Nat.reduceBEq, Int.reduceEq, Int.reduceNeg, tk, ntmps5, results5, s15, s17, s24, s25, s20, s21, s26, keyOf]
  refine hK _ ?_; clear hK K
  refine seqK fun K hK => ?_
  simp only [bW, ↓splitB_true, ↓splitB_false, nilCmp, opConv, eq_self, if_true, if_false, Nat.reduceEqDiff, reduceCtorEq, ↓reduceIte, Nat.reduceLT, Nat.reduceAdd, Nat.reduceMul, Nat.reduceSub, Nat.reduceLeDiff, Nat.reduceBEq, Int.reduceEq, Int.reduceNeg, tk, ntmps5, results5, s15, s17, s24, s25, s20, s21, s26, keyOf]
  refine OkO_toG hsh hok hw ?_
  simp only [bW, ↓splitB_true, ↓splitB_false, nilCmp, opConv, eq_self, if_true, if_false, Nat.reduceEqDiff, reduceCtorEq, ↓reduceIte, Nat.reduceLT, Nat.reduceAdd, Nat.reduceMul, Nat.reduceSub, Nat.reduceLeDiff, Nat.reduceBEq, Int.reduceEq, Int.reduceNeg, tk, ntmps5, results5, s15, s17, s24, s25, s20, s21, s26, keyOf]
  refine OkO_F24 e1 kf' w1 w2 e2 kn' w3 hw ?_
  rw [hgen]
  simp only [bW, ↓splitB_true, ↓splitB_false, nilCmp, opConv, eq_self, if_true, if_false, Nat.reduceEqDiff, reduceCtorEq, ↓reduceIte, Nat.reduceLT, Nat.reduceAdd, Nat.reduceMul, Nat.reduceSub, Nat.reduceLeDiff, Nat.reduceBEq, Int.reduceEq, Int.reduceNeg, tk, ntmps5, results5, s15, s17, s24, s25, s20, s21, s26, keyOf]
  refine hK _ ?_; clear hK K
  refine seqK fun K hK => ?_
  simp only [bW, ↓splitB_true, ↓splitB_false, nilCmp, opConv, eq_self, if_true, if_false, Nat.reduceEqDiff, reduceCtorEq, ↓reduceIte, Nat.reduceLT, Nat.reduceAdd, Nat.reduceMul, Nat.reduceSub, Nat.reduceLeDiff, Nat.reduceBEq, Int.reduceEq, Int.reduceNeg, tk, ntmps5, results5, s15, s17, s24, s25, s20, s21, s26, keyOf]
  refine OkO_eqG gsh gsh gok gok ?_
  rw [er]
  simp only [bW, ↓splitB_true, ↓splitB_false, nilCmp, opConv, eq_self, if_true, if_false, Nat.reduceEqDiff, reduceCtorEq, ↓reduceIte, Nat.reduceLT, Nat.reduceAdd, Nat.reduceMul, Nat.reduceSub, Nat.reduceLeDiff, Nat.reduceBEq, Int.reduceEq, Int.reduceNeg, tk, ntmps5, results5, s15, s17, s24, s25, s20, s21, s26, keyOf]
  refine hK _ ?_; clear hK K
  refine seqK fun K hK => ?_
  simp only [bW, ↓splitB_true, ↓splitB_false, nilCmp, opConv, eq_self, if_true, if_false, Nat.reduceEqDiff, reduceCtorEq, ↓reduceIte, Nat.reduceLT, Nat.reduceAdd, Nat.reduceMul, Nat.reduceSub, Nat.reduceLeDiff, Nat.reduceBEq, Int.reduceEq, Int.reduceNeg, tk, ntmps5, results5, s15, s17, s24, s25, s20, s21, s26, keyOf]
  refine hK _ ?_; clear hK K
  refine seqK fun K hK => ?_
  simp only [bW, ↓splitB_true, ↓splitB_false, nilCmp, opConv, eq_self, if_true, if_false, Nat.reduceEqDiff, reduceCtorEq, ↓reduceIte, Nat.reduceLT, Nat.reduceAdd, Nat.reduceMul, Nat.reduceSub, Nat.reduceLeDiff, Nat.reduceBEq, Int.reduceEq, Int.reduceNeg, tk, ntmps5, results5, s15, s17, s24, s25, s20, s21, s26, keyOf]
  refine OkO_F26 m1 (by omega) m2 n1 (by omega) n2 (by omega) (by omega) ?_
  rw [m5]
  simp only [bW, ↓splitB_true, ↓splitB_false, nilCmp, opConv, eq_self, if_true, if_false, Nat.reduceEqDiff, reduceCtorEq, ↓reduceIte, Nat.reduceLT, Nat.reduceAdd, Nat.reduceMul, Nat.reduceSub, Nat.reduceLeDiff, Nat.reduceBEq, Int.reduceEq, Int.reduceNeg, tk, ntmps5, results5, s15, s17, s24, s25, s20, s21, s26, keyOf]
  refine hK _ ?_; clear hK K
  refine seqK fun K hK => ?_
  simp only [bW, ↓splitB_true, ↓splitB_false, nilCmp, opConv, eq_self, if_true, if_false, Nat.reduceEqDiff, reduceCtorEq, ↓reduceIte, Nat.reduceLT, Nat.reduceAdd, Nat.reduceMul, Nat.reduceSub, Nat.reduceLeDiff, Nat.reduceBEq, Int.reduceEq, Int.reduceNeg, tk, ntmps5, results5, s15, s17, s24, s25, s20, s21, s26, keyOf]
  refine splitB_intro (fun hb => ?_) (fun hb => hK _ ?_) <;> clear hK K
  · have hb := of_decide_eq_true hb
    exact absurd hb (by omega)
  clear hb
  refine seqK fun K hK => ?_
  simp only [bW, ↓splitB_true, ↓splitB_false, nilCmp, opConv, eq_self, if_true, if_false, Nat.reduceEqDiff, reduceCtorEq, ↓reduceIte, Nat.reduceLT, Nat.reduceAdd, Nat.reduceMul, Nat.reduceSub, Nat.reduceLeDiff, Nat.reduceBEq, Int.reduceEq, Int.reduceNeg, tk, ntmps5, results5, s15, s17, s24, s25, s20, s21, s26, keyOf]
  refine hK _ ?_; clear hK K
  simp only [bW, ↓splitB_true, ↓splitB_false, nilCmp, opConv, eq_self, if_true, if_false, Nat.reduceEqDiff, reduceCtorEq, ↓reduceIte, Nat.reduceLT, Nat.reduceAdd, Nat.reduceMul, Nat.reduceSub, Nat.reduceLeDiff, Nat.reduceBEq, Int.reduceEq, Int.reduceNeg, tk, ntmps5, results5, s15, s17, s24, s25, s20, s21, s26, keyOf]

end Go.Fs.Sr

set_option linter.unusedVariables false
namespace Go.Fs
open Go.RowKit

/-- The last step of a law's row: from the function's contract to its calls. -/
theorem calls_of_fnOK {P : Program} {f : FuncId} {args : List Value} {ins : List In} {out : Ret} (h : FnOK P f ins out) (hc : ∀ (a : Array Value) (w : World), (callFunc f a).run P w = .ok (.enter f a) w) {w : World} {Sd : List Nat} (ha : ArgsR w args ins Sd []) :
    Calls P f args.toArray w fun e w' => ∃ v, e = .returned v ∧ Post w args Sd [] out v w' := by
  rcases h w args Sd [] ha List.nodup_nil (by simp) with ⟨_, h2⟩ | ⟨v, w', h1, _⟩
  · refine h2.mono fun e w' he => ?_
    cases e with
    | returned v => exact ⟨v, rfl, he⟩
    | panicked c => exact he.elim
    | outgrown => exact he.elim
  · rw [hc] at h1; cases h1
theorem Post.below {w w' : World} {args : List Value} {Sd : List Nat} {out : Ret} {v : Value} (h : Post w args Sd [] out v w') : Below w.heap.size w w' :=
  ⟨h.rest.os, h.rest.tape, h.rest.output, h.rest.size, fun k hk => h.keep k hk (by simp)⟩
theorem Post.bool {w w' : World} {args : List Value} {Sd : List Nat} {b : Bool} {v : Value} (h : Post w args Sd [] { ret := .b b } v w') : v = .bool b := by
  obtain ⟨S, Si, h1, _⟩ := h.res
  exact h1.inv_b.1

/-- An argument that is a slice. -/
theorem arg_slice {H : Type} {enc : TypeId × Value → H} {P : Program} {w : World} {t : TypeId} {css : List Sh} (hs : HS P t [.l css]) {v : Value} (hv : ∃ a len cap, v = .slice a len cap) {d : DataW H} {p : List MemPlace} (h : DataW.Trod enc P w 0 (fun _ => true) true t v d p) (hw : (d.weights P t).all (· ≤ reachBytes) = true) :
    ∃ xs S, Tr w false v (.l css.length xs) S ∧ Flat v ∧ shLL css xs = true ∧ okLL xs = true ∧ xs.length ≤ 140737488355328 := by
  obtain ⟨a, len, cap, rfl⟩ := hv
  obtain ⟨n, hn⟩ := h
  obtain ⟨ds, S, h1, h2, h3, h4⟩ := trod_rd n hs _ _ hn hw
  obtain ⟨c, q, rfl, e1, e2⟩ := shL_cons h3
  obtain rfl := shL_nil e2
  obtain ⟨xs, rfl, e3⟩ := shD_l e1
  rw [okL_cons, okD_l] at h4
  have hc : (Value.slice a len cap).cells.toList = [.slice a len cap] := rfl
  rw [hc] at h1 h2
  cases h1 with
  | cons _ _ S1 _ _ S2 ht hts =>
    cases hts
    exact ⟨xs, S1, ht, fun u hu => h2 u (by simpa [Value.cells] using hu), e3, h4.1.2, h4.1.1⟩

theorem SumOK.none (P : Program) : SumOK P fun _ => Option.none := fun f s h => by cases h
theorem SumOK.own {P : Program} {S : Nat → Option Summ} (h : SumOK P S) {f : FuncId} {F : List D → Option D} (hf : ∀ ds r, F ds = some r → FnOK P f (ds.map .d) { ret := r }) : SumOK P (upd S f (some (.own F))) := by
  intro g s hg
  by_cases e : g = f
  · subst e
    rw [upd_same] at hg
    cases hg
    exact hf
  · rw [upd_ne _ _ e] at hg
    exact h g s hg
theorem SumOK.io {P : Program} {S : Nat → Option Summ} (h : SumOK P S) {f : FuncId} {F : D → List D → Option (D × D)} (hf : ∀ x ds r, F x ds = some r → FnOK P f (.io x :: ds.map .d) { ret := r.1, io := some r.2 }) : SumOK P (upd S f (some (.io F))) := by
  intro g s hg
  by_cases e : g = f
  · subst e
    rw [upd_same] at hg
    cases hg
    exact hf
  · rw [upd_ne _ _ e] at hg
    exact h g s hg

/-- An argument that is a struct. -/
theorem arg_struct {H : Type} {enc : TypeId × Value → H} {P : Program} {w : World} {t : TypeId} {css : List Sh} (hs : HS P t css) {v : Value} (hv : ∃ cs, v = .agg cs ∧ cs.size = P.cellsOf t) {d : DataW H} {p : List MemPlace} (h : DataW.Trod enc P w 0 (fun _ => true) true t v d p) (hw : (d.weights P t).all (· ≤ reachBytes) = true) :
    ∃ ds S, Tr w false v (.g ds) S ∧ Flat v ∧ shL css ds = true ∧ okL ds = true := by
  obtain ⟨cs, rfl, _⟩ := hv
  obtain ⟨n, hn⟩ := h
  obtain ⟨ds, S, h1, h2, h3, h4⟩ := trod_rd n hs _ _ hn hw
  exact ⟨ds, S, .g cs ds S h1, h2, h3, h4⟩
end Go.Fs

set_option linter.unusedVariables false
set_option maxRecDepth 20000
namespace Go.Fs.Sr
open Go.Proofs.Try
theorem TopI_sums : ∃ S : Nat → Option Summ, SumOK prog S ∧ S 15 = some (.own (szG limg)) ∧ S 17 = some (.own (toG limg)) ∧ S 24 = some (.own F24) ∧ S 25 = some (.own F24) ∧ S 20 = some (.own (eqG limg)) ∧ S 21 = some (.io (markG limg)) ∧ S 26 = some (.own F26) := by
  have s0 := SumOK.none prog
  have s1 := s0.own (f48_ok s0)
  have s2 := s1.own (f123_ok s1)
  have s3 := s2.own (f84_ok s2 rfl rfl)
  have s4 := s3.own (f47_ok s3 rfl)
  have s5 := s4.own (f15_ok s4 rfl rfl)
  have s6 := s5.own (f52_ok s5)
  have s7 := s6.own (f151_ok s6)
  have s8 := s7.own (f128_ok s7 rfl)
  have s9 := s8.own (f87_ok s8 rfl rfl)
  have s10 := s9.own (f51_ok s9 rfl)
  have s11 := s10.own (f17_ok s10 rfl rfl)
  have s12 := s11.own (f124_ok s11)
  have s13 := s12.own (f85_ok s12 rfl)
  have s14 := s13.own (f125_ok s13 rfl)
  have s15 := s14.own (f126_ok s14)
  have s16 := s15.own (f127_ok s15)
  have s17 := s16.own (f86_ok s16 rfl rfl rfl)
  have s18 := s17.own (f49_ok s17 rfl rfl)
  have s19 := s18.own (f50_ok s18)
  have s20 := s19.own (f16_ok s19 rfl rfl)
  have s21 := s20.own (f99_ok s20)
  have s22 := s21.own (f166_ok s21)
  have s23 := s22.own (f148_ok s22 rfl)
  have s24 := s23.own (f129_ok s23 rfl)
  have s25 := s24.own (f88_ok s24 rfl rfl)
  have s26 := s25.own (f117_ok s25 rfl)
  have s27 := s26.own (f152_ok s26 rfl)
  have s28 := s27.own (f59_ok s27 rfl)
  have s29 := s28.own (f94_ok s28 rfl)
  have s30 := s29.own (f133_ok s29 rfl rfl)
  have s31 := s30.own (f93_ok s30 rfl)
  have s32 := s31.own (f130_ok s31 rfl)
  have s33 := s32.own (f89_ok s32 rfl rfl rfl rfl)
  have s34 := s33.own (f132_ok s33 rfl)
  have s35 := s34.own (f92_ok s34 rfl rfl)
  have s36 := s35.own (f91_ok s35 rfl)
  have s37 := s36.own (f131_ok s36 rfl)
  have s38 := s37.own (f90_ok s37 rfl)
  have s39 := s38.own (f53_ok s38 rfl rfl rfl rfl)
  have s40 := s39.own (f95_ok s39)
  have s41 := s40.own (f54_ok s40 rfl rfl)
  have s42 := s41.own (f18_ok s41 rfl rfl)
  have s43 := s42.own (f19_ok s42)
  have s44 := s43.own (f153_ok s43)
  have s45 := s44.own (f134_ok s44 rfl)
  have s46 := s45.own (f96_ok s45 rfl rfl)
  have s47 := s46.own (f55_ok s46 rfl)
  have s48 := s47.own (f20_ok s47 rfl rfl)
  have s49 := s48.io (f22_ok s48)
  have s50 := s49.own (f44_ok s49)
  have s51 := s50.io (f97_ok s50)
  have s52 := s51.io (f56_ok s51 rfl rfl rfl)
  have s53 := s52.io (f21_ok s52 rfl rfl)
  have s54 := s53.own (f23_ok s53)
  have s55 := s54.own (f98_ok s54)
  have s56 := s55.own (f60_ok s55)
  have s57 := s56.own (f57_ok s56)
  have s58 := s57.own (f100_ok s57)
  have s59 := s58.own (f61_ok s58 rfl rfl rfl)
  have s60 := s59.own (f26_ok s59 rfl rfl)
  have s61 := s60.own (f58_ok s60 rfl rfl)
  have s62 := s61.own (f24_ok s61 rfl rfl rfl)
  have s63 := s62.own (f25_ok s62 rfl rfl rfl rfl rfl)
  exact ⟨_, s63, rfl, rfl, rfl, rfl, rfl, rfl, rfl⟩
theorem TopI_ok (ds : List D) (h1 : shL limg ds = true) (h2 : okL ds = true) : FnOK prog 5 [.d (.g ds)] { ret := .b true } := by
  obtain ⟨S, hS, e15, e17, e24, e25, e20, e21, e26⟩ := TopI_sums
  exact f5_ok hS e15 e17 e24 e25 e20 e21 e26 [.g ds] (.b true) (by simp only [lawG]; rw [if_pos ⟨h1, h2⟩])
end Go.Fs.Sr
