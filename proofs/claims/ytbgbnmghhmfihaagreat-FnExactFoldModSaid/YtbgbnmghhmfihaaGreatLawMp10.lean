/- A part of the proof: an evaluator of the program's code over plain data, proved sound, and walks of the program's functions by it. No conditions beyond those in the theorems. -/
import Derived.Test.YtbgbnmghhmfihaaGreatLawMp9
set_option linter.unusedVariables false
set_option linter.unusedSimpArgs false
set_option linter.constructorNameAsVariable false
set_option linter.unusedSectionVars false
set_option linter.defProp false
set_option linter.unusedVariables false
namespace Go.Fs

mutual
/-- No list in it is longer than memory could hold. -/
def lnD : D → Bool
  | .l _ xs => decide (xs.length ≤ maxD) && lnLL xs
  | _ => true
def lnL : List D → Bool
  | [] => true
  | d :: ds => lnD d && lnL ds
def lnLL : List (List D) → Bool
  | [] => true
  | x :: xs => lnL x && lnLL xs
end
theorem lnD_b (b : Bool) : (lnD (.b b) = true) = True := by simp [lnD]
theorem lnD_i (k : IntKind) (n : Int) : (lnD (.i k n) = true) = True := by simp [lnD]
theorem lnD_s (b : ByteArray) : (lnD (.s b) = true) = True := by simp [lnD]
theorem lnD_l (sz : Nat) (xs : List (List D)) : (lnD (.l sz xs) = true) = (xs.length ≤ 140737488355328 ∧ lnLL xs = true) := by
  apply propext
  show (decide (xs.length ≤ maxD) && lnLL xs) = true ↔ _
  rw [Bool.and_eq_true]
  exact and_congr_left fun _ => ⟨fun h => of_decide_eq_true h, fun h => decide_eq_true h⟩
theorem lnL_nil : (lnL [] = true) = True := by simp [lnL]
theorem lnL_cons (d : D) (ds : List D) : (lnL (d :: ds) = true) = (lnD d = true ∧ lnL ds = true) := by simp [lnL]
theorem lnLL_get : ∀ {xs : List (List D)} {i : Nat}, lnLL xs = true → i < xs.length → lnL (xs.getD i []) = true
  | [], i, _, h => by simp at h
  | x :: xs, 0, h, _ => by simp only [lnLL, Bool.and_eq_true] at h; exact h.1
  | x :: xs, i + 1, h, hi => by
    simp only [lnLL, Bool.and_eq_true] at h
    simpa using lnLL_get h.2 (i := i) (by simpa using hi)
mutual
theorem okD_ln : ∀ (d : D), okD d = true → lnD d = true
  | .l sz xs, h => by rw [okD_l] at h; rw [lnD_l]; exact ⟨h.1, okLL_ln xs h.2⟩
  | .b _, _ => rfl
  | .i _ _, _ => rfl
  | .s _, _ => rfl
  | .g _, _ => rfl
  | .f _ _, _ => rfl
  | .p _, _ => rfl
  | .n, _ => rfl
  | .t _, _ => rfl
  | .u, _ => rfl
theorem okL_ln : ∀ (ds : List D), okL ds = true → lnL ds = true
  | [], _ => rfl
  | d :: ds, h => by rw [okL_cons] at h; rw [lnL_cons]; exact ⟨okD_ln d h.1, okL_ln ds h.2⟩
theorem okLL_ln : ∀ (xs : List (List D)), okLL xs = true → lnLL xs = true
  | [], _ => rfl
  | x :: xs, h => by rw [okLL_cons] at h; simp only [lnLL, Bool.and_eq_true]; exact ⟨okL_ln x h.1, okLL_ln xs h.2⟩
end

/-! ### marks, element by element -/
def limK : Int := 2305843009213693952
/-- Whether the marks are held. -/
def heldP (cs : List Sh) : List D → Option D
  | [.l sz xs, .i .i64 k] => if sz = cs.length ∧ shLL cs xs = true ∧ xs.length ≤ 140737488355328 ∧ lnLL xs = true ∧ 0 ≤ k ∧ k + lvLL xs ≤ 2305843009213693952 then some (.i .i64 (heldLL xs k)) else none
  | _ => none
/-- Only the lists of a value are marked. -/
def heldS : List D → Int → Int
  | [], k => k
  | .l _ xs :: ds, k => if heldLL xs k < 0 then -1 else heldS ds (heldLL xs k)
  | _ :: ds, k => heldS ds k
def heldG (cs : List Sh) : List D → Option D
  | [.g ds, .i .i64 k] => if shL cs ds = true ∧ okL ds = true ∧ 0 ≤ k ∧ k + lvL ds ≤ 2305843009213693952 then some (.i .i64 (heldS ds k)) else none
  | _ => none
def markP (cs : List Sh) : D → List D → Option (D × D)
  | .l sz xs, [.i .i64 k] => if sz = cs.length ∧ shLL cs xs = true ∧ xs.length ≤ 140737488355328 ∧ lnLL xs = true ∧ 0 ≤ k ∧ k + lvLL xs ≤ 2305843009213693952 then some (.i .i64 (markLL xs k).2, .l sz (markLL xs k).1) else none
  | _, _ => none
def markS : List D → Int → List D × Int
  | [], k => ([], k)
  | .l sz xs :: ds, k => (.l sz (markLL xs k).1 :: (markS ds (markLL xs k).2).1, (markS ds (markLL xs k).2).2)
  | d :: ds, k => (d :: (markS ds k).1, (markS ds k).2)
def markG (cs : List Sh) : D → List D → Option (D × D)
  | .g ds, [.i .i64 k] => if shL cs ds = true ∧ okL ds = true ∧ 0 ≤ k ∧ k + lvL ds ≤ 2305843009213693952 then some (.i .i64 (markS ds k).2, .g (markS ds k).1) else none
  | _, _ => none
theorem heldP_inv {cs : List Sh} {ds : List D} {r : D} (h : heldP cs ds = some r) : ∃ xs k, ds = [.l cs.length xs, .i .i64 k] ∧ shLL cs xs = true ∧ xs.length ≤ 140737488355328 ∧ lnLL xs = true ∧ 0 ≤ k ∧ k + lvLL xs ≤ 2305843009213693952 ∧ r = .i .i64 (heldLL xs k) := by
  unfold heldP at h
  split at h
  · split at h
    · rename_i hc
      obtain ⟨rfl, h1, h2, h2', h3, h4⟩ := hc
      simp only [Option.some.injEq] at h
      exact ⟨_, _, rfl, h1, h2, h2', h3, h4, h.symm⟩
    · cases h
  · cases h
theorem markP_inv {cs : List Sh} {x : D} {ds : List D} {r : D × D} (h : markP cs x ds = some r) : ∃ xs k, x = .l cs.length xs ∧ ds = [.i .i64 k] ∧ shLL cs xs = true ∧ xs.length ≤ 140737488355328 ∧ lnLL xs = true ∧ 0 ≤ k ∧ k + lvLL xs ≤ 2305843009213693952 ∧ r = (.i .i64 (markLL xs k).2, .l cs.length (markLL xs k).1) := by
  unfold markP at h
  split at h
  · split at h
    · rename_i hc
      obtain ⟨rfl, h1, h2, h2', h3, h4⟩ := hc
      simp only [Option.some.injEq] at h
      exact ⟨_, _, rfl, rfl, h1, h2, h2', h3, h4, h.symm⟩
    · cases h
  · cases h
theorem OkO_heldP {cs : List Sh} {sz : Nat} {xs : List (List D)} {k : Int} {K : D → Prop} (hs : sz = cs.length) (h1 : shLL cs xs = true) (h2 : xs.length ≤ 140737488355328) (h2' : lnLL xs = true) (h3 : 0 ≤ k) (h4 : k + lvLL xs ≤ 2305843009213693952) (hk : K (.i .i64 (heldLL xs k))) : OkO (heldP cs [.l sz xs, .i .i64 k]) K := by
  simp only [heldP]; rw [if_pos ⟨hs, h1, h2, h2', h3, h4⟩]; exact hk
theorem OkO_markP {cs : List Sh} {sz : Nat} {xs : List (List D)} {k : Int} {K : D × D → Prop} (hs : sz = cs.length) (h1 : shLL cs xs = true) (h2 : xs.length ≤ 140737488355328) (h2' : lnLL xs = true) (h3 : 0 ≤ k) (h4 : k + lvLL xs ≤ 2305843009213693952) (hk : K (.i .i64 (markLL xs k).2, .l sz (markLL xs k).1)) : OkO (markP cs (.l sz xs) [.i .i64 k]) K := by
  simp only [markP]; rw [if_pos ⟨hs, h1, h2, h2', h3, h4⟩]; exact hk
def negOr (a b : Int) : Int := if a < 0 then -1 else b
theorem negOr_pos {a b : Int} (h : 0 ≤ a) : negOr a b = b := if_neg (by omega)
theorem negOr_neg (b : Int) : negOr (-1) b = -1 := rfl
theorem heldL_nil (k : Int) : heldL [] k = k := by simp only [heldL]
theorem heldLL_step : ∀ {xs : List (List D)} {i : Nat} {k : Int}, i < xs.length → heldLL (xs.drop i) k = negOr (heldL (xs.getD i []) k) (heldLL (xs.drop (i + 1)) (heldL (xs.getD i []) k))
  | [], i, k, h => by simp at h
  | x :: xs, 0, k, _ => by simp [heldLL, negOr]
  | x :: xs, i + 1, k, h => by simpa using heldLL_step (xs := xs) (i := i) (k := k) (by simpa using h)
theorem lvLL_step : ∀ {xs : List (List D)} {i : Nat}, i < xs.length → lvLL (xs.drop i) = lvL (xs.getD i []) + lvLL (xs.drop (i + 1))
  | [], i, h => by simp at h
  | x :: xs, 0, _ => by simp [lvLL]
  | x :: xs, i + 1, h => by simpa using lvLL_step (xs := xs) (i := i) (by simpa using h)
theorem markLL_len : ∀ (xs : List (List D)) (k : Int), (markLL xs k).1.length = xs.length
  | [], k => rfl
  | x :: xs, k => by simp [markLL, markLL_len xs]
theorem markLL_app : ∀ (xs ys : List (List D)) (k : Int), markLL (xs ++ ys) k = ((markLL xs k).1 ++ (markLL ys (markLL xs k).2).1, (markLL ys (markLL xs k).2).2)
  | [], ys, k => by simp [markLL]
  | x :: xs, ys, k => by simp [markLL, markLL_app xs ys]
theorem take_succ {xs : List (List D)} {i : Nat} (h : i < xs.length) : xs.take (i + 1) = xs.take i ++ [xs.getD i []] := by
  rw [List.take_add_one]
  simp [List.getElem?_eq_getElem h]
/-- The list while it is being marked. -/
def half (xs : List (List D)) (k : Int) (i : Nat) : List (List D) := (markLL (xs.take i) k).1 ++ xs.drop i
theorem half_len {xs : List (List D)} {k : Int} {i : Nat} (h : i ≤ xs.length) : (half xs k i).length = xs.length := by
  simp only [half, List.length_append, markLL_len, List.length_take, List.length_drop]; omega
theorem half_get {xs : List (List D)} {k : Int} {i : Nat} (h : i < xs.length) : (half xs k i).getD i [] = xs.getD i [] := by
  have h1 : (markLL (xs.take i) k).1.length = i := by rw [markLL_len, List.length_take]; omega
  simp only [half, List.getD_eq_getElem?_getD]
  rw [List.getElem?_append_right (by omega), h1, Nat.sub_self, List.getElem?_drop, Nat.add_zero]
theorem half_set {xs : List (List D)} {k : Int} {i : Nat} (h : i < xs.length) : (half xs k i).set i (markL (xs.getD i []) (markLL (xs.take i) k).2).1 = half xs k (i + 1) := by
  have h1 : (markLL (xs.take i) k).1.length = i := by rw [markLL_len, List.length_take]; omega
  simp only [half]
  rw [List.set_append_right _ _ (by omega), h1, Nat.sub_self, take_succ h, markLL_app]
  simp only [markLL, List.append_assoc, List.cons_append, List.nil_append]
  congr 1
  rw [List.drop_eq_getElem_cons h]
  rfl
theorem half_k {xs : List (List D)} {k : Int} {i : Nat} (h : i < xs.length) : (markLL (xs.take (i + 1)) k).2 = (markL (xs.getD i []) (markLL (xs.take i) k).2).2 := by
  rw [take_succ h, markLL_app]
  simp [markLL]
theorem half_zero (xs : List (List D)) (k : Int) : half xs k 0 = xs := by simp [half, markLL]
theorem half_all (xs : List (List D)) (k : Int) : half xs k xs.length = (markLL xs k).1 := by simp [half]
theorem half_lv {xs : List (List D)} {k : Int} {i : Nat} (h : i ≤ xs.length) : (markLL (xs.take i) k).2 + lvLL (xs.drop i) = k + lvLL xs := by
  have h1 := markLL_k (xs.take i) k
  have h2 : ∀ (ys zs : List (List D)), lvLL (ys ++ zs) = lvLL ys + lvLL zs := by
    intro ys zs
    induction ys with
    | nil => simp [lvLL]
    | cons y ys ih => simp [lvLL, ih]; omega
  have h3 := h2 (xs.take i) (xs.drop i)
  rw [List.take_append_drop] at h3
  omega
theorem set_set2 (L : List (List D)) (i : Nat) (x y : List D) : (L.set i x).set i y = L.set i y := List.set_set ..
theorem getD_set2 {L : List (List D)} {i : Nat} (h : i < L.length) (x : List D) : (L.set i x).getD i [] = x := by simp [h]
theorem len_set2 (L : List (List D)) (i : Nat) (x : List D) : (L.set i x).length = L.length := List.length_set

mutual
theorem lnD_mark : ∀ (d : D) (k : Int), lnD d = true → lnD (markC d k).1 = true
  | .l sz xs, k, h => by
    rw [lnD_l] at h
    simp only [markC]
    rw [lnD_l]
    exact ⟨by rw [markLL_len]; exact h.1, lnLL_mark xs k h.2⟩
  | .b _, _, _ => rfl
  | .i _ _, _, _ => rfl
  | .s _, _, _ => rfl
  | .g _, _, _ => rfl
  | .f _ _, _, _ => rfl
  | .p _, _, _ => rfl
  | .n, _, _ => rfl
  | .t _, _, _ => rfl
  | .u, _, _ => rfl
theorem lnL_mark : ∀ (ds : List D) (k : Int), lnL ds = true → lnL (markL ds k).1 = true
  | [], _, _ => rfl
  | d :: ds, k, h => by
    rw [lnL_cons] at h
    simp only [markL]
    rw [lnL_cons]
    exact ⟨lnD_mark d k h.1, lnL_mark ds _ h.2⟩
theorem lnLL_mark : ∀ (xs : List (List D)) (k : Int), lnLL xs = true → lnLL (markLL xs k).1 = true
  | [], _, _ => rfl
  | x :: xs, k, h => by
    simp only [lnLL, Bool.and_eq_true] at h
    simp only [markLL, lnLL, Bool.and_eq_true]
    exact ⟨lnL_mark x k h.1, lnLL_mark xs _ h.2⟩
end
mutual
theorem lv_mark : ∀ (d : D) (k : Int), lv (markC d k).1 = lv d
  | .l sz xs, k => by simp only [markC, lv]; exact lvLL_mark xs k
  | .b _, _ => rfl
  | .i _ _, _ => rfl
  | .s _, _ => rfl
  | .g _, _ => rfl
  | .f _ _, _ => rfl
  | .p _, _ => rfl
  | .n, _ => rfl
  | .t _, _ => rfl
  | .u, _ => rfl
theorem lvL_mark : ∀ (ds : List D) (k : Int), lvL (markL ds k).1 = lvL ds
  | [], _ => rfl
  | d :: ds, k => by simp only [markL, lvL]; rw [lv_mark d k, lvL_mark ds]
theorem lvLL_mark : ∀ (xs : List (List D)) (k : Int), lvLL (markLL xs k).1 = lvLL xs
  | [], _ => rfl
  | x :: xs, k => by simp only [markLL, lvLL]; rw [lvL_mark x k, lvLL_mark xs]
end

theorem heldL_s1 {t : ByteArray} {ds : List D} {k : Int} (h : t = mtext k) (hk : 0 ≤ k) : heldL (.s t :: ds) k = heldL ds (k + 1) := by
  simp only [heldL, heldC, if_pos h]; rw [if_neg (by omega)]
theorem heldL_s0 {t : ByteArray} {ds : List D} {k : Int} (h : t ≠ mtext k) : heldL (.s t :: ds) k = -1 := by
  simp only [heldL, heldC, if_neg h]; rfl
theorem heldL_i1 {q : IntKind} {n : Int} {ds : List D} {k : Int} (h : n = k) (hk : 0 ≤ k) : heldL (.i q n :: ds) k = heldL ds (k + 1) := by
  simp only [heldL, heldC, if_pos h]; rw [if_neg (by omega)]
theorem heldL_i0 {q : IntKind} {n : Int} {ds : List D} {k : Int} (h : n ≠ k) : heldL (.i q n :: ds) k = -1 := by
  simp only [heldL, heldC, if_neg h]; rfl
theorem heldL_l1 {sz : Nat} {xs : List (List D)} {ds : List D} {k : Int} (h : ¬ heldLL xs k < 0) : heldL (.l sz xs :: ds) k = heldL ds (heldLL xs k) := by
  have e : heldC (.l sz xs) k = heldLL xs k := by simp only [heldC]
  rw [heldL, e, if_neg h]
theorem heldL_l0 {sz : Nat} {xs : List (List D)} {ds : List D} {k : Int} (h : heldLL xs k < 0) : heldL (.l sz xs :: ds) k = -1 := by
  have e : heldC (.l sz xs) k = heldLL xs k := by simp only [heldC]
  rw [heldL, e, if_pos h]
mutual
theorem heldC_k : ∀ (d : D) (k : Int), 0 ≤ heldC d k → heldC d k = k + lv d
  | .i _ n, k, h => by
    simp only [heldC, lv] at h ⊢
    split at h
    · rename_i e; rw [if_pos e]; rfl
    · omega
  | .s t, k, h => by
    simp only [heldC, lv] at h ⊢
    split at h
    · rename_i e; rw [if_pos e]; rfl
    · omega
  | .b v, k, h => by
    simp only [heldC, lv] at h ⊢
    split at h
    · rename_i e; rw [if_pos e]; rfl
    · omega
  | .l sz xs, k, h => by simp only [heldC, lv] at h ⊢; exact heldLL_k xs k h
  | .g cs, k, _ => by simp [heldC, lv]
  | .f fn caps, k, _ => by simp [heldC, lv]
  | .p cs, k, _ => by simp [heldC, lv]
  | .n, k, _ => by simp [heldC, lv]
  | .t vs, k, _ => by simp [heldC, lv]
  | .u, k, _ => by simp [heldC, lv]
theorem heldL_k : ∀ (ds : List D) (k : Int), 0 ≤ heldL ds k → heldL ds k = k + lvL ds
  | [], k, _ => by simp [heldL, lvL]
  | d :: ds, k, h => by
    simp only [heldL, lvL] at h ⊢
    split at h
    · omega
    · rename_i e
      rw [if_neg e]
      have h1 := heldC_k d k (by omega)
      have h2 := heldL_k ds _ h
      omega
theorem heldLL_k : ∀ (xs : List (List D)) (k : Int), 0 ≤ heldLL xs k → heldLL xs k = k + lvLL xs
  | [], k, _ => by simp [heldLL, lvLL]
  | x :: xs, k, h => by
    simp only [heldLL, lvLL] at h ⊢
    split at h
    · omega
    · rename_i e
      rw [if_neg e]
      have h1 := heldL_k x k (by omega)
      have h2 := heldLL_k xs _ h
      omega
end

/-- Shapes without texts and lists. -/
def shZ : List Sh → Bool
  | [] => true
  | .i :: cs => shZ cs
  | .b :: cs => shZ cs
  | _ => false
theorem wtL0 : ∀ {cs : List Sh} {ds : List D}, shL cs ds = true → shZ cs = true → wtL ds = 0
  | [], ds, h, _ => by obtain rfl := shL_nil h; rfl
  | .i :: cs, ds, h, hz => by
    obtain ⟨d, q, rfl, e1, e2⟩ := shL_cons h
    obtain ⟨n, rfl⟩ := shD_i e1
    have := wtL0 e2 (by simpa [shZ] using hz)
    simp [wtL, wt, this]
  | .b :: cs, ds, h, hz => by
    obtain ⟨d, q, rfl, e1, e2⟩ := shL_cons h
    obtain ⟨n, rfl⟩ := shD_b e1
    have := wtL0 e2 (by simpa [shZ] using hz)
    simp [wtL, wt, this]
  | .s :: _, _, _, hz => by simp [shZ] at hz
  | .t :: _, _, _, hz => by simp [shZ] at hz
  | .l _ :: _, _, _, hz => by simp [shZ] at hz
theorem wt0 {cs : List Sh} : ∀ {xs : List (List D)}, shLL cs xs = true → shZ cs = true → wtLL xs = 0
  | [], _, _ => rfl
  | x :: xs, h, hz => by
    simp only [shLL, Bool.and_eq_true] at h
    simp only [wtLL, wtL0 h.1 hz, wt0 h.2 hz]
theorem wt_i (k : IntKind) (n : Int) : wt (.i k n) = 0 := by simp [wt]
theorem wt_b (b : Bool) : wt (.b b) = 0 := by simp [wt]
theorem markG_inv {cs : List Sh} {x : D} {ds : List D} {r : D × D} (h : markG cs x ds = some r) : ∃ xs k, x = .g xs ∧ ds = [.i .i64 k] ∧ shL cs xs = true ∧ okL xs = true ∧ 0 ≤ k ∧ k + lvL xs ≤ 2305843009213693952 ∧ r = (.i .i64 (markS xs k).2, .g (markS xs k).1) := by
  unfold markG at h
  split at h
  · split at h
    · rename_i hc
      obtain ⟨h1, h2, h3, h4⟩ := hc
      simp only [Option.some.injEq] at h
      exact ⟨_, _, rfl, rfl, h1, h2, h3, h4, h.symm⟩
    · cases h
  · cases h
theorem OkO_markG {cs : List Sh} {xs : List D} {k : Int} {K : D × D → Prop} (h1 : shL cs xs = true) (h2 : okL xs = true) (h3 : 0 ≤ k) (h4 : k + lvL xs ≤ 2305843009213693952) (hk : K (.i .i64 (markS xs k).2, .g (markS xs k).1)) : OkO (markG cs (.g xs) [.i .i64 k]) K := by
  simp only [markG]; rw [if_pos ⟨h1, h2, h3, h4⟩]; exact hk
end Go.Fs

set_option linter.unusedVariables false
namespace Go.Fs

/-! ### of each name the last record -/
def nameOf : List D → ByteArray
  | .s t :: _ => t
  | _ => .empty
def keepS : List (List D) → List (List D)
  | [] => []
  | x :: xs => if xs.all (fun y => !decide (nameOf y = nameOf x)) = true then x :: keepS xs else keepS xs
theorem drop_get {xs : List (List D)} {i : Nat} (h : i < xs.length) : xs.drop i = xs.getD i [] :: xs.drop (i + 1) := by
  rw [List.drop_eq_getElem_cons h]
  simp [List.getElem?_eq_getElem h]
theorem keepS_step {xs : List (List D)} {i : Nat} (h : i < xs.length) : keepS (xs.drop i) = if (xs.drop (i + 1)).all (fun y => !decide (nameOf y = nameOf (xs.getD i []))) = true then xs.getD i [] :: keepS (xs.drop (i + 1)) else keepS (xs.drop (i + 1)) := by
  rw [drop_get h, keepS]
theorem scal_s : ∀ {xs : List (List D)}, shLL [.s] xs = true → (xs.all fun x => x.all scal) = true
  | [], _ => rfl
  | x :: xs, h => by
    simp only [shLL, Bool.and_eq_true] at h
    obtain ⟨c, q, rfl, e, h2⟩ := shL_cons h.1
    obtain rfl := shL_nil h2
    obtain ⟨t, rfl⟩ := shD_s e
    simp only [List.all_cons, List.all_nil, scal, Bool.and_true, Bool.true_and]
    exact scal_s h.2
theorem scal_i : ∀ {xs : List (List D)}, shLL [.i] xs = true → (xs.all fun x => x.all scal) = true
  | [], _ => rfl
  | x :: xs, h => by
    simp only [shLL, Bool.and_eq_true] at h
    obtain ⟨c, q, rfl, e, h2⟩ := shL_cons h.1
    obtain rfl := shL_nil h2
    obtain ⟨t, rfl⟩ := shD_i e
    simp only [List.all_cons, List.all_nil, scal, Bool.and_true, Bool.true_and]
    exact scal_i h.2

def kvUp (xs : List (List D)) : Nat → List (ByteArray × D)
  | 0 => []
  | n + 1 => kvSet (kvUp xs n) (nameOf (xs.getD n [])) (.i .i64 n)
def lastI (xs : List (List D)) : Nat → ByteArray → Option Nat
  | 0, _ => none
  | n + 1, t => if t = nameOf (xs.getD n []) then some n else lastI xs n t
theorem kvGet_set : ∀ (kv : List (ByteArray × D)) (k k' : ByteArray) (d : D), kvGet (kvSet kv k d) k' = if k' = k then some d else kvGet kv k'
  | [], k, k', d => by simp [kvSet, kvGet]
  | x :: kv, k, k', d => by
    simp only [kvSet]
    by_cases h : k = x.1
    · rw [if_pos h]
      simp only [kvGet, ← h]
      by_cases h2 : k' = k <;> simp [h2]
    · rw [if_neg h]
      simp only [kvGet]
      by_cases h2 : k' = x.1
      · rw [if_pos h2, if_pos h2, if_neg (fun e : k' = k => h (e.symm.trans h2))]
      · rw [if_neg h2, if_neg h2, kvGet_set kv k k' d]
theorem kvUp_get (xs : List (List D)) : ∀ (n : Nat) (t : ByteArray), kvGet (kvUp xs n) t = (lastI xs n t).map fun j => .i .i64 j
  | 0, t => rfl
  | n + 1, t => by
    simp only [kvUp, lastI]
    rw [kvGet_set, kvUp_get xs n t]
    split <;> rfl
theorem lastI_lt (xs : List (List D)) : ∀ (n : Nat) (t : ByteArray) (j : Nat), lastI xs n t = some j → j < n
  | 0, _, _, h => by cases h
  | n + 1, t, j, h => by
    simp only [lastI] at h
    split at h
    · simp only [Option.some.injEq] at h; omega
    · have := lastI_lt xs n t j h; omega
theorem lastI_some (xs : List (List D)) : ∀ (n : Nat) (i : Nat), i < n → ∃ j, lastI xs n (nameOf (xs.getD i [])) = some j ∧ i ≤ j ∧ j < n ∧ (j = i ↔ ∀ m, i < m → m < n → nameOf (xs.getD m []) ≠ nameOf (xs.getD i []))
  | 0, i, h => by omega
  | n + 1, i, h => by
    simp only [lastI]
    by_cases he : nameOf (xs.getD i []) = nameOf (xs.getD n [])
    · rw [if_pos he]
      refine ⟨n, rfl, by omega, by omega, ?_, ?_⟩
      · intro e m h1 h2; omega
      · intro hm
        by_cases e : i = n
        · exact e.symm
        · exact absurd he.symm (hm n (by omega) (by omega))
    · rw [if_neg he]
      have hin : i ≠ n := fun e => he (by rw [e])
      obtain ⟨j, h1, h2, h3, h4⟩ := lastI_some xs n i (by omega)
      refine ⟨j, h1, h2, by omega, h4.trans ⟨fun hm m a b => ?_, fun hm m a b => hm m a (by omega)⟩⟩
      by_cases e : m = n
      · subst e; exact fun e2 => he e2.symm
      · exact hm m a (by omega)
theorem all_drop {xs : List (List D)} {p : List D → Bool} {i : Nat} : (xs.drop i).all p = true ↔ ∀ m, i ≤ m → m < xs.length → p (xs.getD m []) = true := by
  rw [List.all_eq_true]
  constructor
  · intro h m h1 h2
    refine h _ ?_
    have : xs.getD m [] = xs[m] := by simp [List.getElem?_eq_getElem h2]
    rw [this, List.mem_iff_getElem]
    exact ⟨m - i, by simp; omega, by simp; congr 1; omega⟩
  · intro h x hx
    obtain ⟨k, hk, rfl⟩ := List.mem_iff_getElem.1 hx
    simp only [List.length_drop] at hk
    have := h (i + k) (by omega) (by omega)
    have e : xs.getD (i + k) [] = xs[i + k] := by simp [List.getElem?_eq_getElem (show i + k < xs.length by omega)]
    rw [e] at this
    simpa using this
/-- The map's answer and the search's agree. -/
theorem last_iff {xs : List (List D)} {i : Nat} (h : i < xs.length) : ∃ j, kvGet (kvUp xs xs.length) (nameOf (xs.getD i [])) = some (.i .i64 (j : Nat)) ∧ j < xs.length ∧ ((j = i) ↔ (xs.drop (i + 1)).all (fun y => !decide (nameOf y = nameOf (xs.getD i []))) = true) := by
  obtain ⟨j, h1, h2, h3, h4⟩ := lastI_some xs xs.length i h
  refine ⟨j, by rw [kvUp_get, h1]; rfl, h3, h4.trans ?_⟩
  rw [all_drop]
  refine ⟨fun hm m a b => by simpa using hm m (by omega) b, fun hm m a b => by simpa using hm m (by omega) b⟩
def trimR (xs : List (List D)) : List (List D) := if 10000 < xs.length then [] else keepS xs
/-- The last records. -/
def trimP (cs : List Sh) : List D → Option D
  | [.l sz xs] => if sz = cs.length ∧ shLL cs xs = true ∧ okLL xs = true ∧ xs.length + wtLL xs ≤ 1048576 then some (.l sz (trimR xs)) else none
  | _ => none
theorem trimP_inv {cs : List Sh} {ds : List D} {r : D} (h : trimP cs ds = some r) : ∃ xs, ds = [.l cs.length xs] ∧ shLL cs xs = true ∧ okLL xs = true ∧ xs.length + wtLL xs ≤ 1048576 ∧ r = .l cs.length (trimR xs) := by
  unfold trimP at h
  split at h
  · split at h
    · rename_i hc
      obtain ⟨rfl, h1, h2, h3⟩ := hc
      simp only [Option.some.injEq] at h
      exact ⟨_, rfl, h1, h2, h3, h.symm⟩
    · cases h
  · cases h
theorem OkO_trimP {cs : List Sh} {sz : Nat} {xs : List (List D)} {K : D → Prop} (hs : sz = cs.length) (h1 : shLL cs xs = true) (h2 : okLL xs = true) (h3 : xs.length + wtLL xs ≤ 1048576) (hk : K (.l sz (trimR xs))) : OkO (trimP cs [.l sz xs]) K := by
  simp only [trimP]; rw [if_pos ⟨hs, h1, h2, h3⟩]; exact hk
def keepP (cs : List Sh) : List D → Option D
  | [.l sz xs] => if sz = cs.length ∧ shLL cs xs = true ∧ okLL xs = true ∧ xs.length + wtLL xs ≤ 1048576 then some (.l sz (keepS xs)) else none
  | _ => none
theorem keepP_inv {cs : List Sh} {ds : List D} {r : D} (h : keepP cs ds = some r) : ∃ xs, ds = [.l cs.length xs] ∧ shLL cs xs = true ∧ okLL xs = true ∧ xs.length + wtLL xs ≤ 1048576 ∧ r = .l cs.length (keepS xs) := by
  unfold keepP at h
  split at h
  · split at h
    · rename_i hc
      obtain ⟨rfl, h1, h2, h3⟩ := hc
      simp only [Option.some.injEq] at h
      exact ⟨_, rfl, h1, h2, h3, h.symm⟩
    · cases h
  · cases h
theorem OkO_keepP {cs : List Sh} {sz : Nat} {xs : List (List D)} {K : D → Prop} (hs : sz = cs.length) (h1 : shLL cs xs = true) (h2 : okLL xs = true) (h3 : xs.length + wtLL xs ≤ 1048576) (hk : K (.l sz (keepS xs))) : OkO (keepP cs [.l sz xs]) K := by
  simp only [keepP]; rw [if_pos ⟨hs, h1, h2, h3⟩]; exact hk
end Go.Fs

set_option linter.unusedVariables false
namespace Go.Fs

/-! ### marks are not many -/
mutual
def shW : Sh → Bool
  | .l cs => decide (cs.length ≤ 16) && shWL cs
  | _ => true
def shWL : List Sh → Bool
  | [] => true
  | c :: cs => shW c && shWL cs
end
mutual
theorem lv_le : ∀ (c : Sh) (d : D), shD c d = true → shW c = true → lv d ≤ 16 * wt d + 1
  | c, .b _, _, _ => by simp [lv]
  | c, .i _ _, _, _ => by simp [lv]
  | c, .s _, _, _ => by simp [lv]
  | .l cs, .l sz xs, h, hw => by
    simp only [shD, Bool.and_eq_true] at h
    simp only [shW, Bool.and_eq_true, decide_eq_true_eq] at hw
    have := lvLL_le cs xs h.2 hw.1 hw.2
    simp only [lv, wt]; omega
  | .t, .l sz xs, h, hw => by
    simp only [shD, Bool.and_eq_true] at h
    have := lvLL_le treeS xs h.2 (by decide) (by decide)
    simp only [lv, wt]; omega
  | .b, .l sz xs, h, _ => by simp [shD] at h
  | .i, .l sz xs, h, _ => by simp [shD] at h
  | .s, .l sz xs, h, _ => by simp [shD] at h
  | c, .g cs, _, _ => by simp [lv]
  | c, .f fn caps, _, _ => by simp [lv]
  | c, .p cs, _, _ => by simp [lv]
  | c, .n, _, _ => by simp [lv]
  | c, .t vs, _, _ => by simp [lv]
  | c, .u, _, _ => by simp [lv]
theorem lvL_le : ∀ (cs : List Sh) (ds : List D), shL cs ds = true → shWL cs = true → lvL ds ≤ 16 * wtL ds + cs.length
  | [], [], _, _ => by simp [lvL]
  | c :: cs, d :: ds, h, hw => by
    simp only [shL, Bool.and_eq_true] at h
    simp only [shWL, Bool.and_eq_true] at hw
    have h1 := lv_le c d h.1 hw.1
    have h2 := lvL_le cs ds h.2 hw.2
    simp only [lvL, wtL, List.length_cons]; omega
  | [], _ :: _, h, _ => by simp [shL] at h
  | _ :: _, [], h, _ => by simp [shL] at h
theorem lvLL_le : ∀ (cs : List Sh) (xs : List (List D)), shLL cs xs = true → cs.length ≤ 16 → shWL cs = true → lvLL xs ≤ 16 * (xs.length + wtLL xs)
  | cs, [], _, _, _ => by simp [lvLL]
  | cs, x :: xs, h, hl, hw => by
    simp only [shLL, Bool.and_eq_true] at h
    have h1 := lvL_le cs x h.1 hw
    have h2 := lvLL_le cs xs h.2 hl hw
    simp only [lvLL, wtLL, List.length_cons]; omega
end

/-! ### part of a list -/
theorem sh_sub {cs : List Sh} : ∀ {ys xs : List (List D)}, ys.Sublist xs → shLL cs xs = true → shLL cs ys = true
  | _, _, .slnil, _ => rfl
  | _, _, .cons x h, hx => by simp only [shLL, Bool.and_eq_true] at hx; exact sh_sub h hx.2
  | _, _, .cons_cons x h, hx => by simp only [shLL, Bool.and_eq_true] at hx ⊢; exact ⟨hx.1, sh_sub h hx.2⟩
theorem ok_sub : ∀ {ys xs : List (List D)}, ys.Sublist xs → okLL xs = true → okLL ys = true
  | _, _, .slnil, _ => rfl
  | _, _, .cons x h, hx => by simp only [okLL, Bool.and_eq_true] at hx; exact ok_sub h hx.2
  | _, _, .cons_cons x h, hx => by simp only [okLL, Bool.and_eq_true] at hx ⊢; exact ⟨hx.1, ok_sub h hx.2⟩
theorem wt_sub : ∀ {ys xs : List (List D)}, ys.Sublist xs → wtLL ys ≤ wtLL xs
  | _, _, .slnil => Nat.le_refl _
  | _, _, .cons x h => by have := wt_sub h; simp only [wtLL]; omega
  | _, _, .cons_cons x h => by have := wt_sub h; simp only [wtLL]; omega
theorem keepS_sub : ∀ (xs : List (List D)), (keepS xs).Sublist xs
  | [] => .slnil
  | x :: xs => by
    simp only [keepS]
    split
    · exact (keepS_sub xs).cons_cons x
    · exact (keepS_sub xs).cons x
theorem trimR_sub (xs : List (List D)) : (trimR xs).Sublist xs := by
  unfold trimR
  split
  · exact List.nil_sublist xs
  · exact keepS_sub xs

/-- What a law function gives. -/
def lawP (cs : List Sh) : List D → Option D
  | [.l sz xs] => if sz = cs.length ∧ shLL cs xs = true ∧ okLL xs = true ∧ xs.length ≤ 140737488355328 then some (.b true) else none
  | _ => none
theorem lawP_inv {cs : List Sh} {ds : List D} {r : D} (h : lawP cs ds = some r) : ∃ xs, ds = [.l cs.length xs] ∧ shLL cs xs = true ∧ okLL xs = true ∧ xs.length ≤ 140737488355328 ∧ r = .b true := by
  unfold lawP at h
  split at h
  · split at h
    · rename_i hc
      obtain ⟨rfl, h1, h2, h3⟩ := hc
      simp only [Option.some.injEq] at h
      exact ⟨_, rfl, h1, h2, h3, h.symm⟩
    · cases h
  · cases h
end Go.Fs

set_option linter.unusedVariables false
namespace Go.Fs
/-! ### a region whose order is left open, order by order -/
theorem awp_any {A : Env} {id : Nat} {ops : Array Oper} {Q : Exit → St → Prop} {s : St} (h : awpAny A ops (Q .normal) ops.size (Array.replicate ops.size false) s) : awp A (.region id ops true) Q s := by
  simp only [awp]; exact h
def anyAt (A : Env) (ops : Array Oper) (K : St → Prop) (n : Nat) (listed : Array Bool) (s : St) (i : Nat) : Prop := match ops.toList[i]? with
  | some o => awpG A ops.toList o s (awpAny A ops K n (listed.setIfInBounds i true))
  | none => False
def allAt (P : Nat → Prop) : List Nat → Prop
  | [] => True
  | [i] => P i
  | i :: is => P i ∧ allAt P is
theorem allAt_ok {P : Nat → Prop} : ∀ {l : List Nat}, allAt P l → ∀ i ∈ l, P i
  | [], _, i, h => by cases h
  | [x], h, i, hi => by obtain rfl := List.mem_singleton.1 hi; exact h
  | x :: y :: l, h, i, hi => by
    cases hi with
    | head => exact h.1
    | tail _ hi => exact allAt_ok (l := y :: l) h.2 i hi
theorem ord_step {A : Env} {ops : Array Oper} {K : St → Prop} {n : Nat} {listed : Array Bool} {s : St} (x : Nat) (l : List Nat) (hr : Region.ready .any ops listed = x :: l) (h : allAt (anyAt A ops K n listed s) (x :: l)) : awpAny A ops K (n + 1) listed s := by
  simp only [awpAny]
  refine ⟨fun e => ?_, fun i hi => ?_⟩
  · rw [hr] at e; cases e
  · rw [hr] at hi
    exact allAt_ok h i hi
theorem ord_end {A : Env} {ops : Array Oper} {K : St → Prop} {listed : Array Bool} {s : St} (hr : Region.ready .any ops listed = []) (h : K s) : awpAny A ops K 0 listed s := ⟨hr, h⟩
theorem viaState {K : St → Prop} {G : Prop} (sA : St) (main : K sA → G) (leaf : K sA) : G := main leaf
theorem st_eq {n : Nat} {E E' : Nat → AV} {H : Nat → Option Ob} (h : ∀ t, E t = E' t) : St.mk n E H = St.mk n E' H := by rw [funext h]
/-- A law about a struct. -/
def lawG (cs : List Sh) : List D → Option D
  | [.g ds] => if shL cs ds = true ∧ okL ds = true then some (.b true) else none
  | _ => none
theorem lawG_inv {cs : List Sh} {ds : List D} {r : D} (h : lawG cs ds = some r) : ∃ xs, ds = [.g xs] ∧ shL cs xs = true ∧ okL xs = true ∧ r = .b true := by
  unfold lawG at h
  split at h
  · split at h
    · rename_i hc
      simp only [Option.some.injEq] at h
      exact ⟨_, rfl, hc.1, hc.2, h.symm⟩
    · cases h
  · cases h
end Go.Fs

set_option linter.unusedVariables false
set_option linter.constructorNameAsVariable false
namespace Go.Fs
/-! ### a region whose order is left open: operations that make something new may move ahead of reads -/
def Ext (H H' : Nat → Option Ob) : Prop := ∀ k o, H k = some o → H' k = some o
theorem Ext.refl (H : Nat → Option Ob) : Ext H H := fun _ _ h => h
theorem ext_refl (H : Nat → Option Ob) : Ext H H = True := eq_true (Ext.refl H)
def noneB (x : Option Ob) : Bool := match x with
  | none => true
  | some _ => false
theorem noneB_none : noneB none = true := rfl
theorem ext_upd {H H' : Nat → Option Ob} {k : Nat} {o : Option Ob} (h : noneB (H k) = true) (he : Ext H H') : Ext H (upd H' k o) = True := eq_true fun j p hj => by
  by_cases e : j = k
  · subst e; rw [hj] at h; cases h
  · simp only [upd, if_neg e]; exact he j p hj

theorem opLoad_ext {T : Tab} {H H' : Nat → Option Ob} (he : Ext H H') {ty : TypeId} {p av : AV} (h : opLoad T H ty p = some av) : opLoad T H' ty p = some av := by
  unfold opLoad at h ⊢
  obtain ⟨ti, h1, h⟩ := Option.bind_eq_some_iff.1 h
  obtain ⟨ag, h2, h⟩ := Option.bind_eq_some_iff.1 h
  rw [h1, Option.bind_some, h2, Option.bind_some]
  split at h
  case isFalse => cases h
  rename_i hc
  rw [if_pos hc]
  split at h
  · split at h
    · rename_i hk; simp only [he _ _ hk]; exact h
    · cases h
  · exact h
  · exact h
  · split at h
    · rename_i hk; simp only [he _ _ hk]; exact h
    · cases h
  · cases h
theorem opField_ext {T : Tab} {H H' : Nat → Option Ob} (he : Ext H H') {ty : TypeId} {p av : AV} {f : Nat} (h : opField T H ty p f = some av) : opField T H' ty p f = some av := by
  unfold opField at h ⊢
  obtain ⟨ti, h1, h⟩ := Option.bind_eq_some_iff.1 h
  rw [h1, Option.bind_some]
  split at h
  case h_2 => cases h
  rename_i fs hk
  try rw [hk]
  obtain ⟨x, h2, h⟩ := Option.bind_eq_some_iff.1 h
  simp only [h2, Option.bind_some]
  split at h
  · split at h
    · rename_i hk; simp only [he _ _ hk]; exact h
    · cases h
  · split at h
    · rename_i hk; simp only [he _ _ hk]; exact h
    · cases h
  · exact h
  · exact h
  · cases h
theorem opIndex_ext {T : Tab} {H H' : Nat → Option Ob} (he : Ext H H') {ty : TypeId} {x ix av : AV} (h : opIndex T H ty x ix = some av) : opIndex T H' ty x ix = some av := by
  unfold opIndex at h ⊢
  obtain ⟨ti, h1, h⟩ := Option.bind_eq_some_iff.1 h
  rw [h1, Option.bind_some]
  split at h
  case h_2 => cases h
  rename_i e hk
  try rw [hk]
  obtain ⟨te, h2, h⟩ := Option.bind_eq_some_iff.1 h
  simp only [h2, Option.bind_some]
  split at h
  case h_2 => cases h
  split at h
  · split at h
    · rename_i hk; simp only [he _ _ hk]; exact h
    · cases h
  · exact h
  · cases h
/-- Reads that are moved. -/
def rdB (o : Oper) : Bool := o.guard.isNone && match o.op with
  | .move _ => true
  | .assign _ => true
  | .load _ _ => true
  | .fieldAddr _ _ _ => true
  | .indexAddr _ _ _ => true
  | _ => false
/-- Operations that may be moved ahead. -/
def frB (o : Oper) : Bool := o.guard.isNone && match o.op with
  | .move _ => true
  | .assign _ => true
  | .load _ _ => true
  | .fieldAddr _ _ _ => true
  | .indexAddr _ _ _ => true
  | .alloc _ => true
  | .box _ _ => true
  | .build _ _ => true
  | .buildSlice _ _ _ => true
  | .unOp _ _ _ => true
  | .call c => match c.callee with
    | .value _ => true
    | .builtin _ => true
    | _ => false
  | _ => false

theorem putK_frame {s s' : St} {d : Nat} {av : AV} {H : Nat → Option Ob} {K K' : St → Prop} (hn : s.n = s'.n) (hk : ∀ av H, K ⟨s.n, upd s.env d av, H⟩ → K' ⟨s'.n, upd s'.env d av, H⟩) (h : putK s (some d) av H K) : putK s' (some d) av H K' :=
  ⟨by rw [← hn]; exact h.1, hk _ _ h.2⟩
theorem callW_frame {A : Env} {s s' : St} {d : Nat} {f : FuncId} {args : List AV} {K K' : St → Prop} (hn : s.n = s'.n) (hh : s.heap = s'.heap) (hk : ∀ av H, K ⟨s.n, upd s.env d av, H⟩ → K' ⟨s'.n, upd s'.env d av, H⟩) (h : callW A s (some d) f args K) : callW A s' (some d) f args K' := by
  unfold callW at h ⊢
  rw [← hh]
  split at h
  · exact h
  · exact OkO_mono (fun ds h => OkO_mono (fun r h => ⟨by rw [← hh]; exact h.1, by rw [← hh]; exact putK_frame hn hk h.2⟩) h) h
  · exact OkO_mono (fun H1 h => ⟨by rw [← hh]; exact h.1, OkO_mono (fun ds h => OkO_mono (fun r h => putK_frame hn hk h) h) h.2⟩) h
  · split at h
    · exact h
    · split at h
      · exact ⟨h.1, OkO_mono (fun ds h => OkO_mono (fun r h => ⟨by rw [← hh]; exact h.1, by rw [← hh]; exact h.2.1, by rw [← hh]; exact putK_frame hn hk h.2.2⟩) h) h.2⟩
      · exact h
    · refine OkO_mono (fun x h => ?_) h
      unfold ioK at h ⊢
      rw [← hh]
      refine OkO_mono (fun ds h => OkO_mono (fun r h => ?_) h) h
      unfold ioK2 at h ⊢
      rw [← hh]
      exact ⟨h.1, h.2.1, OkO_mono (fun os h => ⟨by rw [← hh]; exact h.1, by rw [← hh]; exact putK_frame hn hk h.2⟩) h.2.2⟩
  · refine OkO_mono (fun y h => ?_) h
    unfold eatK at h ⊢
    rw [← hh]
    exact putK_frame hn hk h
theorem awpG_frame {A : Env} {ops : Array Oper} {o : Oper} {s s' : St} {d : Nat} (hf : frB o = true) (hd : o.dst = some d) (ha : Agree ops o s s') (hn : s.n = s'.n) {K K' : St → Prop} (hk : ∀ av H, K ⟨s.n, upd s.env d av, H⟩ → K' ⟨s'.n, upd s'.env d av, H⟩) (h : awpG A ops.toList o s K) : awpG A ops.toList o s' K' := by
  simp only [frB, Bool.and_eq_true, Option.isNone_iff_eq_none] at hf
  obtain ⟨hg, hf⟩ := hf
  unfold awpG at h ⊢
  rw [hg] at h ⊢
  simp only at h ⊢
  have val : valW A o s K → valW A o s' K' := fun h => by
    unfold valW at h ⊢
    rw [← valOp_congr ha]
    refine OkO_mono (fun y h => ?_) h
    unfold valK at h ⊢
    rw [hd] at h ⊢
    exact putK_frame hn hk h
  unfold awpOp at h ⊢
  split at hf <;> rename_i hop <;> simp only [hop] at h ⊢ <;> try exact val h
  · rename_i c
    cases hc : c.callee with
    | invoke r m => rw [hc] at hf; cases hf
    | builtin b => rw [hc] at h; simp only at h ⊢; exact val h
    | value f =>
      rw [hc] at h
      simp only at h ⊢
      have e1 := ha.ev (x := f) (by rw [hop]; simp [Op.operands, Call.operands, hc])
      have e2 := zargs_congr (T := A.T) (s := s) (s' := s') c.args.toList c.argTypes.toList fun x hx => ha.ev (x := x) (by rw [hop]; simp [Op.operands, Call.operands, hc]; exact .inr (by simpa using hx))
      rw [← e1, ← e2]
      rw [hd] at h ⊢
      split at h
      · exact callW_frame hn ha.1 hk h
      · exact ⟨h.1, callW_frame hn ha.1 hk h.2⟩
      · exact h
  · cases hf

theorem rd_det {A : Env} {ops : Array Oper} {o : Oper} {s : St} {d : Nat} (hr : rdB o = true) (hd : o.dst = some d) {N : St → Prop} (h : awpG A ops.toList o s fun s' => s'.heap = s.heap ∧ N s') :
    ∃ av, d < s.n ∧ N ⟨s.n, upd s.env d av, s.heap⟩ ∧ ∀ (s' : St), s'.n = s.n → (∀ t ∈ o.looksAt ops, s.env t = s'.env t) → Ext s.heap s'.heap → ∀ N' : St → Prop, N' ⟨s'.n, upd s'.env d av, s'.heap⟩ → awpG A ops.toList o s' fun s'' => s''.heap = s'.heap ∧ N' s'' := by
  simp only [rdB, Bool.and_eq_true, Option.isNone_iff_eq_none] at hr
  obtain ⟨hg, hr⟩ := hr
  unfold awpG at h ⊢
  rw [hg] at h ⊢
  simp only at h ⊢
  have key : ∀ {v : Option (AV × (Nat → Option Ob))} (e : valOp A.T s o = v), OkO v (valK s o.dst fun s' => s'.heap = s.heap ∧ N s') →
      (∀ (av : AV) (s' : St), v = some (av, s.heap) → s'.n = s.n → (∀ t ∈ o.looksAt ops, s.env t = s'.env t) → Ext s.heap s'.heap → valOp A.T s' o = some (av, s'.heap)) →
      ∃ av, d < s.n ∧ N ⟨s.n, upd s.env d av, s.heap⟩ ∧ ∀ (s' : St), s'.n = s.n → (∀ t ∈ o.looksAt ops, s.env t = s'.env t) → Ext s.heap s'.heap → ∀ N' : St → Prop, N' ⟨s'.n, upd s'.env d av, s'.heap⟩ → valW A o s' fun s'' => s''.heap = s'.heap ∧ N' s'' := by
    intro v e h hst
    obtain ⟨⟨av, H1⟩, rfl, h⟩ := OkO_inv h
    unfold valK at h
    rw [hd] at h
    obtain ⟨h1, h2, h3⟩ := h
    simp only at h1 h2 h3
    subst h2
    refine ⟨av, h1, h3, fun s' hn ha he N' hN => ?_⟩
    unfold valW
    rw [hst av s' rfl hn ha he, OkO_some]
    unfold valK
    rw [hd]
    exact ⟨by rw [hn]; exact h1, rfl, hN⟩
  have ev : ∀ {s' : St} (ha : ∀ t ∈ o.looksAt ops, s.env t = s'.env t) {x : Operand}, x ∈ o.op.operands.toList → s.ev x = s'.ev x := fun {s'} ha {x} hx => by
    cases x with
    | tmp t => exact ha t (List.mem_append_left _ (List.mem_filterMap.2 ⟨.tmp t, hx, rfl⟩))
    | _ => rfl
  have map1 : ∀ {x : Option AV} {H : Nat → Option Ob} {av : AV}, x.map (·, H) = some (av, H) → x = some av := fun {x H av} h => by
    cases x with
    | none => cases h
    | some y => simp at h; rw [h]
  unfold awpOp at h ⊢
  split at hr <;> rename_i hop <;> simp only [hop] at h ⊢ <;> try (cases hr; done)
  · refine key rfl h fun av s' hv hn ha he => ?_
    have e1 := ev ha (x := _) (by rw [hop]; simp [Op.operands]; rfl)
    simp only [valOp, hop, Option.some.injEq, Prod.mk.injEq, and_true] at hv ⊢
    rw [← e1]; exact hv
  · refine key rfl h fun av s' hv hn ha he => ?_
    have e1 := ev ha (x := _) (by rw [hop]; simp [Op.operands]; rfl)
    simp only [valOp, hop, Option.some.injEq, Prod.mk.injEq, and_true] at hv ⊢
    rw [← e1]; exact hv
  · refine key rfl h fun av s' hv hn ha he => ?_
    have e1 := ev ha (x := _) (by rw [hop]; simp [Op.operands]; rfl)
    simp only [valOp, hop] at hv ⊢
    rw [← e1, opLoad_ext he (map1 hv)]
    rfl
  · refine key rfl h fun av s' hv hn ha he => ?_
    have e1 := ev ha (x := _) (by rw [hop]; simp [Op.operands]; rfl)
    simp only [valOp, hop] at hv ⊢
    rw [← e1, opField_ext he (map1 hv)]
    rfl
  · rename_i ty x i
    refine key rfl h fun av s' hv hn ha he => ?_
    have e1 := ev ha (x := x) (by rw [hop]; simp [Op.operands])
    have e2 := ev ha (x := i) (by rw [hop]; simp [Op.operands])
    simp only [valOp, hop] at hv ⊢
    rw [← e1, ← e2]
    unfold dem1 at hv ⊢
    obtain ⟨⟨x', H'⟩, hx, hv⟩ := Option.bind_eq_some_iff.1 hv
    obtain ⟨av', h1, h2⟩ := Option.map_eq_some_iff.1 hv
    simp only [Prod.mk.injEq] at h2
    obtain ⟨rfl, rfl⟩ := h2
    simp only at h1
    have hd2 : demote s'.heap (s.ev x) = some (x', s'.heap) := by
      generalize s.ev x = q at hx
      have d1 : ∀ {q x' : AV}, demote1 s.heap q = some (x', s.heap) → demote1 s'.heap q = some (x', s'.heap) := by
        intro q x' hx
        unfold demote1 at hx ⊢
        split at hx
        · split at hx
          · rename_i k ve i o xo sz xs dp fz ve' hk
            rw [he _ _ hk]
            simp only
            split at hx
            · rename_i hc
              rw [if_pos hc]
              simp only [Option.some.injEq, Prod.mk.injEq] at hx ⊢
              refine ⟨hx.1, ?_⟩
              have hx2 := hx.2
              split at hx2
              · rename_i hdf
                have := congrFun hx2 k
                rw [upd_same, hk] at this
                simp only [Option.some.injEq, Ob.row.injEq] at this
                obtain ⟨_, _, _, hfz, _⟩ := this
                rw [← hfz] at hdf
                simp at hdf
              · rename_i hdf; rw [if_neg hdf]
            · cases hx
          · cases hx
        · simp only [Option.some.injEq, Prod.mk.injEq, and_true] at hx ⊢; exact hx
      cases q <;> simp only [demote] at hx ⊢ <;> try exact d1 hx
      rename_i cs
      obtain ⟨⟨cs', H2⟩, hc, he2⟩ := Option.map_eq_some_iff.1 hx
      simp only [Prod.mk.injEq] at he2
      obtain ⟨rfl, rfl⟩ := he2
      unfold opIndex at h1
      obtain ⟨ti, _, h1⟩ := Option.bind_eq_some_iff.1 h1
      split at h1
      · obtain ⟨te, _, h1⟩ := Option.bind_eq_some_iff.1 h1
        split at h1 <;> cases h1
      · cases h1
    rw [hd2]
    show Option.map _ (opIndex A.T s'.heap ty x' (s.ev i)) = _
    rw [opIndex_ext he h1]
    rfl
end Go.Fs

set_option linter.unusedVariables false
namespace Go.Fs
/-- What is asked of an operation: 1: it leaves the heap, 2: it only adds to it. -/
def ob (f : Nat) (s s' : St) : Prop := match f with
  | 0 => True
  | 1 => s'.heap = s.heap
  | _ => Ext s.heap s'.heap
def xk (f : Nat) (s : St) (N : St → Prop) (s' : St) : Prop := ob f s s' ∧ N s'
def awpXs (A : Env) (ops : Array Oper) (fl : Nat → Nat) (K : St → Prop) : List Nat → St → Prop
  | [], s => K s
  | i :: is, s => match ops.toList[i]? with
    | some o => awpG A ops.toList o s (xk (fl i) s (awpXs A ops fl K is))
    | none => False

theorem upd_comm {α : Type} (f : Nat → α) {i j : Nat} (h : i ≠ j) (a b : α) : upd (upd f i a) j b = upd (upd f j b) i a := by
  funext t
  simp only [upd]
  by_cases h1 : t = j
  · subst h1
    rw [if_pos rfl, if_neg (fun e => h e.symm), if_pos rfl]
  · rw [if_neg h1]
    by_cases h2 : t = i
    · rw [if_pos h2, if_pos h2]
    · rw [if_neg h2, if_neg h2, if_neg h1]

/-- Two operations that do not touch each other. -/
def apartB (ops : Array Oper) (o p : Oper) : Bool := match o.dst, p.dst with
  | some d, some e => d != e && !(o.looksAt ops).contains e && !(p.looksAt ops).contains d
  | _, _ => false
theorem swap_op {A : Env} {ops : Array Oper} {o p : Oper} {f : Nat} (hf0 : f ≠ 0) (hr : rdB o = true) (hf : frB p = true) (ha : apartB ops o p = true) {s : St} {N : St → Prop}
    (h : awpG A ops.toList o s (xk 1 s fun s1 => awpG A ops.toList p s1 (xk f s1 N))) : awpG A ops.toList p s (xk f s fun s1 => awpG A ops.toList o s1 (xk 1 s1 N)) := by
  unfold apartB at ha
  split at ha
  case h_2 => cases ha
  rename_i d e hd he
  simp only [Bool.and_eq_true, bne_iff_ne, ne_eq, Bool.not_eq_true', List.contains_eq_mem, decide_eq_false_iff_not] at ha
  obtain ⟨⟨hde, hoe⟩, hpd⟩ := ha
  obtain ⟨av, hlt, h1, hre⟩ := rd_det hr hd h
  refine awpG_frame (s := ⟨s.n, upd s.env d av, s.heap⟩) (s' := s) hf he ⟨rfl, fun t ht => ?_⟩ rfl (fun av2 H h2 => ?_) h1
  · show upd s.env d av t = s.env t
    have : t ≠ d := fun e' => hpd (by rw [← e']; exact ht)
    simp only [upd, if_neg this]
  · obtain ⟨h2a, h2b⟩ := h2
    have hext : Ext s.heap H := by
      match f, hf0, h2a with
      | 1, _, h => have h : H = s.heap := h; rw [h]; exact Ext.refl _
      | n + 2, _, h => exact h
    refine ⟨?_, hre ⟨s.n, upd s.env e av2, H⟩ rfl (fun t ht => ?_) hext N ?_⟩
    · match f, hf0, h2a with
      | 1, _, h => exact h
      | n + 2, _, h => exact h
    · have : t ≠ e := fun e' => hoe (by rw [← e']; exact ht)
      simp only [upd, if_neg this]
    · have : upd (upd s.env e av2) d av = upd (upd s.env d av) e av2 := upd_comm _ (fun e' => hde e'.symm) _ _
      simp only
      rw [this]
      exact h2b

theorem xk_mono {f : Nat} {s s' : St} {N N' : St → Prop} (hN : ∀ s, N s → N' s) (h : xk f s N s') : xk f s N' s' := ⟨h.1, hN _ h.2⟩
theorem awpXs_mono {A : Env} {ops : Array Oper} {fl : Nat → Nat} {K K' : St → Prop} (hk : ∀ s, K s → K' s) : ∀ (l : List Nat) (s : St), awpXs A ops fl K l s → awpXs A ops fl K' l s
  | [], s, h => hk s h
  | i :: is, s, h => by
    simp only [awpXs] at h ⊢
    split at h
    · exact awpG_mono (fun s' h => xk_mono (awpXs_mono hk is) h) h
    · exact h

/-- What comes behind what. -/
def depN (ops : Array Oper) : Nat → Nat → Nat → Bool
  | 0, _, _ => false
  | n + 1, j, i => match ops.toList[i]? with
    | some o => o.after.toList.any fun e => Region.binds .any e && (e.on == j || depN ops n j e.on)
    | none => false
def okPair (ops : Array Oper) (fl : Nat → Nat) (j i : Nat) : Bool := depN ops ops.size j i || match ops.toList[j]?, ops.toList[i]? with
  | some o, some p => fl j == 1 && fl i != 0 && rdB o && frB p && apartB ops o p
  | _, _ => false
def pairsB (ops : Array Oper) (fl : Nat → Nat) : List Nat → Bool
  | [] => true
  | j :: l => l.all (okPair ops fl j) && pairsB ops fl l
/-- Every operation comes behind those that it waits for. -/
def backB (ops : Array Oper) : List Nat → List Nat → Bool
  | _, [] => true
  | pre, i :: l => (match ops.toList[i]? with
    | some o => o.after.toList.all fun e => !Region.binds .any e || pre.contains e.on
    | none => false) && backB ops (i :: pre) l
def ordB (ops : Array Oper) (fl : Nat → Nat) (ord : List Nat) : Bool := pairsB ops fl ord && backB ops [] ord && decide ord.Nodup && (ord.length == ops.size)

theorem dep_listed {ops : Array Oper} {listed : Array Bool} (hc : ∀ (j : Nat) (o : Oper), ops[j]? = some o → listed.getD j false = true → ∀ e ∈ o.after, Region.binds .any e = true → listed.getD e.on false = true) :
    ∀ (n j i : Nat), depN ops n j i = true → (∀ o, ops[i]? = some o → ∀ e ∈ o.after, Region.binds .any e = true → listed.getD e.on false = true) → listed.getD j false = true
  | 0, j, i, h, _ => by cases h
  | n + 1, j, i, h, hr => by
    simp only [depN] at h
    split at h
    · rename_i o ho
      rw [Array.getElem?_toList] at ho
      simp only [List.any_eq_true, Bool.and_eq_true, Bool.or_eq_true, beq_iff_eq] at h
      obtain ⟨e, he, hb, h⟩ := h
      have h1 := hr o ho e (by simpa using he) hb
      rcases h with rfl | h
      · exact h1
      · exact dep_listed hc n j e.on h fun p hp e' he' hb' => hc e.on p hp h1 e' he' hb'
    · cases h

theorem pairs_mem {ops : Array Oper} {fl : Nat → Nat} : ∀ {l1 : List Nat} {i : Nat} {l2 : List Nat}, pairsB ops fl (l1 ++ i :: l2) = true → ∀ j ∈ l1, okPair ops fl j i = true
  | j' :: l1, i, l2, h, j, hj => by
    simp only [List.cons_append, pairsB, Bool.and_eq_true, List.all_eq_true] at h
    cases hj with
    | head => exact h.1 i (by simp)
    | tail _ hj => exact pairs_mem h.2 j hj
theorem pairs_drop {ops : Array Oper} {fl : Nat → Nat} : ∀ {l1 : List Nat} {i : Nat} {l2 : List Nat}, pairsB ops fl (l1 ++ i :: l2) = true → pairsB ops fl (l1 ++ l2) = true
  | [], i, l2, h => by simp only [List.nil_append, pairsB, Bool.and_eq_true] at h ⊢; exact h.2
  | j :: l1, i, l2, h => by
    simp only [List.cons_append, pairsB, Bool.and_eq_true, List.all_eq_true] at h ⊢
    refine ⟨fun x hx => h.1 x ?_, pairs_drop h.2⟩
    rcases List.mem_append.1 hx with hx | hx
    · exact List.mem_append_left _ hx
    · exact List.mem_append_right _ (.tail _ hx)
/-- What is ready comes to the front. -/
theorem to_front {A : Env} {ops : Array Oper} {fl : Nat → Nat} {K : St → Prop} {i : Nat} {l2 : List Nat} : ∀ (l1 : List Nat), (∀ j ∈ l1, okPair ops fl j i = true ∧ depN ops ops.size j i = false) → ∀ (s : St), awpXs A ops fl K (l1 ++ i :: l2) s → awpXs A ops fl K (i :: (l1 ++ l2)) s
  | [], _, s, h => h
  | j :: l1, hp, s, h => by
    obtain ⟨h1, h2⟩ := hp j (.head _)
    unfold okPair at h1
    rw [h2, Bool.false_or] at h1
    split at h1
    case h_2 => cases h1
    rename_i o p ho hpp
    simp only [Bool.and_eq_true, beq_iff_eq, bne_iff_ne, ne_eq] at h1
    obtain ⟨⟨⟨⟨a1, a2⟩, a3⟩, a4⟩, a5⟩ := h1
    simp only [List.cons_append, awpXs, ho] at h
    have h3 : awpG A ops.toList o s (xk (fl j) s (awpXs A ops fl K (i :: (l1 ++ l2)))) := awpG_mono (fun s' h => xk_mono (to_front l1 fun j' hj' => hp j' (.tail _ hj')) h) h
    rw [a1] at h3
    simp only [awpXs, hpp] at h3
    have h4 := swap_op a2 a3 a4 a5 h3
    simp only [List.cons_append, awpXs, hpp, ho, a1]
    exact h4

theorem split_at {l : List Nat} {i : Nat} (h : i ∈ l) : ∃ l1 l2, l = l1 ++ i :: l2 := List.append_of_mem h
theorem any_ord {A : Env} {ops : Array Oper} {fl : Nat → Nat} {K : St → Prop} : ∀ (n : Nat) (l : List Nat) (listed : Array Bool) (s : St), l.length = n → listed.size = ops.size → l.Nodup → (∀ j, j < ops.size → (listed.getD j false = false ↔ j ∈ l)) → (∀ j ∈ l, j < ops.size) →
    (∀ (j : Nat) (o : Oper), ops[j]? = some o → listed.getD j false = true → ∀ e ∈ o.after, Region.binds .any e = true → listed.getD e.on false = true) →
    (∀ (pre : List Nat) (i : Nat) (post : List Nat), l = pre ++ i :: post → ∀ o, ops[i]? = some o → ∀ e ∈ o.after, Region.binds .any e = true → e.on ∈ pre ∨ listed.getD e.on false = true) →
    pairsB ops fl l = true → awpXs A ops fl K l s → awpAny A ops K n listed s := by
  intro n
  induction n with
  | zero =>
    intro l listed s hn hsz hnd hmem hlt hc hb hp h
    obtain rfl := List.eq_nil_of_length_eq_zero hn
    refine ⟨List.eq_nil_iff_forall_not_mem.2 fun j hj => ?_, h⟩
    obtain ⟨h1, o, ho, _⟩ := mem_ready.1 hj
    have hj := lt_of_some ho
    have hlj : j < listed.size := by omega
    have : listed.getD j false = false := by simp [hlj] at h1 ⊢; exact h1
    exact absurd ((hmem j hj).1 this) (by simp)
  | succ n ih =>
    intro l listed s hn hsz hnd hmem hlt hc hb hp h
    refine ⟨fun he => ?_, fun i hi => ?_⟩
    · exfalso
      cases l with
      | nil => cases hn
      | cons i l =>
        have hil := hlt i (.head _)
        have hij : listed.getD i false = false := (hmem i hil).2 (.head _)
        have : i ∈ Region.ready .any ops listed := mem_ready.2 ⟨by
          have : i < listed.size := by omega
          simp [this] at hij ⊢; exact hij, ops[i], Array.getElem?_eq_getElem hil, fun e he' hbd => by
          rcases hb [] i l rfl _ (Array.getElem?_eq_getElem hil) e he' hbd with h | h
          · cases h
          · exact h⟩
        rw [he] at this; cases this
    · obtain ⟨hun, o, ho, hall⟩ := mem_ready.1 hi
      have hil := lt_of_some ho
      have hils : i < listed.size := by omega
      have hun' : listed.getD i false = false := by simp [hils] at hun ⊢; exact hun
      obtain ⟨l1, l2, rfl⟩ := split_at ((hmem i hil).1 hun')
      have hfront := to_front (A := A) (K := K) l1 (fun j hj => ⟨pairs_mem hp j hj, by
        cases hd : depN ops ops.size j i with
        | false => rfl
        | true =>
          have h1 := dep_listed hc _ _ _ hd fun p hpp => by rw [ho] at hpp; cases hpp; exact hall
          have h2 := (hmem j (hlt j (List.mem_append_left _ hj))).2 (List.mem_append_left _ hj)
          rw [h1] at h2; cases h2⟩) s h
      have ho' : ops.toList[i]? = some o := by rw [Array.getElem?_toList]; exact ho
      simp only [awpXs, ho'] at hfront
      rw [ho']
      have hnd2 := List.nodup_append.1 hnd
      have hget : ∀ j, (listed.setIfInBounds i true).getD j false = true ↔ (listed.getD j false = true ∨ j = i) := fun j => by
        by_cases e : j = i
        · subst e; simp [hils]
        · rw [getD_set_ne false (Ne.symm e)]; simp [e]
      have hi1 : i ∉ l1 := fun hm => hnd2.2.2 i hm i (.head _) rfl
      have hi2 : i ∉ l2 := (List.nodup_cons.1 hnd2.2.1).1
      refine awpG_mono (fun s' h' => ?_) hfront
      refine ih (l1 ++ l2) (listed.setIfInBounds i true) s' (by simp at hn ⊢; omega) (by simpa using hsz) ?_ (fun j hj => ?_) (fun j hj => ?_) (fun j p hpj hj e he hbd => ?_) (fun pre i' post heq p hpp e he hbd => ?_) (pairs_drop hp) h'.2
      · refine List.nodup_append.2 ⟨hnd2.1, (List.nodup_cons.1 hnd2.2.1).2, fun a ha b hb => hnd2.2.2 a ha b (.tail _ hb)⟩
      · rw [← Bool.not_eq_true, hget j]
        constructor
        · intro hx
          have h1 : listed.getD j false = false := by cases hl : listed.getD j false with
            | false => rfl
            | true => exact absurd (.inl hl) hx
          have h2 := (hmem j hj).1 h1
          rcases List.mem_append.1 h2 with h2 | h2
          · exact List.mem_append_left _ h2
          · cases h2 with
            | head => exact absurd (.inr rfl) hx
            | tail _ h2 => exact List.mem_append_right _ h2
        · intro hx hy
          rcases hy with hy | hy
          · have : j ∈ l1 ++ i :: l2 := by
              rcases List.mem_append.1 hx with hx | hx
              · exact List.mem_append_left _ hx
              · exact List.mem_append_right _ (.tail _ hx)
            have := (hmem j hj).2 this
            rw [hy] at this; cases this
          · subst hy
            rcases List.mem_append.1 hx with hx | hx
            · exact hi1 hx
            · exact hi2 hx
      · rcases List.mem_append.1 hj with hj | hj
        · exact hlt j (List.mem_append_left _ hj)
        · exact hlt j (List.mem_append_right _ (.tail _ hj))
      · rw [hget] at hj ⊢
        rcases hj with hj | rfl
        · exact .inl (hc j p hpj hj e he hbd)
        · rw [ho] at hpj; cases hpj
          exact .inl (hall e he hbd)
      · -- what an operation waits for stands before it, or is done
        rw [hget]
        have key : ∀ (pre' post' : List Nat), l1 ++ i :: l2 = pre' ++ i' :: post' → (∀ x ∈ pre', x ∈ pre ∨ x = i) → e.on ∈ pre ∨ (listed.getD e.on false = true ∨ e.on = i) := fun pre' post' heq' hsub => by
          rcases hb pre' i' post' heq' p hpp e he hbd with h | h
          · rcases hsub _ h with h | h
            · exact .inl h
            · exact .inr (.inr h)
          · exact .inr (.inl h)
        rcases List.append_eq_append_iff.1 heq with ⟨t, h1, h2⟩ | ⟨t, h1, h2⟩
        · -- i' stands in l2
          refine key (l1 ++ i :: t) post (by rw [List.append_assoc, List.cons_append, ← h2]) fun x hx => ?_
          rcases List.mem_append.1 hx with hx | hx
          · exact .inl (by rw [h1]; exact List.mem_append_left _ hx)
          · cases hx with
            | head => exact .inr rfl
            | tail _ hx => exact .inl (by rw [h1]; exact List.mem_append_right _ hx)
        · -- i' stands in l1, or l1 is pre
          cases t with
          | nil =>
            simp only [List.append_nil] at h1
            simp only [List.nil_append] at h2
            subst h1
            refine key (l1 ++ [i]) post (by rw [List.append_assoc, h2]; rfl) fun x hx => ?_
            rcases List.mem_append.1 hx with hx | hx
            · exact .inl hx
            · exact .inr (List.mem_singleton.1 hx)
          | cons y t =>
            simp only [List.cons_append, List.cons.injEq] at h2
            obtain ⟨rfl, h2⟩ := h2
            refine key pre (t ++ i :: l2) (by rw [h1, List.append_assoc]; rfl) fun x hx => .inl hx

theorem back_ok {ops : Array Oper} : ∀ (l pre : List Nat), backB ops pre l = true → ∀ (p1 : List Nat) (i : Nat) (p2 : List Nat), l = p1 ++ i :: p2 → ∀ o, ops[i]? = some o → ∀ e ∈ o.after, Region.binds .any e = true → e.on ∈ p1 ∨ e.on ∈ pre
  | [], pre, _, p1, i, p2, he, _, _, _, _, _ => by cases p1 <;> cases he
  | x :: l, pre, h, p1, i, p2, heq, o, ho, e, he, hb => by
    simp only [backB, Bool.and_eq_true] at h
    cases p1 with
    | nil =>
      simp only [List.nil_append, List.cons.injEq] at heq
      obtain ⟨rfl, rfl⟩ := heq
      have h1 := h.1
      rw [Array.getElem?_toList, ho] at h1
      simp only [List.all_eq_true] at h1
      have := h1 e (by simpa using he)
      simp only [hb, Bool.not_true, Bool.false_or, List.contains_eq_mem, decide_eq_true_eq] at this
      exact .inr this
    | cons y p1 =>
      simp only [List.cons_append, List.cons.injEq] at heq
      obtain ⟨rfl, rfl⟩ := heq
      rcases back_ok _ (x :: pre) h.2 p1 i p2 rfl o ho e he hb with h1 | h1
      · exact .inl (.tail _ h1)
      · cases h1 with
        | head => exact .inl (.head _)
        | tail _ h1 => exact .inr h1
theorem back_lt {ops : Array Oper} : ∀ (l pre : List Nat), backB ops pre l = true → ∀ i ∈ l, i < ops.size
  | x :: l, pre, h, i, hi => by
    simp only [backB, Bool.and_eq_true] at h
    cases hi with
    | head =>
      have h1 := h.1
      split at h1
      · rename_i o ho
        rw [Array.getElem?_toList] at ho
        exact lt_of_some ho
      · cases h1
    | tail _ hi => exact back_lt l _ h.2 i hi
theorem len_sub : ∀ {l r : List Nat}, l.Nodup → (∀ x ∈ l, x ∈ r) → l.length ≤ r.length
  | [], r, _, _ => Nat.zero_le _
  | x :: l, r, hn, hs => by
    have hx := hs x (.head _)
    have hn2 := List.nodup_cons.1 hn
    have := len_sub (l := l) (r := r.erase x) hn2.2 fun y hy => (List.mem_erase_of_ne (fun e => hn2.1 (by rw [← e]; exact hy))).2 (hs y (.tail _ hy))
    rw [List.length_erase_of_mem hx] at this
    have : 0 < r.length := List.length_pos_of_mem hx
    simp only [List.length_cons]
    omega
theorem perm_all (n : Nat) (l : List Nat) (hnd : l.Nodup) (hl : l.length = n) (hlt : ∀ i ∈ l, i < n) (j : Nat) (hj : j < n) : j ∈ l := by
  refine Decidable.byContradiction fun hn => ?_
  have := len_sub (l := j :: l) (r := List.range n) (List.nodup_cons.2 ⟨hn, hnd⟩) fun x hx => by
    cases hx with
    | head => exact List.mem_range.2 hj
    | tail _ hx => exact List.mem_range.2 (hlt x hx)
  simp at this
  omega

/-- A region in which the order is left open: one order will do. -/
theorem awp_ord {A : Env} {id : Nat} {ops : Array Oper} {Q : Exit → St → Prop} {s : St} (ord : List Nat) (fl : Nat → Nat) (hq : ordB ops fl ord = true) (h : awpXs A ops fl (Q .normal) ord s) : awp A (.region id ops true) Q s := by
  simp only [ordB, Bool.and_eq_true, decide_eq_true_eq, beq_iff_eq] at hq
  obtain ⟨⟨⟨h1, h2⟩, h3⟩, h4⟩ := hq
  refine awp_any ?_
  have hrep : ∀ j, (Array.replicate ops.size false).getD j false = false := fun j => by
    by_cases hj : j < ops.size <;> simp [hj]
  have hlt := back_lt ord [] h2
  refine any_ord ops.size ord (Array.replicate ops.size false) s h4 (by simp) h3 (fun j hj => ⟨fun _ => perm_all _ _ h3 h4 hlt j hj, fun _ => hrep j⟩) hlt (fun j o ho hj => by rw [hrep] at hj; cases hj) (fun pre i post heq o ho e he hb => ?_) h1 h
  rcases back_ok ord [] h2 pre i post heq o ho e he hb with h | h
  · exact .inl h
  · cases h
theorem xk_0 (s : St) (N : St → Prop) (s' : St) : xk 0 s N s' = N s' := by simp [xk, ob]
theorem xk_1 (s : St) (N : St → Prop) (s' : St) : xk 1 s N s' = (s'.heap = s.heap ∧ N s') := rfl
theorem xk_2 (s : St) (N : St → Prop) (s' : St) : xk 2 s N s' = (Ext s.heap s'.heap ∧ N s') := rfl
end Go.Fs
