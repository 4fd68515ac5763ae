/- A part of the proof: an evaluator of the program's code over plain data, proved sound, or a function's walk by it. No conditions beyond those in the theorems. -/
import Derived.Test.YtbgbnmghhmfihaaFsD4
set_option linter.unusedVariables false
namespace Go.Fs

mutual
/-- No list in it is longer than memory could hold. -/
def lnD : D → Bool
  | .l _ xs => decide (xs.length ≤ maxD) && lnLL xs
  | _ => true
def lnL : List D → Bool
  | [] => true
  | d :: ds => lnD d && lnL ds
def lnLL : List (List D) → Bool
  | [] => true
  | x :: xs => lnL x && lnLL xs
end
theorem lnD_b (b : Bool) : (lnD (.b b) = true) = True := by simp [lnD]
theorem lnD_i (k : IntKind) (n : Int) : (lnD (.i k n) = true) = True := by simp [lnD]
theorem lnD_s (b : ByteArray) : (lnD (.s b) = true) = True := by simp [lnD]
theorem lnD_l (sz : Nat) (xs : List (List D)) : (lnD (.l sz xs) = true) = (xs.length ≤ 140737488355328 ∧ lnLL xs = true) := by
  apply propext
  show (decide (xs.length ≤ maxD) && lnLL xs) = true ↔ _
  rw [Bool.and_eq_true]
  exact and_congr_left fun _ => ⟨fun h => of_decide_eq_true h, fun h => decide_eq_true h⟩
theorem lnL_nil : (lnL [] = true) = True := by simp [lnL]
theorem lnL_cons (d : D) (ds : List D) : (lnL (d :: ds) = true) = (lnD d = true ∧ lnL ds = true) := by simp [lnL]
theorem lnLL_get : ∀ {xs : List (List D)} {i : Nat}, lnLL xs = true → i < xs.length → lnL (xs.getD i []) = true
  | [], i, _, h => by simp at h
  | x :: xs, 0, h, _ => by simp only [lnLL, Bool.and_eq_true] at h; exact h.1
  | x :: xs, i + 1, h, hi => by
    simp only [lnLL, Bool.and_eq_true] at h
    simpa using lnLL_get h.2 (i := i) (by simpa using hi)
mutual
theorem okD_ln : ∀ (d : D), okD d = true → lnD d = true
  | .l sz xs, h => by rw [okD_l] at h; rw [lnD_l]; exact ⟨h.1, okLL_ln xs h.2⟩
  | .b _, _ => rfl
  | .i _ _, _ => rfl
  | .s _, _ => rfl
  | .g _, _ => rfl
  | .f _ _, _ => rfl
  | .p _, _ => rfl
  | .n, _ => rfl
  | .t _, _ => rfl
  | .u, _ => rfl
theorem okL_ln : ∀ (ds : List D), okL ds = true → lnL ds = true
  | [], _ => rfl
  | d :: ds, h => by rw [okL_cons] at h; rw [lnL_cons]; exact ⟨okD_ln d h.1, okL_ln ds h.2⟩
theorem okLL_ln : ∀ (xs : List (List D)), okLL xs = true → lnLL xs = true
  | [], _ => rfl
  | x :: xs, h => by rw [okLL_cons] at h; simp only [lnLL, Bool.and_eq_true]; exact ⟨okL_ln x h.1, okLL_ln xs h.2⟩
end

/-! ### marks, element by element -/
def limK : Int := 2305843009213693952
/-- Whether the marks are held. -/
def heldP (cs : List Sh) : List D → Option D
  | [.l sz xs, .i .i64 k] => if sz = cs.length ∧ shLL cs xs = true ∧ xs.length ≤ 140737488355328 ∧ lnLL xs = true ∧ 0 ≤ k ∧ k + lvLL xs ≤ 2305843009213693952 then some (.i .i64 (heldLL xs k)) else none
  | _ => none
/-- Only the lists of a value are marked. -/
def heldS : List D → Int → Int
  | [], k => k
  | .l _ xs :: ds, k => if heldLL xs k < 0 then -1 else heldS ds (heldLL xs k)
  | _ :: ds, k => heldS ds k
def heldG (cs : List Sh) : List D → Option D
  | [.g ds, .i .i64 k] => if shL cs ds = true ∧ okL ds = true ∧ 0 ≤ k ∧ k + lvL ds ≤ 2305843009213693952 then some (.i .i64 (heldS ds k)) else none
  | _ => none
def markP (cs : List Sh) : D → List D → Option (D × D)
  | .l sz xs, [.i .i64 k] => if sz = cs.length ∧ shLL cs xs = true ∧ xs.length ≤ 140737488355328 ∧ lnLL xs = true ∧ 0 ≤ k ∧ k + lvLL xs ≤ 2305843009213693952 then some (.i .i64 (markLL xs k).2, .l sz (markLL xs k).1) else none
  | _, _ => none
def markS : List D → Int → List D × Int
  | [], k => ([], k)
  | .l sz xs :: ds, k => (.l sz (markLL xs k).1 :: (markS ds (markLL xs k).2).1, (markS ds (markLL xs k).2).2)
  | d :: ds, k => (d :: (markS ds k).1, (markS ds k).2)
def markG (cs : List Sh) : D → List D → Option (D × D)
  | .g ds, [.i .i64 k] => if shL cs ds = true ∧ okL ds = true ∧ 0 ≤ k ∧ k + lvL ds ≤ 2305843009213693952 then some (.i .i64 (markS ds k).2, .g (markS ds k).1) else none
  | _, _ => none
theorem heldP_inv {cs : List Sh} {ds : List D} {r : D} (h : heldP cs ds = some r) : ∃ xs k, ds = [.l cs.length xs, .i .i64 k] ∧ shLL cs xs = true ∧ xs.length ≤ 140737488355328 ∧ lnLL xs = true ∧ 0 ≤ k ∧ k + lvLL xs ≤ 2305843009213693952 ∧ r = .i .i64 (heldLL xs k) := by
  unfold heldP at h
  split at h
  · split at h
    · rename_i hc
      obtain ⟨rfl, h1, h2, h2', h3, h4⟩ := hc
      simp only [Option.some.injEq] at h
      exact ⟨_, _, rfl, h1, h2, h2', h3, h4, h.symm⟩
    · cases h
  · cases h
theorem markP_inv {cs : List Sh} {x : D} {ds : List D} {r : D × D} (h : markP cs x ds = some r) : ∃ xs k, x = .l cs.length xs ∧ ds = [.i .i64 k] ∧ shLL cs xs = true ∧ xs.length ≤ 140737488355328 ∧ lnLL xs = true ∧ 0 ≤ k ∧ k + lvLL xs ≤ 2305843009213693952 ∧ r = (.i .i64 (markLL xs k).2, .l cs.length (markLL xs k).1) := by
  unfold markP at h
  split at h
  · split at h
    · rename_i hc
      obtain ⟨rfl, h1, h2, h2', h3, h4⟩ := hc
      simp only [Option.some.injEq] at h
      exact ⟨_, _, rfl, rfl, h1, h2, h2', h3, h4, h.symm⟩
    · cases h
  · cases h
theorem OkO_heldP {cs : List Sh} {sz : Nat} {xs : List (List D)} {k : Int} {K : D → Prop} (hs : sz = cs.length) (h1 : shLL cs xs = true) (h2 : xs.length ≤ 140737488355328) (h2' : lnLL xs = true) (h3 : 0 ≤ k) (h4 : k + lvLL xs ≤ 2305843009213693952) (hk : K (.i .i64 (heldLL xs k))) : OkO (heldP cs [.l sz xs, .i .i64 k]) K := by
  simp only [heldP]; rw [if_pos ⟨hs, h1, h2, h2', h3, h4⟩]; exact hk
theorem OkO_markP {cs : List Sh} {sz : Nat} {xs : List (List D)} {k : Int} {K : D × D → Prop} (hs : sz = cs.length) (h1 : shLL cs xs = true) (h2 : xs.length ≤ 140737488355328) (h2' : lnLL xs = true) (h3 : 0 ≤ k) (h4 : k + lvLL xs ≤ 2305843009213693952) (hk : K (.i .i64 (markLL xs k).2, .l sz (markLL xs k).1)) : OkO (markP cs (.l sz xs) [.i .i64 k]) K := by
  simp only [markP]; rw [if_pos ⟨hs, h1, h2, h2', h3, h4⟩]; exact hk
def negOr (a b : Int) : Int := if a < 0 then -1 else b
theorem negOr_pos {a b : Int} (h : 0 ≤ a) : negOr a b = b := if_neg (by omega)
theorem negOr_neg (b : Int) : negOr (-1) b = -1 := rfl
theorem heldL_nil (k : Int) : heldL [] k = k := by simp only [heldL]
theorem heldLL_step : ∀ {xs : List (List D)} {i : Nat} {k : Int}, i < xs.length → heldLL (xs.drop i) k = negOr (heldL (xs.getD i []) k) (heldLL (xs.drop (i + 1)) (heldL (xs.getD i []) k))
  | [], i, k, h => by simp at h
  | x :: xs, 0, k, _ => by simp [heldLL, negOr]
  | x :: xs, i + 1, k, h => by simpa using heldLL_step (xs := xs) (i := i) (k := k) (by simpa using h)
theorem lvLL_step : ∀ {xs : List (List D)} {i : Nat}, i < xs.length → lvLL (xs.drop i) = lvL (xs.getD i []) + lvLL (xs.drop (i + 1))
  | [], i, h => by simp at h
  | x :: xs, 0, _ => by simp [lvLL]
  | x :: xs, i + 1, h => by simpa using lvLL_step (xs := xs) (i := i) (by simpa using h)
theorem markLL_len : ∀ (xs : List (List D)) (k : Int), (markLL xs k).1.length = xs.length
  | [], k => rfl
  | x :: xs, k => by simp [markLL, markLL_len xs]
theorem markLL_app : ∀ (xs ys : List (List D)) (k : Int), markLL (xs ++ ys) k = ((markLL xs k).1 ++ (markLL ys (markLL xs k).2).1, (markLL ys (markLL xs k).2).2)
  | [], ys, k => by simp [markLL]
  | x :: xs, ys, k => by simp [markLL, markLL_app xs ys]
theorem take_succ {xs : List (List D)} {i : Nat} (h : i < xs.length) : xs.take (i + 1) = xs.take i ++ [xs.getD i []] := by
  rw [List.take_add_one]
  simp [List.getElem?_eq_getElem h]
/-- The list while it is being marked. -/
def half (xs : List (List D)) (k : Int) (i : Nat) : List (List D) := (markLL (xs.take i) k).1 ++ xs.drop i
theorem half_len {xs : List (List D)} {k : Int} {i : Nat} (h : i ≤ xs.length) : (half xs k i).length = xs.length := by
  simp only [half, List.length_append, markLL_len, List.length_take, List.length_drop]; omega
theorem half_get {xs : List (List D)} {k : Int} {i : Nat} (h : i < xs.length) : (half xs k i).getD i [] = xs.getD i [] := by
  have h1 : (markLL (xs.take i) k).1.length = i := by rw [markLL_len, List.length_take]; omega
  simp only [half, List.getD_eq_getElem?_getD]
  rw [List.getElem?_append_right (by omega), h1, Nat.sub_self, List.getElem?_drop, Nat.add_zero]
theorem half_set {xs : List (List D)} {k : Int} {i : Nat} (h : i < xs.length) : (half xs k i).set i (markL (xs.getD i []) (markLL (xs.take i) k).2).1 = half xs k (i + 1) := by
  have h1 : (markLL (xs.take i) k).1.length = i := by rw [markLL_len, List.length_take]; omega
  simp only [half]
  rw [List.set_append_right _ _ (by omega), h1, Nat.sub_self, take_succ h, markLL_app]
  simp only [markLL, List.append_assoc, List.cons_append, List.nil_append]
  congr 1
  rw [List.drop_eq_getElem_cons h]
  rfl
theorem half_k {xs : List (List D)} {k : Int} {i : Nat} (h : i < xs.length) : (markLL (xs.take (i + 1)) k).2 = (markL (xs.getD i []) (markLL (xs.take i) k).2).2 := by
  rw [take_succ h, markLL_app]
  simp [markLL]
theorem half_zero (xs : List (List D)) (k : Int) : half xs k 0 = xs := by simp [half, markLL]
theorem half_all (xs : List (List D)) (k : Int) : half xs k xs.length = (markLL xs k).1 := by simp [half]
theorem half_lv {xs : List (List D)} {k : Int} {i : Nat} (h : i ≤ xs.length) : (markLL (xs.take i) k).2 + lvLL (xs.drop i) = k + lvLL xs := by
  have h1 := markLL_k (xs.take i) k
  have h2 : ∀ (ys zs : List (List D)), lvLL (ys ++ zs) = lvLL ys + lvLL zs := by
    intro ys zs
    induction ys with
    | nil => simp [lvLL]
    | cons y ys ih => simp [lvLL, ih]; omega
  have h3 := h2 (xs.take i) (xs.drop i)
  rw [List.take_append_drop] at h3
  omega
theorem set_set2 (L : List (List D)) (i : Nat) (x y : List D) : (L.set i x).set i y = L.set i y := List.set_set ..
theorem getD_set2 {L : List (List D)} {i : Nat} (h : i < L.length) (x : List D) : (L.set i x).getD i [] = x := by simp [h]
theorem len_set2 (L : List (List D)) (i : Nat) (x : List D) : (L.set i x).length = L.length := List.length_set

mutual
theorem lnD_mark : ∀ (d : D) (k : Int), lnD d = true → lnD (markC d k).1 = true
  | .l sz xs, k, h => by
    rw [lnD_l] at h
    simp only [markC]
    rw [lnD_l]
    exact ⟨by rw [markLL_len]; exact h.1, lnLL_mark xs k h.2⟩
  | .b _, _, _ => rfl
  | .i _ _, _, _ => rfl
  | .s _, _, _ => rfl
  | .g _, _, _ => rfl
  | .f _ _, _, _ => rfl
  | .p _, _, _ => rfl
  | .n, _, _ => rfl
  | .t _, _, _ => rfl
  | .u, _, _ => rfl
theorem lnL_mark : ∀ (ds : List D) (k : Int), lnL ds = true → lnL (markL ds k).1 = true
  | [], _, _ => rfl
  | d :: ds, k, h => by
    rw [lnL_cons] at h
    simp only [markL]
    rw [lnL_cons]
    exact ⟨lnD_mark d k h.1, lnL_mark ds _ h.2⟩
theorem lnLL_mark : ∀ (xs : List (List D)) (k : Int), lnLL xs = true → lnLL (markLL xs k).1 = true
  | [], _, _ => rfl
  | x :: xs, k, h => by
    simp only [lnLL, Bool.and_eq_true] at h
    simp only [markLL, lnLL, Bool.and_eq_true]
    exact ⟨lnL_mark x k h.1, lnLL_mark xs _ h.2⟩
end
mutual
theorem lv_mark : ∀ (d : D) (k : Int), lv (markC d k).1 = lv d
  | .l sz xs, k => by simp only [markC, lv]; exact lvLL_mark xs k
  | .b _, _ => rfl
  | .i _ _, _ => rfl
  | .s _, _ => rfl
  | .g _, _ => rfl
  | .f _ _, _ => rfl
  | .p _, _ => rfl
  | .n, _ => rfl
  | .t _, _ => rfl
  | .u, _ => rfl
theorem lvL_mark : ∀ (ds : List D) (k : Int), lvL (markL ds k).1 = lvL ds
  | [], _ => rfl
  | d :: ds, k => by simp only [markL, lvL]; rw [lv_mark d k, lvL_mark ds]
theorem lvLL_mark : ∀ (xs : List (List D)) (k : Int), lvLL (markLL xs k).1 = lvLL xs
  | [], _ => rfl
  | x :: xs, k => by simp only [markLL, lvLL]; rw [lvL_mark x k, lvLL_mark xs]
end

theorem heldL_s1 {t : ByteArray} {ds : List D} {k : Int} (h : t = mtext k) (hk : 0 ≤ k) : heldL (.s t :: ds) k = heldL ds (k + 1) := by
  simp only [heldL, heldC, if_pos h]; rw [if_neg (by omega)]
theorem heldL_s0 {t : ByteArray} {ds : List D} {k : Int} (h : t ≠ mtext k) : heldL (.s t :: ds) k = -1 := by
  simp only [heldL, heldC, if_neg h]; rfl
theorem heldL_i1 {q : IntKind} {n : Int} {ds : List D} {k : Int} (h : n = k) (hk : 0 ≤ k) : heldL (.i q n :: ds) k = heldL ds (k + 1) := by
  simp only [heldL, heldC, if_pos h]; rw [if_neg (by omega)]
theorem heldL_i0 {q : IntKind} {n : Int} {ds : List D} {k : Int} (h : n ≠ k) : heldL (.i q n :: ds) k = -1 := by
  simp only [heldL, heldC, if_neg h]; rfl
theorem heldL_l1 {sz : Nat} {xs : List (List D)} {ds : List D} {k : Int} (h : ¬ heldLL xs k < 0) : heldL (.l sz xs :: ds) k = heldL ds (heldLL xs k) := by
  have e : heldC (.l sz xs) k = heldLL xs k := by simp only [heldC]
  rw [heldL, e, if_neg h]
theorem heldL_l0 {sz : Nat} {xs : List (List D)} {ds : List D} {k : Int} (h : heldLL xs k < 0) : heldL (.l sz xs :: ds) k = -1 := by
  have e : heldC (.l sz xs) k = heldLL xs k := by simp only [heldC]
  rw [heldL, e, if_pos h]
mutual
theorem heldC_k : ∀ (d : D) (k : Int), 0 ≤ heldC d k → heldC d k = k + lv d
  | .i _ n, k, h => by
    simp only [heldC, lv] at h ⊢
    split at h
    · rename_i e; rw [if_pos e]; rfl
    · omega
  | .s t, k, h => by
    simp only [heldC, lv] at h ⊢
    split at h
    · rename_i e; rw [if_pos e]; rfl
    · omega
  | .b v, k, h => by
    simp only [heldC, lv] at h ⊢
    split at h
    · rename_i e; rw [if_pos e]; rfl
    · omega
  | .l sz xs, k, h => by simp only [heldC, lv] at h ⊢; exact heldLL_k xs k h
  | .g cs, k, _ => by simp [heldC, lv]
  | .f fn caps, k, _ => by simp [heldC, lv]
  | .p cs, k, _ => by simp [heldC, lv]
  | .n, k, _ => by simp [heldC, lv]
  | .t vs, k, _ => by simp [heldC, lv]
  | .u, k, _ => by simp [heldC, lv]
theorem heldL_k : ∀ (ds : List D) (k : Int), 0 ≤ heldL ds k → heldL ds k = k + lvL ds
  | [], k, _ => by simp [heldL, lvL]
  | d :: ds, k, h => by
    simp only [heldL, lvL] at h ⊢
    split at h
    · omega
    · rename_i e
      rw [if_neg e]
      have h1 := heldC_k d k (by omega)
      have h2 := heldL_k ds _ h
      omega
theorem heldLL_k : ∀ (xs : List (List D)) (k : Int), 0 ≤ heldLL xs k → heldLL xs k = k + lvLL xs
  | [], k, _ => by simp [heldLL, lvLL]
  | x :: xs, k, h => by
    simp only [heldLL, lvLL] at h ⊢
    split at h
    · omega
    · rename_i e
      rw [if_neg e]
      have h1 := heldL_k x k (by omega)
      have h2 := heldLL_k xs _ h
      omega
end
end Go.Fs
