/- A part of the proof: an evaluator of the program's code over plain data, proved sound, and walks of the program's functions by it. No conditions beyond those in the theorems. -/
import Derived.SizedLaws
import Derived.ChangeArms
import Derived.DataReads
import Derived.Test.YtbgbnmghhmfihaaProg
import Derived.Test.YtbgbnmghhmfihaaLawIp7
set_option linter.unusedVariables false
namespace Go.Fs

theorem fill_len {xs : List (List D)} {z : List D} {i : Nat} (h : i ≤ xs.length) : (xs.take i ++ List.replicate (xs.length - i) z).length = xs.length := by
  simp; omega
theorem fill_get {xs : List (List D)} {z : List D} {i : Nat} (h : i < xs.length) : (xs.take i ++ List.replicate (xs.length - i) z).getD i [] = z := by
  have h1 : (xs.take i).length = i := by simp; omega
  simp only [List.getD_eq_getElem?_getD]
  rw [List.getElem?_append_right (by omega), h1, Nat.sub_self, List.getElem?_replicate, if_pos (by omega)]
  rfl
theorem fill_set {xs : List (List D)} {z : List D} {i : Nat} (h : i < xs.length) : (xs.take i ++ List.replicate (xs.length - i) z).set i (xs.getD i []) = xs.take (i + 1) ++ List.replicate (xs.length - (i + 1)) z := by
  have h1 : (xs.take i).length = i := by simp; omega
  rw [List.set_append_right _ _ (by omega), h1, Nat.sub_self]
  have h2 : xs.length - i = xs.length - (i + 1) + 1 := by omega
  rw [h2, List.replicate_succ, List.set_cons_zero]
  have h3 : xs.getD i [] = xs[i] := by simp [List.getElem?_eq_getElem h]
  rw [h3]
  have h4 : xs.take (i + 1) = xs.take i ++ [xs[i]] := by rw [List.take_add_one, List.getElem?_eq_getElem h]; rfl
  rw [h4, List.append_assoc]
  rfl
theorem fill_zero (xs : List (List D)) (z : List D) : xs.take 0 ++ List.replicate (xs.length - 0) z = List.replicate xs.length z := by simp
theorem fill_all (xs : List (List D)) (z : List D) : xs.take xs.length ++ List.replicate (xs.length - xs.length) z = xs := by simp

/-- A copy. -/
def toP (cs : List Sh) : List D → Option D
  | [.l sz xs] => if sz = cs.length ∧ shLL cs xs = true ∧ okLL xs = true ∧ xs.length + wtLL xs ≤ 1048576 then some (.l sz xs) else none
  | _ => none
def toG (cs : List Sh) : List D → Option D
  | [.g ds] => if shL cs ds = true ∧ okL ds = true ∧ wtL ds ≤ 1048576 then some (.g ds) else none
  | _ => none
theorem toP_inv {cs : List Sh} {ds : List D} {r : D} (h : toP cs ds = some r) : ∃ xs, ds = [.l cs.length xs] ∧ shLL cs xs = true ∧ okLL xs = true ∧ xs.length + wtLL xs ≤ 1048576 ∧ r = .l cs.length xs := by
  unfold toP at h
  split at h
  · split at h
    · rename_i hc
      obtain ⟨rfl, h1, h2, h3⟩ := hc
      simp only [Option.some.injEq] at h
      exact ⟨_, rfl, h1, h2, h3, h.symm⟩
    · cases h
  · cases h
theorem toG_inv {cs : List Sh} {ds : List D} {r : D} (h : toG cs ds = some r) : ∃ xs, ds = [.g xs] ∧ shL cs xs = true ∧ okL xs = true ∧ wtL xs ≤ 1048576 ∧ r = .g xs := by
  unfold toG at h
  split at h
  · split at h
    · rename_i hc
      obtain ⟨h1, h2, h3⟩ := hc
      simp only [Option.some.injEq] at h
      exact ⟨_, rfl, h1, h2, h3, h.symm⟩
    · cases h
  · cases h
theorem OkO_toP {cs : List Sh} {sz : Nat} {xs : List (List D)} {K : D → Prop} (hs : sz = cs.length) (h1 : shLL cs xs = true) (h2 : okLL xs = true) (h3 : xs.length + wtLL xs ≤ 1048576) (hk : K (.l sz xs)) : OkO (toP cs [.l sz xs]) K := by
  simp only [toP]; rw [if_pos ⟨hs, h1, h2, h3⟩]; exact hk
theorem OkO_toG {cs : List Sh} {ds : List D} {K : D → Prop} (h1 : shL cs ds = true) (h2 : okL ds = true) (h3 : wtL ds ≤ 1048576) (hk : K (.g ds)) : OkO (toG cs [.g ds]) K := by
  simp only [toG]; rw [if_pos ⟨h1, h2, h3⟩]; exact hk

/-- Whether two are the same. -/
def eqP (cs : List Sh) : List D → Option D
  | [.l sz xs, .l sz' ys] => if sz = cs.length ∧ sz' = cs.length ∧ shLL cs xs = true ∧ shLL cs ys = true ∧ okLL xs = true ∧ okLL ys = true ∧ xs.length ≤ 140737488355328 ∧ ys.length ≤ 140737488355328 then some (.b (eqLL xs ys)) else none
  | _ => none
def eqG (cs : List Sh) : List D → Option D
  | [.g xs, .g ys] => if shL cs xs = true ∧ shL cs ys = true ∧ okL xs = true ∧ okL ys = true then some (.b (eqL xs ys)) else none
  | _ => none
theorem eqP_inv {cs : List Sh} {ds : List D} {r : D} (h : eqP cs ds = some r) : ∃ xs ys, ds = [.l cs.length xs, .l cs.length ys] ∧ shLL cs xs = true ∧ shLL cs ys = true ∧ okLL xs = true ∧ okLL ys = true ∧ xs.length ≤ 140737488355328 ∧ ys.length ≤ 140737488355328 ∧ r = .b (eqLL xs ys) := by
  unfold eqP at h
  split at h
  · split at h
    · rename_i hc
      obtain ⟨rfl, rfl, h1, h2, h3, h4, h5, h6⟩ := hc
      simp only [Option.some.injEq] at h
      exact ⟨_, _, rfl, h1, h2, h3, h4, h5, h6, h.symm⟩
    · cases h
  · cases h
theorem eqG_inv {cs : List Sh} {ds : List D} {r : D} (h : eqG cs ds = some r) : ∃ xs ys, ds = [.g xs, .g ys] ∧ shL cs xs = true ∧ shL cs ys = true ∧ okL xs = true ∧ okL ys = true ∧ r = .b (eqL xs ys) := by
  unfold eqG at h
  split at h
  · split at h
    · rename_i hc
      obtain ⟨h1, h2, h3, h4⟩ := hc
      simp only [Option.some.injEq] at h
      exact ⟨_, _, rfl, h1, h2, h3, h4, h.symm⟩
    · cases h
  · cases h
theorem OkO_eqP {cs : List Sh} {sz sz' : Nat} {xs ys : List (List D)} {K : D → Prop} (hs : sz = cs.length) (hs' : sz' = cs.length) (h1 : shLL cs xs = true) (h2 : shLL cs ys = true) (h3 : okLL xs = true) (h4 : okLL ys = true) (h5 : xs.length ≤ 140737488355328) (h6 : ys.length ≤ 140737488355328) (hk : K (.b (eqLL xs ys))) : OkO (eqP cs [.l sz xs, .l sz' ys]) K := by
  simp only [eqP]; rw [if_pos ⟨hs, hs', h1, h2, h3, h4, h5, h6⟩]; exact hk
theorem OkO_eqG {cs : List Sh} {xs ys : List D} {K : D → Prop} (h1 : shL cs xs = true) (h2 : shL cs ys = true) (h3 : okL xs = true) (h4 : okL ys = true) (hk : K (.b (eqL xs ys))) : OkO (eqG cs [.g xs, .g ys]) K := by
  simp only [eqG]; rw [if_pos ⟨h1, h2, h3, h4⟩]; exact hk
theorem eqL_nil' : eqL [] [] = true := rfl
theorem eqL_cons' (c d : D) (cs ds : List D) : eqL (c :: cs) (d :: ds) = (eqD c d && eqL cs ds) := rfl
theorem eqD_s' (x y : ByteArray) : eqD (.s x) (.s y) = decide (x = y) := rfl
theorem eqD_l' (sz : Nat) (xs ys : List (List D)) : eqD (.l sz xs) (.l sz ys) = eqLL xs ys := by simp [eqD]
theorem eqD_i' (m n : Int) : eqD (.i .i64 m) (.i .i64 n) = decide (m = n) := by
  simp only [eqD, beq_self_eq_true, Bool.true_and]
  rfl
theorem eqD_b' (x y : Bool) : eqD (.b x) (.b y) = (x == y) := rfl

/-- The text of a mark. -/
def mtP : List D → Option D
  | [.i .i64 k] => if k ≤ 4611686018427387904 then some (.s (mtext k)) else none
  | _ => none
theorem mtP_inv {ds : List D} {r : D} (h : mtP ds = some r) : ∃ k, ds = [.i .i64 k] ∧ k ≤ 4611686018427387904 ∧ r = .s (mtext k) := by
  unfold mtP at h
  split at h
  · split at h
    · rename_i hc
      simp only [Option.some.injEq] at h
      exact ⟨_, rfl, hc, h.symm⟩
    · cases h
  · cases h
theorem OkO_mtP {k : Int} {K : D → Prop} (h : k ≤ 4611686018427387904) (hk : K (.s (mtext k))) : OkO (mtP [.i .i64 k]) K := by
  simp only [mtP]; rw [if_pos h]; exact hk
theorem wrapu8 {n : Int} (h1 : 0 ≤ n) (h2 : n < 256) : IntKind.u8.wrap n = n := by
  have e : (2 ^ IntKind.u8.bits : Int) = 256 := by decide
  have e3 : IntKind.u8.signed = false := rfl
  unfold IntKind.wrap
  rw [e, e3]
  simp only [Bool.false_and, Bool.false_eq_true, if_false]
  omega
theorem tmod10 (k : Nat) : (k : Int).tmod 10 = (k : Int) % 10 := Int.tmod_eq_emod_of_nonneg (by omega)
theorem tdiv10 (k : Nat) : (k : Int).tdiv 10 = ((k / 10 : Nat) : Int) := by
  rw [Int.tdiv_eq_ediv_of_nonneg (by omega)]; omega
theorem bytesS_one (n : Int) : (bytesS [n]).size = 1 := rfl
theorem mtGo_pos {k : Nat} {out : ByteArray} (h : 0 < k) : mtGo k out = mtGo (k / 10) (bytesS [48 + (k : Int) % 10] ++ out) := by
  rw [mtGo, dif_neg (by omega)]
theorem mtGo_zero (out : ByteArray) : mtGo 0 out = out := by rw [mtGo, dif_pos rfl]
theorem mtext_pos {k : Int} (h : 0 < k) : mtext k = ⟨#[109]⟩ ++ mtGo k.toNat .empty := if_neg (by omega)
theorem mtext_neg {k : Int} (h : k ≤ 0) : mtext k = ⟨#[109, 48]⟩ := if_pos h
theorem range_0 : List.range 0 = [] := rfl
theorem range_1 : List.range 1 = [0] := rfl
theorem range_2 : List.range 2 = [0, 1] := rfl
theorem chunk_0 (sz : Nat) (ds : List D) : chunk sz 0 ds = [] := rfl
theorem chunk_1 (sz : Nat) (ds : List D) : chunk sz 1 ds = [ds.take sz] := rfl
theorem chunk_2 (sz : Nat) (ds : List D) : chunk sz 2 ds = [ds.take sz, (ds.drop sz).take sz] := rfl
end Go.Fs

set_option linter.unusedVariables false
namespace Go.Fs

mutual
/-- No list in it is longer than memory could hold. -/
def lnD : D → Bool
  | .l _ xs => decide (xs.length ≤ maxD) && lnLL xs
  | _ => true
def lnL : List D → Bool
  | [] => true
  | d :: ds => lnD d && lnL ds
def lnLL : List (List D) → Bool
  | [] => true
  | x :: xs => lnL x && lnLL xs
end
theorem lnD_b (b : Bool) : (lnD (.b b) = true) = True := by simp [lnD]
theorem lnD_i (k : IntKind) (n : Int) : (lnD (.i k n) = true) = True := by simp [lnD]
theorem lnD_s (b : ByteArray) : (lnD (.s b) = true) = True := by simp [lnD]
theorem lnD_l (sz : Nat) (xs : List (List D)) : (lnD (.l sz xs) = true) = (xs.length ≤ 140737488355328 ∧ lnLL xs = true) := by
  apply propext
  show (decide (xs.length ≤ maxD) && lnLL xs) = true ↔ _
  rw [Bool.and_eq_true]
  exact and_congr_left fun _ => ⟨fun h => of_decide_eq_true h, fun h => decide_eq_true h⟩
theorem lnL_nil : (lnL [] = true) = True := by simp [lnL]
theorem lnL_cons (d : D) (ds : List D) : (lnL (d :: ds) = true) = (lnD d = true ∧ lnL ds = true) := by simp [lnL]
theorem lnLL_get : ∀ {xs : List (List D)} {i : Nat}, lnLL xs = true → i < xs.length → lnL (xs.getD i []) = true
  | [], i, _, h => by simp at h
  | x :: xs, 0, h, _ => by simp only [lnLL, Bool.and_eq_true] at h; exact h.1
  | x :: xs, i + 1, h, hi => by
    simp only [lnLL, Bool.and_eq_true] at h
    simpa using lnLL_get h.2 (i := i) (by simpa using hi)
mutual
theorem okD_ln : ∀ (d : D), okD d = true → lnD d = true
  | .l sz xs, h => by rw [okD_l] at h; rw [lnD_l]; exact ⟨h.1, okLL_ln xs h.2⟩
  | .b _, _ => rfl
  | .i _ _, _ => rfl
  | .s _, _ => rfl
  | .g _, _ => rfl
  | .f _ _, _ => rfl
  | .p _, _ => rfl
  | .n, _ => rfl
  | .t _, _ => rfl
  | .u, _ => rfl
theorem okL_ln : ∀ (ds : List D), okL ds = true → lnL ds = true
  | [], _ => rfl
  | d :: ds, h => by rw [okL_cons] at h; rw [lnL_cons]; exact ⟨okD_ln d h.1, okL_ln ds h.2⟩
theorem okLL_ln : ∀ (xs : List (List D)), okLL xs = true → lnLL xs = true
  | [], _ => rfl
  | x :: xs, h => by rw [okLL_cons] at h; simp only [lnLL, Bool.and_eq_true]; exact ⟨okL_ln x h.1, okLL_ln xs h.2⟩
end

/-! ### marks, element by element -/
def limK : Int := 2305843009213693952
/-- Whether the marks are held. -/
def heldP (cs : List Sh) : List D → Option D
  | [.l sz xs, .i .i64 k] => if sz = cs.length ∧ shLL cs xs = true ∧ xs.length ≤ 140737488355328 ∧ lnLL xs = true ∧ 0 ≤ k ∧ k + lvLL xs ≤ 2305843009213693952 then some (.i .i64 (heldLL xs k)) else none
  | _ => none
/-- Only the lists of a value are marked. -/
def heldS : List D → Int → Int
  | [], k => k
  | .l _ xs :: ds, k => if heldLL xs k < 0 then -1 else heldS ds (heldLL xs k)
  | _ :: ds, k => heldS ds k
def heldG (cs : List Sh) : List D → Option D
  | [.g ds, .i .i64 k] => if shL cs ds = true ∧ okL ds = true ∧ 0 ≤ k ∧ k + lvL ds ≤ 2305843009213693952 then some (.i .i64 (heldS ds k)) else none
  | _ => none
def markP (cs : List Sh) : D → List D → Option (D × D)
  | .l sz xs, [.i .i64 k] => if sz = cs.length ∧ shLL cs xs = true ∧ xs.length ≤ 140737488355328 ∧ lnLL xs = true ∧ 0 ≤ k ∧ k + lvLL xs ≤ 2305843009213693952 then some (.i .i64 (markLL xs k).2, .l sz (markLL xs k).1) else none
  | _, _ => none
def markS : List D → Int → List D × Int
  | [], k => ([], k)
  | .l sz xs :: ds, k => (.l sz (markLL xs k).1 :: (markS ds (markLL xs k).2).1, (markS ds (markLL xs k).2).2)
  | d :: ds, k => (d :: (markS ds k).1, (markS ds k).2)
def markG (cs : List Sh) : D → List D → Option (D × D)
  | .g ds, [.i .i64 k] => if shL cs ds = true ∧ okL ds = true ∧ 0 ≤ k ∧ k + lvL ds ≤ 2305843009213693952 then some (.i .i64 (markS ds k).2, .g (markS ds k).1) else none
  | _, _ => none
theorem heldP_inv {cs : List Sh} {ds : List D} {r : D} (h : heldP cs ds = some r) : ∃ xs k, ds = [.l cs.length xs, .i .i64 k] ∧ shLL cs xs = true ∧ xs.length ≤ 140737488355328 ∧ lnLL xs = true ∧ 0 ≤ k ∧ k + lvLL xs ≤ 2305843009213693952 ∧ r = .i .i64 (heldLL xs k) := by
  unfold heldP at h
  split at h
  · split at h
    · rename_i hc
      obtain ⟨rfl, h1, h2, h2', h3, h4⟩ := hc
      simp only [Option.some.injEq] at h
      exact ⟨_, _, rfl, h1, h2, h2', h3, h4, h.symm⟩
    · cases h
  · cases h
theorem markP_inv {cs : List Sh} {x : D} {ds : List D} {r : D × D} (h : markP cs x ds = some r) : ∃ xs k, x = .l cs.length xs ∧ ds = [.i .i64 k] ∧ shLL cs xs = true ∧ xs.length ≤ 140737488355328 ∧ lnLL xs = true ∧ 0 ≤ k ∧ k + lvLL xs ≤ 2305843009213693952 ∧ r = (.i .i64 (markLL xs k).2, .l cs.length (markLL xs k).1) := by
  unfold markP at h
  split at h
  · split at h
    · rename_i hc
      obtain ⟨rfl, h1, h2, h2', h3, h4⟩ := hc
      simp only [Option.some.injEq] at h
      exact ⟨_, _, rfl, rfl, h1, h2, h2', h3, h4, h.symm⟩
    · cases h
  · cases h
theorem OkO_heldP {cs : List Sh} {sz : Nat} {xs : List (List D)} {k : Int} {K : D → Prop} (hs : sz = cs.length) (h1 : shLL cs xs = true) (h2 : xs.length ≤ 140737488355328) (h2' : lnLL xs = true) (h3 : 0 ≤ k) (h4 : k + lvLL xs ≤ 2305843009213693952) (hk : K (.i .i64 (heldLL xs k))) : OkO (heldP cs [.l sz xs, .i .i64 k]) K := by
  simp only [heldP]; rw [if_pos ⟨hs, h1, h2, h2', h3, h4⟩]; exact hk
theorem OkO_markP {cs : List Sh} {sz : Nat} {xs : List (List D)} {k : Int} {K : D × D → Prop} (hs : sz = cs.length) (h1 : shLL cs xs = true) (h2 : xs.length ≤ 140737488355328) (h2' : lnLL xs = true) (h3 : 0 ≤ k) (h4 : k + lvLL xs ≤ 2305843009213693952) (hk : K (.i .i64 (markLL xs k).2, .l sz (markLL xs k).1)) : OkO (markP cs (.l sz xs) [.i .i64 k]) K := by
  simp only [markP]; rw [if_pos ⟨hs, h1, h2, h2', h3, h4⟩]; exact hk
def negOr (a b : Int) : Int := if a < 0 then -1 else b
theorem negOr_pos {a b : Int} (h : 0 ≤ a) : negOr a b = b := if_neg (by omega)
theorem negOr_neg (b : Int) : negOr (-1) b = -1 := rfl
theorem heldL_nil (k : Int) : heldL [] k = k := by simp only [heldL]
theorem heldLL_step : ∀ {xs : List (List D)} {i : Nat} {k : Int}, i < xs.length → heldLL (xs.drop i) k = negOr (heldL (xs.getD i []) k) (heldLL (xs.drop (i + 1)) (heldL (xs.getD i []) k))
  | [], i, k, h => by simp at h
  | x :: xs, 0, k, _ => by simp [heldLL, negOr]
  | x :: xs, i + 1, k, h => by simpa using heldLL_step (xs := xs) (i := i) (k := k) (by simpa using h)
theorem lvLL_step : ∀ {xs : List (List D)} {i : Nat}, i < xs.length → lvLL (xs.drop i) = lvL (xs.getD i []) + lvLL (xs.drop (i + 1))
  | [], i, h => by simp at h
  | x :: xs, 0, _ => by simp [lvLL]
  | x :: xs, i + 1, h => by simpa using lvLL_step (xs := xs) (i := i) (by simpa using h)
theorem markLL_len : ∀ (xs : List (List D)) (k : Int), (markLL xs k).1.length = xs.length
  | [], k => rfl
  | x :: xs, k => by simp [markLL, markLL_len xs]
theorem markLL_app : ∀ (xs ys : List (List D)) (k : Int), markLL (xs ++ ys) k = ((markLL xs k).1 ++ (markLL ys (markLL xs k).2).1, (markLL ys (markLL xs k).2).2)
  | [], ys, k => by simp [markLL]
  | x :: xs, ys, k => by simp [markLL, markLL_app xs ys]
theorem take_succ {xs : List (List D)} {i : Nat} (h : i < xs.length) : xs.take (i + 1) = xs.take i ++ [xs.getD i []] := by
  rw [List.take_add_one]
  simp [List.getElem?_eq_getElem h]
/-- The list while it is being marked. -/
def half (xs : List (List D)) (k : Int) (i : Nat) : List (List D) := (markLL (xs.take i) k).1 ++ xs.drop i
theorem half_len {xs : List (List D)} {k : Int} {i : Nat} (h : i ≤ xs.length) : (half xs k i).length = xs.length := by
  simp only [half, List.length_append, markLL_len, List.length_take, List.length_drop]; omega
theorem half_get {xs : List (List D)} {k : Int} {i : Nat} (h : i < xs.length) : (half xs k i).getD i [] = xs.getD i [] := by
  have h1 : (markLL (xs.take i) k).1.length = i := by rw [markLL_len, List.length_take]; omega
  simp only [half, List.getD_eq_getElem?_getD]
  rw [List.getElem?_append_right (by omega), h1, Nat.sub_self, List.getElem?_drop, Nat.add_zero]
theorem half_set {xs : List (List D)} {k : Int} {i : Nat} (h : i < xs.length) : (half xs k i).set i (markL (xs.getD i []) (markLL (xs.take i) k).2).1 = half xs k (i + 1) := by
  have h1 : (markLL (xs.take i) k).1.length = i := by rw [markLL_len, List.length_take]; omega
  simp only [half]
  rw [List.set_append_right _ _ (by omega), h1, Nat.sub_self, take_succ h, markLL_app]
  simp only [markLL, List.append_assoc, List.cons_append, List.nil_append]
  congr 1
  rw [List.drop_eq_getElem_cons h]
  rfl
theorem half_k {xs : List (List D)} {k : Int} {i : Nat} (h : i < xs.length) : (markLL (xs.take (i + 1)) k).2 = (markL (xs.getD i []) (markLL (xs.take i) k).2).2 := by
  rw [take_succ h, markLL_app]
  simp [markLL]
theorem half_zero (xs : List (List D)) (k : Int) : half xs k 0 = xs := by simp [half, markLL]
theorem half_all (xs : List (List D)) (k : Int) : half xs k xs.length = (markLL xs k).1 := by simp [half]
theorem half_lv {xs : List (List D)} {k : Int} {i : Nat} (h : i ≤ xs.length) : (markLL (xs.take i) k).2 + lvLL (xs.drop i) = k + lvLL xs := by
  have h1 := markLL_k (xs.take i) k
  have h2 : ∀ (ys zs : List (List D)), lvLL (ys ++ zs) = lvLL ys + lvLL zs := by
    intro ys zs
    induction ys with
    | nil => simp [lvLL]
    | cons y ys ih => simp [lvLL, ih]; omega
  have h3 := h2 (xs.take i) (xs.drop i)
  rw [List.take_append_drop] at h3
  omega
theorem set_set2 (L : List (List D)) (i : Nat) (x y : List D) : (L.set i x).set i y = L.set i y := List.set_set ..
theorem getD_set2 {L : List (List D)} {i : Nat} (h : i < L.length) (x : List D) : (L.set i x).getD i [] = x := by simp [h]
theorem len_set2 (L : List (List D)) (i : Nat) (x : List D) : (L.set i x).length = L.length := List.length_set

mutual
theorem lnD_mark : ∀ (d : D) (k : Int), lnD d = true → lnD (markC d k).1 = true
  | .l sz xs, k, h => by
    rw [lnD_l] at h
    simp only [markC]
    rw [lnD_l]
    exact ⟨by rw [markLL_len]; exact h.1, lnLL_mark xs k h.2⟩
  | .b _, _, _ => rfl
  | .i _ _, _, _ => rfl
  | .s _, _, _ => rfl
  | .g _, _, _ => rfl
  | .f _ _, _, _ => rfl
  | .p _, _, _ => rfl
  | .n, _, _ => rfl
  | .t _, _, _ => rfl
  | .u, _, _ => rfl
theorem lnL_mark : ∀ (ds : List D) (k : Int), lnL ds = true → lnL (markL ds k).1 = true
  | [], _, _ => rfl
  | d :: ds, k, h => by
    rw [lnL_cons] at h
    simp only [markL]
    rw [lnL_cons]
    exact ⟨lnD_mark d k h.1, lnL_mark ds _ h.2⟩
theorem lnLL_mark : ∀ (xs : List (List D)) (k : Int), lnLL xs = true → lnLL (markLL xs k).1 = true
  | [], _, _ => rfl
  | x :: xs, k, h => by
    simp only [lnLL, Bool.and_eq_true] at h
    simp only [markLL, lnLL, Bool.and_eq_true]
    exact ⟨lnL_mark x k h.1, lnLL_mark xs _ h.2⟩
end
mutual
theorem lv_mark : ∀ (d : D) (k : Int), lv (markC d k).1 = lv d
  | .l sz xs, k => by simp only [markC, lv]; exact lvLL_mark xs k
  | .b _, _ => rfl
  | .i _ _, _ => rfl
  | .s _, _ => rfl
  | .g _, _ => rfl
  | .f _ _, _ => rfl
  | .p _, _ => rfl
  | .n, _ => rfl
  | .t _, _ => rfl
  | .u, _ => rfl
theorem lvL_mark : ∀ (ds : List D) (k : Int), lvL (markL ds k).1 = lvL ds
  | [], _ => rfl
  | d :: ds, k => by simp only [markL, lvL]; rw [lv_mark d k, lvL_mark ds]
theorem lvLL_mark : ∀ (xs : List (List D)) (k : Int), lvLL (markLL xs k).1 = lvLL xs
  | [], _ => rfl
  | x :: xs, k => by simp only [markLL, lvLL]; rw [lvL_mark x k, lvLL_mark xs]
end

theorem heldL_s1 {t : ByteArray} {ds : List D} {k : Int} (h : t = mtext k) (hk : 0 ≤ k) : heldL (.s t :: ds) k = heldL ds (k + 1) := by
  simp only [heldL, heldC, if_pos h]; rw [if_neg (by omega)]
theorem heldL_s0 {t : ByteArray} {ds : List D} {k : Int} (h : t ≠ mtext k) : heldL (.s t :: ds) k = -1 := by
  simp only [heldL, heldC, if_neg h]; rfl
theorem heldL_i1 {q : IntKind} {n : Int} {ds : List D} {k : Int} (h : n = k) (hk : 0 ≤ k) : heldL (.i q n :: ds) k = heldL ds (k + 1) := by
  simp only [heldL, heldC, if_pos h]; rw [if_neg (by omega)]
theorem heldL_i0 {q : IntKind} {n : Int} {ds : List D} {k : Int} (h : n ≠ k) : heldL (.i q n :: ds) k = -1 := by
  simp only [heldL, heldC, if_neg h]; rfl
theorem heldL_l1 {sz : Nat} {xs : List (List D)} {ds : List D} {k : Int} (h : ¬ heldLL xs k < 0) : heldL (.l sz xs :: ds) k = heldL ds (heldLL xs k) := by
  have e : heldC (.l sz xs) k = heldLL xs k := by simp only [heldC]
  rw [heldL, e, if_neg h]
theorem heldL_l0 {sz : Nat} {xs : List (List D)} {ds : List D} {k : Int} (h : heldLL xs k < 0) : heldL (.l sz xs :: ds) k = -1 := by
  have e : heldC (.l sz xs) k = heldLL xs k := by simp only [heldC]
  rw [heldL, e, if_pos h]
mutual
theorem heldC_k : ∀ (d : D) (k : Int), 0 ≤ heldC d k → heldC d k = k + lv d
  | .i _ n, k, h => by
    simp only [heldC, lv] at h ⊢
    split at h
    · rename_i e; rw [if_pos e]; rfl
    · omega
  | .s t, k, h => by
    simp only [heldC, lv] at h ⊢
    split at h
    · rename_i e; rw [if_pos e]; rfl
    · omega
  | .b v, k, h => by
    simp only [heldC, lv] at h ⊢
    split at h
    · rename_i e; rw [if_pos e]; rfl
    · omega
  | .l sz xs, k, h => by simp only [heldC, lv] at h ⊢; exact heldLL_k xs k h
  | .g cs, k, _ => by simp [heldC, lv]
  | .f fn caps, k, _ => by simp [heldC, lv]
  | .p cs, k, _ => by simp [heldC, lv]
  | .n, k, _ => by simp [heldC, lv]
  | .t vs, k, _ => by simp [heldC, lv]
  | .u, k, _ => by simp [heldC, lv]
theorem heldL_k : ∀ (ds : List D) (k : Int), 0 ≤ heldL ds k → heldL ds k = k + lvL ds
  | [], k, _ => by simp [heldL, lvL]
  | d :: ds, k, h => by
    simp only [heldL, lvL] at h ⊢
    split at h
    · omega
    · rename_i e
      rw [if_neg e]
      have h1 := heldC_k d k (by omega)
      have h2 := heldL_k ds _ h
      omega
theorem heldLL_k : ∀ (xs : List (List D)) (k : Int), 0 ≤ heldLL xs k → heldLL xs k = k + lvLL xs
  | [], k, _ => by simp [heldLL, lvLL]
  | x :: xs, k, h => by
    simp only [heldLL, lvLL] at h ⊢
    split at h
    · omega
    · rename_i e
      rw [if_neg e]
      have h1 := heldL_k x k (by omega)
      have h2 := heldLL_k xs _ h
      omega
end

/-- Shapes without texts and lists. -/
def shZ : List Sh → Bool
  | [] => true
  | .i :: cs => shZ cs
  | .b :: cs => shZ cs
  | _ => false
theorem wtL0 : ∀ {cs : List Sh} {ds : List D}, shL cs ds = true → shZ cs = true → wtL ds = 0
  | [], ds, h, _ => by obtain rfl := shL_nil h; rfl
  | .i :: cs, ds, h, hz => by
    obtain ⟨d, q, rfl, e1, e2⟩ := shL_cons h
    obtain ⟨n, rfl⟩ := shD_i e1
    have := wtL0 e2 (by simpa [shZ] using hz)
    simp [wtL, wt, this]
  | .b :: cs, ds, h, hz => by
    obtain ⟨d, q, rfl, e1, e2⟩ := shL_cons h
    obtain ⟨n, rfl⟩ := shD_b e1
    have := wtL0 e2 (by simpa [shZ] using hz)
    simp [wtL, wt, this]
  | .s :: _, _, _, hz => by simp [shZ] at hz
  | .t :: _, _, _, hz => by simp [shZ] at hz
  | .l _ :: _, _, _, hz => by simp [shZ] at hz
theorem wt0 {cs : List Sh} : ∀ {xs : List (List D)}, shLL cs xs = true → shZ cs = true → wtLL xs = 0
  | [], _, _ => rfl
  | x :: xs, h, hz => by
    simp only [shLL, Bool.and_eq_true] at h
    simp only [wtLL, wtL0 h.1 hz, wt0 h.2 hz]
theorem wt_i (k : IntKind) (n : Int) : wt (.i k n) = 0 := by simp [wt]
theorem wt_b (b : Bool) : wt (.b b) = 0 := by simp [wt]
theorem markG_inv {cs : List Sh} {x : D} {ds : List D} {r : D × D} (h : markG cs x ds = some r) : ∃ xs k, x = .g xs ∧ ds = [.i .i64 k] ∧ shL cs xs = true ∧ okL xs = true ∧ 0 ≤ k ∧ k + lvL xs ≤ 2305843009213693952 ∧ r = (.i .i64 (markS xs k).2, .g (markS xs k).1) := by
  unfold markG at h
  split at h
  · split at h
    · rename_i hc
      obtain ⟨h1, h2, h3, h4⟩ := hc
      simp only [Option.some.injEq] at h
      exact ⟨_, _, rfl, rfl, h1, h2, h3, h4, h.symm⟩
    · cases h
  · cases h
theorem OkO_markG {cs : List Sh} {xs : List D} {k : Int} {K : D × D → Prop} (h1 : shL cs xs = true) (h2 : okL xs = true) (h3 : 0 ≤ k) (h4 : k + lvL xs ≤ 2305843009213693952) (hk : K (.i .i64 (markS xs k).2, .g (markS xs k).1)) : OkO (markG cs (.g xs) [.i .i64 k]) K := by
  simp only [markG]; rw [if_pos ⟨h1, h2, h3, h4⟩]; exact hk
end Go.Fs

set_option linter.unusedVariables false
namespace Go.Fs

/-! ### of each name the last record -/
def nameOf : List D → ByteArray
  | .s t :: _ => t
  | _ => .empty
def keepS : List (List D) → List (List D)
  | [] => []
  | x :: xs => if xs.all (fun y => !decide (nameOf y = nameOf x)) = true then x :: keepS xs else keepS xs
theorem drop_get {xs : List (List D)} {i : Nat} (h : i < xs.length) : xs.drop i = xs.getD i [] :: xs.drop (i + 1) := by
  rw [List.drop_eq_getElem_cons h]
  simp [List.getElem?_eq_getElem h]
theorem keepS_step {xs : List (List D)} {i : Nat} (h : i < xs.length) : keepS (xs.drop i) = if (xs.drop (i + 1)).all (fun y => !decide (nameOf y = nameOf (xs.getD i []))) = true then xs.getD i [] :: keepS (xs.drop (i + 1)) else keepS (xs.drop (i + 1)) := by
  rw [drop_get h, keepS]
theorem scal_s : ∀ {xs : List (List D)}, shLL [.s] xs = true → (xs.all fun x => x.all scal) = true
  | [], _ => rfl
  | x :: xs, h => by
    simp only [shLL, Bool.and_eq_true] at h
    obtain ⟨c, q, rfl, e, h2⟩ := shL_cons h.1
    obtain rfl := shL_nil h2
    obtain ⟨t, rfl⟩ := shD_s e
    simp only [List.all_cons, List.all_nil, scal, Bool.and_true, Bool.true_and]
    exact scal_s h.2
theorem scal_i : ∀ {xs : List (List D)}, shLL [.i] xs = true → (xs.all fun x => x.all scal) = true
  | [], _ => rfl
  | x :: xs, h => by
    simp only [shLL, Bool.and_eq_true] at h
    obtain ⟨c, q, rfl, e, h2⟩ := shL_cons h.1
    obtain rfl := shL_nil h2
    obtain ⟨t, rfl⟩ := shD_i e
    simp only [List.all_cons, List.all_nil, scal, Bool.and_true, Bool.true_and]
    exact scal_i h.2

def kvUp (xs : List (List D)) : Nat → List (ByteArray × D)
  | 0 => []
  | n + 1 => kvSet (kvUp xs n) (nameOf (xs.getD n [])) (.i .i64 n)
def lastI (xs : List (List D)) : Nat → ByteArray → Option Nat
  | 0, _ => none
  | n + 1, t => if t = nameOf (xs.getD n []) then some n else lastI xs n t
theorem kvGet_set : ∀ (kv : List (ByteArray × D)) (k k' : ByteArray) (d : D), kvGet (kvSet kv k d) k' = if k' = k then some d else kvGet kv k'
  | [], k, k', d => by simp [kvSet, kvGet]
  | x :: kv, k, k', d => by
    simp only [kvSet]
    by_cases h : k = x.1
    · rw [if_pos h]
      simp only [kvGet, ← h]
      by_cases h2 : k' = k <;> simp [h2]
    · rw [if_neg h]
      simp only [kvGet]
      by_cases h2 : k' = x.1
      · rw [if_pos h2, if_pos h2, if_neg (fun e : k' = k => h (e.symm.trans h2))]
      · rw [if_neg h2, if_neg h2, kvGet_set kv k k' d]
theorem kvUp_get (xs : List (List D)) : ∀ (n : Nat) (t : ByteArray), kvGet (kvUp xs n) t = (lastI xs n t).map fun j => .i .i64 j
  | 0, t => rfl
  | n + 1, t => by
    simp only [kvUp, lastI]
    rw [kvGet_set, kvUp_get xs n t]
    split <;> rfl
theorem lastI_lt (xs : List (List D)) : ∀ (n : Nat) (t : ByteArray) (j : Nat), lastI xs n t = some j → j < n
  | 0, _, _, h => by cases h
  | n + 1, t, j, h => by
    simp only [lastI] at h
    split at h
    · simp only [Option.some.injEq] at h; omega
    · have := lastI_lt xs n t j h; omega
theorem lastI_some (xs : List (List D)) : ∀ (n : Nat) (i : Nat), i < n → ∃ j, lastI xs n (nameOf (xs.getD i [])) = some j ∧ i ≤ j ∧ j < n ∧ (j = i ↔ ∀ m, i < m → m < n → nameOf (xs.getD m []) ≠ nameOf (xs.getD i []))
  | 0, i, h => by omega
  | n + 1, i, h => by
    simp only [lastI]
    by_cases he : nameOf (xs.getD i []) = nameOf (xs.getD n [])
    · rw [if_pos he]
      refine ⟨n, rfl, by omega, by omega, ?_, ?_⟩
      · intro e m h1 h2; omega
      · intro hm
        by_cases e : i = n
        · exact e.symm
        · exact absurd he.symm (hm n (by omega) (by omega))
    · rw [if_neg he]
      have hin : i ≠ n := fun e => he (by rw [e])
      obtain ⟨j, h1, h2, h3, h4⟩ := lastI_some xs n i (by omega)
      refine ⟨j, h1, h2, by omega, h4.trans ⟨fun hm m a b => ?_, fun hm m a b => hm m a (by omega)⟩⟩
      by_cases e : m = n
      · subst e; exact fun e2 => he e2.symm
      · exact hm m a (by omega)
theorem all_drop {xs : List (List D)} {p : List D → Bool} {i : Nat} : (xs.drop i).all p = true ↔ ∀ m, i ≤ m → m < xs.length → p (xs.getD m []) = true := by
  rw [List.all_eq_true]
  constructor
  · intro h m h1 h2
    refine h _ ?_
    have : xs.getD m [] = xs[m] := by simp [List.getElem?_eq_getElem h2]
    rw [this, List.mem_iff_getElem]
    exact ⟨m - i, by simp; omega, by simp; congr 1; omega⟩
  · intro h x hx
    obtain ⟨k, hk, rfl⟩ := List.mem_iff_getElem.1 hx
    simp only [List.length_drop] at hk
    have := h (i + k) (by omega) (by omega)
    have e : xs.getD (i + k) [] = xs[i + k] := by simp [List.getElem?_eq_getElem (show i + k < xs.length by omega)]
    rw [e] at this
    simpa using this
/-- The map's answer and the search's agree. -/
theorem last_iff {xs : List (List D)} {i : Nat} (h : i < xs.length) : ∃ j, kvGet (kvUp xs xs.length) (nameOf (xs.getD i [])) = some (.i .i64 (j : Nat)) ∧ j < xs.length ∧ ((j = i) ↔ (xs.drop (i + 1)).all (fun y => !decide (nameOf y = nameOf (xs.getD i []))) = true) := by
  obtain ⟨j, h1, h2, h3, h4⟩ := lastI_some xs xs.length i h
  refine ⟨j, by rw [kvUp_get, h1]; rfl, h3, h4.trans ?_⟩
  rw [all_drop]
  refine ⟨fun hm m a b => by simpa using hm m (by omega) b, fun hm m a b => by simpa using hm m (by omega) b⟩
def trimR (xs : List (List D)) : List (List D) := if 10000 < xs.length then [] else keepS xs
/-- The last records. -/
def trimP (cs : List Sh) : List D → Option D
  | [.l sz xs] => if sz = cs.length ∧ shLL cs xs = true ∧ okLL xs = true ∧ xs.length + wtLL xs ≤ 1048576 then some (.l sz (trimR xs)) else none
  | _ => none
theorem trimP_inv {cs : List Sh} {ds : List D} {r : D} (h : trimP cs ds = some r) : ∃ xs, ds = [.l cs.length xs] ∧ shLL cs xs = true ∧ okLL xs = true ∧ xs.length + wtLL xs ≤ 1048576 ∧ r = .l cs.length (trimR xs) := by
  unfold trimP at h
  split at h
  · split at h
    · rename_i hc
      obtain ⟨rfl, h1, h2, h3⟩ := hc
      simp only [Option.some.injEq] at h
      exact ⟨_, rfl, h1, h2, h3, h.symm⟩
    · cases h
  · cases h
theorem OkO_trimP {cs : List Sh} {sz : Nat} {xs : List (List D)} {K : D → Prop} (hs : sz = cs.length) (h1 : shLL cs xs = true) (h2 : okLL xs = true) (h3 : xs.length + wtLL xs ≤ 1048576) (hk : K (.l sz (trimR xs))) : OkO (trimP cs [.l sz xs]) K := by
  simp only [trimP]; rw [if_pos ⟨hs, h1, h2, h3⟩]; exact hk
def keepP (cs : List Sh) : List D → Option D
  | [.l sz xs] => if sz = cs.length ∧ shLL cs xs = true ∧ okLL xs = true ∧ xs.length + wtLL xs ≤ 1048576 then some (.l sz (keepS xs)) else none
  | _ => none
theorem keepP_inv {cs : List Sh} {ds : List D} {r : D} (h : keepP cs ds = some r) : ∃ xs, ds = [.l cs.length xs] ∧ shLL cs xs = true ∧ okLL xs = true ∧ xs.length + wtLL xs ≤ 1048576 ∧ r = .l cs.length (keepS xs) := by
  unfold keepP at h
  split at h
  · split at h
    · rename_i hc
      obtain ⟨rfl, h1, h2, h3⟩ := hc
      simp only [Option.some.injEq] at h
      exact ⟨_, rfl, h1, h2, h3, h.symm⟩
    · cases h
  · cases h
theorem OkO_keepP {cs : List Sh} {sz : Nat} {xs : List (List D)} {K : D → Prop} (hs : sz = cs.length) (h1 : shLL cs xs = true) (h2 : okLL xs = true) (h3 : xs.length + wtLL xs ≤ 1048576) (hk : K (.l sz (keepS xs))) : OkO (keepP cs [.l sz xs]) K := by
  simp only [keepP]; rw [if_pos ⟨hs, h1, h2, h3⟩]; exact hk
end Go.Fs

set_option linter.unusedVariables false
namespace Go.Fs

/-! ### marks are not many -/
mutual
def shW : Sh → Bool
  | .l cs => decide (cs.length ≤ 16) && shWL cs
  | _ => true
def shWL : List Sh → Bool
  | [] => true
  | c :: cs => shW c && shWL cs
end
mutual
theorem lv_le : ∀ (c : Sh) (d : D), shD c d = true → shW c = true → lv d ≤ 16 * wt d + 1
  | c, .b _, _, _ => by simp [lv]
  | c, .i _ _, _, _ => by simp [lv]
  | c, .s _, _, _ => by simp [lv]
  | .l cs, .l sz xs, h, hw => by
    simp only [shD, Bool.and_eq_true] at h
    simp only [shW, Bool.and_eq_true, decide_eq_true_eq] at hw
    have := lvLL_le cs xs h.2 hw.1 hw.2
    simp only [lv, wt]; omega
  | .t, .l sz xs, h, hw => by
    simp only [shD, Bool.and_eq_true] at h
    have := lvLL_le treeS xs h.2 (by decide) (by decide)
    simp only [lv, wt]; omega
  | .b, .l sz xs, h, _ => by simp [shD] at h
  | .i, .l sz xs, h, _ => by simp [shD] at h
  | .s, .l sz xs, h, _ => by simp [shD] at h
  | c, .g cs, _, _ => by simp [lv]
  | c, .f fn caps, _, _ => by simp [lv]
  | c, .p cs, _, _ => by simp [lv]
  | c, .n, _, _ => by simp [lv]
  | c, .t vs, _, _ => by simp [lv]
  | c, .u, _, _ => by simp [lv]
theorem lvL_le : ∀ (cs : List Sh) (ds : List D), shL cs ds = true → shWL cs = true → lvL ds ≤ 16 * wtL ds + cs.length
  | [], [], _, _ => by simp [lvL]
  | c :: cs, d :: ds, h, hw => by
    simp only [shL, Bool.and_eq_true] at h
    simp only [shWL, Bool.and_eq_true] at hw
    have h1 := lv_le c d h.1 hw.1
    have h2 := lvL_le cs ds h.2 hw.2
    simp only [lvL, wtL, List.length_cons]; omega
  | [], _ :: _, h, _ => by simp [shL] at h
  | _ :: _, [], h, _ => by simp [shL] at h
theorem lvLL_le : ∀ (cs : List Sh) (xs : List (List D)), shLL cs xs = true → cs.length ≤ 16 → shWL cs = true → lvLL xs ≤ 16 * (xs.length + wtLL xs)
  | cs, [], _, _, _ => by simp [lvLL]
  | cs, x :: xs, h, hl, hw => by
    simp only [shLL, Bool.and_eq_true] at h
    have h1 := lvL_le cs x h.1 hw
    have h2 := lvLL_le cs xs h.2 hl hw
    simp only [lvLL, wtLL, List.length_cons]; omega
end

/-! ### part of a list -/
theorem sh_sub {cs : List Sh} : ∀ {ys xs : List (List D)}, ys.Sublist xs → shLL cs xs = true → shLL cs ys = true
  | _, _, .slnil, _ => rfl
  | _, _, .cons x h, hx => by simp only [shLL, Bool.and_eq_true] at hx; exact sh_sub h hx.2
  | _, _, .cons_cons x h, hx => by simp only [shLL, Bool.and_eq_true] at hx ⊢; exact ⟨hx.1, sh_sub h hx.2⟩
theorem ok_sub : ∀ {ys xs : List (List D)}, ys.Sublist xs → okLL xs = true → okLL ys = true
  | _, _, .slnil, _ => rfl
  | _, _, .cons x h, hx => by simp only [okLL, Bool.and_eq_true] at hx; exact ok_sub h hx.2
  | _, _, .cons_cons x h, hx => by simp only [okLL, Bool.and_eq_true] at hx ⊢; exact ⟨hx.1, ok_sub h hx.2⟩
theorem wt_sub : ∀ {ys xs : List (List D)}, ys.Sublist xs → wtLL ys ≤ wtLL xs
  | _, _, .slnil => Nat.le_refl _
  | _, _, .cons x h => by have := wt_sub h; simp only [wtLL]; omega
  | _, _, .cons_cons x h => by have := wt_sub h; simp only [wtLL]; omega
theorem keepS_sub : ∀ (xs : List (List D)), (keepS xs).Sublist xs
  | [] => .slnil
  | x :: xs => by
    simp only [keepS]
    split
    · exact (keepS_sub xs).cons_cons x
    · exact (keepS_sub xs).cons x
theorem trimR_sub (xs : List (List D)) : (trimR xs).Sublist xs := by
  unfold trimR
  split
  · exact List.nil_sublist xs
  · exact keepS_sub xs

/-- What a law function gives. -/
def lawP (cs : List Sh) : List D → Option D
  | [.l sz xs] => if sz = cs.length ∧ shLL cs xs = true ∧ okLL xs = true ∧ xs.length ≤ 140737488355328 then some (.b true) else none
  | _ => none
theorem lawP_inv {cs : List Sh} {ds : List D} {r : D} (h : lawP cs ds = some r) : ∃ xs, ds = [.l cs.length xs] ∧ shLL cs xs = true ∧ okLL xs = true ∧ xs.length ≤ 140737488355328 ∧ r = .b true := by
  unfold lawP at h
  split at h
  · split at h
    · rename_i hc
      obtain ⟨rfl, h1, h2, h3⟩ := hc
      simp only [Option.some.injEq] at h
      exact ⟨_, rfl, h1, h2, h3, h.symm⟩
    · cases h
  · cases h
end Go.Fs

set_option linter.unusedVariables false
namespace Go.Fs
open Go.RowKit

/-! ### from a claim's reading of an argument to a datum -/
mutual
/-- A type's shape. -/
inductive HS (P : Program) : TypeId → List Sh → Prop
  | b (t : TypeId) (h : P.underlying t = some .bool) : HS P t [.b]
  | i (t : TypeId) (h : P.underlying t = some (.int .i64)) : HS P t [.i]
  | s (t : TypeId) (h : P.underlying t = some .string) : HS P t [.s]
  | l (t e : TypeId) (css : List Sh) (h : P.underlying t = some (.slice e)) (hc : P.cellsOf e = css.length) (hb : 1 ≤ P.bytesOf e) (hp : 0 < css.length) (he : HS P e css) : HS P t [.l css]
  | t (t e : TypeId) (fs : Array Field) (h : P.underlying t = some (.slice e)) (hc : P.cellsOf e = 5) (hb : 1 ≤ P.bytesOf e) (hs : P.underlying e = some (.struct fs)) (hf : HSF P [t] fs.toList 0 treeS) : HS P t [.t]
  | st (t : TypeId) (fs : Array Field) (css : List Sh) (h : P.underlying t = some (.struct fs)) (hc : P.cellsOf t = css.length) (hf : HSF P [] fs.toList 0 css) : HS P t css
/-- The shape of fields; 'rec': a type whose shape is being told. -/
inductive HSF (P : Program) : List TypeId → List Field → Nat → List Sh → Prop
  | nil (rec : List TypeId) (o : Nat) : HSF P rec [] o []
  | cons (rec : List TypeId) (f : Field) (fs : List Field) (o : Nat) (c1 c2 : List Sh) (hoff : f.offset = o) (hsz : P.cellsOf f.type = c1.length) (h : HS P f.type c1) (hs : HSF P rec fs (o + c1.length) c2) : HSF P rec (f :: fs) o (c1 ++ c2)
  | self (f : Field) (fs : List Field) (o : Nat) (c2 : List Sh) (hoff : f.offset = o) (hsz : P.cellsOf f.type = 1) (hs : HSF P [f.type] fs (o + 1) c2) : HSF P [f.type] (f :: fs) o (.t :: c2)
end

section
variable {H : Type} {enc : TypeId × Value → H} {P : Program} {w : World} {spare : Nat → Bool} {held : Bool}

/-- What is read of a list of cells. -/
def RdOK (w : World) (cs : List Value) (css : List Sh) : Prop := ∃ ds S, TrL w false cs ds S ∧ (∀ v ∈ cs, v.oneCell' = true) ∧ shL css ds = true ∧ okL ds = true

theorem RdOK.append {cs cs' : List Value} {css css' : List Sh} (h : RdOK w cs css) (h' : RdOK w cs' css') : RdOK w (cs ++ cs') (css ++ css') := by
  obtain ⟨ds, S, h1, h2, h3, h4⟩ := h
  obtain ⟨ds', S', h1', h2', h3', h4'⟩ := h'
  refine ⟨ds ++ ds', S ++ S', h1.append h1', fun v hv => ?_, ?_, ?_⟩
  · rcases List.mem_append.1 hv with hv | hv
    · exact h2 v hv
    · exact h2' v hv
  · clear h1 h2 h4
    induction css generalizing ds with
    | nil => obtain rfl := shL_nil h3; exact h3'
    | cons c css ih =>
      obtain ⟨d, q, rfl, e1, e2⟩ := shL_cons h3
      simp only [List.cons_append, shL, Bool.and_eq_true]
      exact ⟨e1, ih q e2⟩
  · clear h1 h3
    induction ds with
    | nil => exact h4'
    | cons d ds ih =>
      rw [okL_cons] at h4
      simp only [List.cons_append]
      rw [okL_cons]
      exact ⟨h4.1, ih h4.2⟩

theorem wf_i64 {n : Int} (h : (Lit.int .i64 n).wf = true) : okD (.i .i64 n) = true := by
  rw [okD_i]
  simp only [Lit.wf, Bool.and_eq_true, decide_eq_true_eq] at h
  have e1 : IntKind.i64.min = -9223372036854775808 := by decide
  have e2 : IntKind.i64.max = 9223372036854775807 := by decide
  rw [e1, e2] at h
  omega

theorem weights_all {e : TypeId} : ∀ {l : List (DataW H)}, (DataW.weightsAll P e l).all (· ≤ reachBytes) = true → ∀ d ∈ l, (d.weights P e).all (· ≤ reachBytes) = true
  | [], _, d, hd => by cases hd
  | x :: l, h, d, hd => by
    simp only [DataW.weightsAll, List.all_append, Bool.and_eq_true] at h
    rcases List.mem_cons.1 hd with rfl | hd
    · exact h.1
    · exact weights_all h.2 d hd

theorem cell_addr {a : Addr} {v : Value} (h : w.cell? a = some v) : ∃ cur el fr, w.heap[a.block]? = some (.cells cur el fr) ∧ a.spot = none ∧ cur[a.off]? = some v := by
  unfold World.cell? at h
  split at h
  · rename_i c el fr hg
    split at h
    · cases h
    · rename_i hs
      exact ⟨c, el, fr, hg, by simpa using hs, h⟩
  · cases h

theorem addr_add (a : Addr) (m n : Nat) : (a.add m).add n = a.add (m + n) := by
  obtain ⟨b, o, s⟩ := a
  unfold Addr.add
  by_cases h1 : m = 0 <;> by_cases h2 : n = 0 <;> simp [h1, h2, Nat.add_assoc]

/-- A list that is read. -/
theorem rd_slice {t e : TypeId} {css : List Sh} (ht : P.underlying t = some (.slice e)) (hc : P.cellsOf e = css.length) (hb : 1 ≤ P.bytesOf e) (hp : 0 < css.length) {n : Nat}
    (ih : ∀ (m : Nat), m < n → ∀ cs (x : DataW H × List MemPlace), DataW.trod enc P w 0 spare held m e cs = some x → (x.1.weights P e).all (· ≤ reachBytes) = true → RdOK w cs css)
    {cs : List Value} {x : DataW H × List MemPlace} (h : DataW.trod enc P w 0 spare held n t cs = some x) (hw : (x.1.weights P t).all (· ≤ reachBytes) = true) :
    ∃ xs S v, cs = [v] ∧ Tr w false v (.l css.length xs) S ∧ v.oneCell' = true ∧ shLL css xs = true ∧ okLL xs = true ∧ xs.length ≤ 140737488355328 := by
  rcases DataW.trod_slice ht h with ⟨rfl, rfl⟩ | ⟨a, len, cap, elems, rest, m, rfl, rfl, rfl, hb0, hl, hm, hel, hx, _, _⟩
  · exact ⟨[], [], _, rfl, .z none 0 _ (by simp), rfl, rfl, rfl, Nat.zero_le _⟩
  · -- element by element
    simp only [DataW.weights, ht, List.all_cons, List.all_append, Bool.and_eq_true, decide_eq_true_eq] at hw
    obtain ⟨hw1, hw2, _⟩ := hw
    have hlen : len ≤ 140737488351232 := by
      have h1 : len ≤ len * P.bytesOf e := Nat.le_mul_of_pos_right _ (by omega)
      have h2 : (elems.map (·.1)).length = len := by rw [List.length_map, hel]
      rw [h2] at hw1
      have h3 : len * P.bytesOf e ≤ (len + (rest.map (·.1)).length) * P.bytesOf e := Nat.mul_le_mul_right _ (by omega)
      have h4 : reachBytes = 140737488351232 := by decide
      omega
    have step : ∀ k, k ≤ len → ∃ vs xs S, TrL w false vs xs.flatten S ∧ (∀ v ∈ vs, v.oneCell' = true) ∧ vs.length = k * css.length ∧ xs.length = k ∧ shLL css xs = true ∧ okLL xs = true ∧ ∀ j v, vs[j]? = some v → w.cell? (a.add j) = some v := by
      intro k
      induction k with
      | zero => intro _; exact ⟨[], [], [], .nil, by simp, by simp, rfl, rfl, rfl, by simp⟩
      | succ k ihk =>
        intro hk
        obtain ⟨vs, xs, S, a1, a2, a3, a4, a5, a6, a7⟩ := ihk (by omega)
        have hk' : k < elems.length := by omega
        have hxk := hx k (by omega)
        rw [List.getElem?_eq_getElem hk'] at hxk
        obtain ⟨cs', c1, c2⟩ := Option.bind_eq_some_iff.1 hxk
        obtain ⟨ds, S', b1, b2, b3, b4⟩ := ih m (Nat.lt_succ_self m) cs' _ c2 (weights_all hw2 _ (List.mem_map.2 ⟨_, List.getElem_mem hk', rfl⟩))
        obtain ⟨_, d2, d3⟩ := World.cells?_some c1
        refine ⟨vs ++ cs', xs ++ [ds], S ++ S', ?_, ?_, ?_, ?_, ?_, ?_, ?_⟩
        · rw [List.flatten_append]; simpa using a1.append b1
        · intro v hv
          rcases List.mem_append.1 hv with hv | hv
          · exact a2 v hv
          · exact b2 v hv
        · rw [List.length_append, a3, d2, hc, Nat.succ_mul]
        · simp [a4]
        · clear a1 a4 a6 a7
          induction xs with
          | nil => simp only [List.nil_append, shLL, Bool.and_eq_true]; exact ⟨b3, trivial⟩
          | cons y ys ihy => simp only [List.cons_append, shLL, Bool.and_eq_true] at a5 ⊢; exact ⟨a5.1, ihy a5.2⟩
        · clear a1 a4 a5 a7
          induction xs with
          | nil => simp only [List.nil_append, okLL, Bool.and_eq_true]; exact ⟨b4, trivial⟩
          | cons y ys ihy => simp only [List.cons_append, okLL, Bool.and_eq_true] at a6 ⊢; exact ⟨a6.1, ihy a6.2⟩
        · intro j v hj
          by_cases hjl : j < vs.length
          · rw [List.getElem?_append_left hjl] at hj; exact a7 j v hj
          · rw [List.getElem?_append_right (by omega)] at hj
            have hlt : j - vs.length < cs'.length := (List.getElem?_eq_some_iff.1 hj).1
            have := d3 (j - vs.length) (by omega)
            rw [hj] at this
            rw [← this, hc, addr_add]
            congr 2
            omega
    obtain ⟨vs, xs, S, a1, a2, a3, a4, a5, a6, a7⟩ := step len (Nat.le_refl _)
    by_cases h0 : len = 0
    · subst h0
      obtain rfl : xs = [] := List.eq_nil_of_length_eq_zero a4
      exact ⟨[], [], _, rfl, .z (some a) cap _ (by simp), rfl, rfl, rfl, Nat.zero_le _⟩
    · have hv0 : 0 < vs.length := by rw [a3]; exact Nat.mul_pos (by omega) hp
      have c0 := a7 0 vs[0] (List.getElem?_eq_getElem hv0)
      obtain ⟨cur, el, fr, g1, g2, _⟩ := cell_addr c0
      have hblk : (a.add 0).block = a.block := rfl
      have hspot : (a.add 0).spot = a.spot := rfl
      rw [hblk] at g1
      rw [hspot] at g2
      have ha : a = ⟨a.block, a.off, none⟩ := by cases a; simp at g2; simp [g2]
      have had : ∀ j, a.add j = ⟨a.block, a.off + j, none⟩ := fun j => by
        have := add_at a.block a.off j
        rw [← ha] at this; exact this
      refine ⟨xs, a.block :: S, .slice (some a) len cap, rfl, ?_, rfl, a5, a6, by omega⟩
      have := Tr.l (w := w) (own := false) a.block a.off cap css.length cur el fr vs xs S g1 (by omega) (by
        have : Go.maxLen = 2 ^ 63 - 1 := rfl
        omega) (by rw [a3, a4]) (fun j v hj => by
          have := a7 j v hj
          rw [had, cell_at g1] at this
          exact this) a2 (fun x hx => by rw [shL_length (shLL_len a5 x hx)]) (by simp) a1
      rw [a4, ← ha] at this
      exact this

/-- What a claim reads is a datum of its type's shape. -/
theorem trod_rd : ∀ (n : Nat) {t : TypeId} {css : List Sh}, HS P t css → ∀ cs (x : DataW H × List MemPlace), DataW.trod enc P w 0 spare held n t cs = some x → (x.1.weights P t).all (· ≤ reachBytes) = true → RdOK w cs css := by
  intro n
  induction n using Nat.strongRecOn with
  | _ n IH =>
    intro t css hs
    -- fields in turn
    have fields : ∀ {rec : List TypeId} {fs : List Field} {o : Nat} {css : List Sh}, HSF P rec fs o css → (∀ t ∈ rec, HS P t [.t]) → ∀ (m : Nat), m < n → ∀ (cs : List Value) (ys : List (DataW H × List MemPlace)), o + css.length ≤ cs.length → (∀ (i : Nat) (f : Field), fs[i]? = some f → DataW.trod enc P w 0 spare held m f.type ((cs.drop f.offset).take (P.cellsOf f.type)) = ys[i]?) → ys.length = fs.length →
        (DataW.weightsEach P (fs.map (·.type)) (ys.map (·.1))).all (· ≤ reachBytes) = true → RdOK w ((cs.drop o).take css.length) css := by
      intro rec fs
      induction fs with
      | nil =>
        intro o css hf _ m _ cs ys _ _ _ _
        cases hf
        exact ⟨[], [], by simpa using .nil, by simp, rfl, rfl⟩
      | cons f fs ihf =>
        intro o css hf hrec m hm cs ys hl hx hy hw
        cases ys with
        | nil => simp at hy
        | cons y ys =>
          simp only [List.map_cons, DataW.weightsEach, List.all_append, Bool.and_eq_true] at hw
          have h0 := hx 0 f rfl
          simp only [List.getElem?_cons_zero] at h0
          cases hf with
          | cons _ _ _ _ c1 c2 hoff hsz h hs' =>
            rw [hoff, hsz] at h0
            have r1 := IH m hm h _ _ h0 hw.1
            have r2 := ihf hs' hrec m hm cs ys (by rw [List.length_append] at hl; omega) (fun i g hg => by simpa using hx (i + 1) g (by simpa using hg)) (by simpa using hy) hw.2
            rw [List.length_append, List.take_add, List.drop_drop]
            exact r1.append r2
          | self _ _ _ c2 hoff hsz hs' =>
            rw [hoff, hsz] at h0
            have r1 := IH m hm (hrec f.type (by simp)) _ _ h0 hw.1
            have r2 := ihf hs' hrec m hm cs ys (by rw [List.length_cons] at hl; omega) (fun i g hg => by simpa using hx (i + 1) g (by simpa using hg)) (by simpa using hy) hw.2
            rw [List.length_cons, Nat.add_comm c2.length 1, List.take_add, List.drop_drop]
            exact r1.append (css := [.t]) r2
    have struct : ∀ {e : TypeId} {fs : Array Field} {css : List Sh} {rec : List TypeId}, P.underlying e = some (.struct fs) → P.cellsOf e = css.length → HSF P rec fs.toList 0 css → (∀ t ∈ rec, HS P t [.t]) → ∀ m, m ≤ n → ∀ cs (x : DataW H × List MemPlace), DataW.trod enc P w 0 spare held m e cs = some x → (x.1.weights P e).all (· ≤ reachBytes) = true → RdOK w cs css := by
      intro e fs css rec he hc hf hrec m hm cs x h hw
      obtain ⟨xs, k, rfl, rfl, hl, hlen, hx⟩ := DataW.trod_struct he h
      simp only [DataW.weights, he] at hw
      have := fields hf hrec k (by omega) cs xs (by omega) (fun i f hi => hx i f (by rw [← Array.getElem?_toList]; exact hi)) (by simpa using hlen) hw
      rw [List.drop_zero, ← hc, ← hl, List.take_length] at this
      exact this
    cases hs with
    | b _ h =>
      intro cs x hx hw
      obtain ⟨b, rfl, rfl⟩ := DataW.trod_bool h hx
      exact ⟨[.b b], [] ++ [], .cons _ _ _ _ _ _ (.b b) .nil, by simp [Value.oneCell'], rfl, by simp [okL, okD]⟩
    | i _ h =>
      intro cs x hx hw
      obtain ⟨k, rfl, rfl, hwf⟩ := DataW.trod_int h hx
      refine ⟨[.i .i64 k], [] ++ [], .cons _ _ _ _ _ _ (.i .i64 k) .nil, by simp [Value.oneCell'], rfl, ?_⟩
      rw [okL_cons]
      exact ⟨wf_i64 hwf, rfl⟩
    | s _ h =>
      intro cs x hx hw
      obtain ⟨s, rfl, rfl, hsz⟩ := DataW.trod_string h hx
      refine ⟨[.s s], [] ++ [], .cons _ _ _ _ _ _ (.s s) .nil, by simp [Value.oneCell'], rfl, ?_⟩
      rw [okL_cons, okD_s]
      refine ⟨?_, rfl⟩
      simp only [DataW.weights, List.all_cons, List.all_nil, Bool.and_true, decide_eq_true_eq] at hw
      have h4 : reachBytes = 140737488351232 := by decide
      have h5 : s.data.toList.length = s.size := by simp
      omega
    | l _ e css' h hc hb hp he =>
      intro cs x hx hw
      obtain ⟨xs, S, v, rfl, r1, r2, r3, r4, r5⟩ := rd_slice h hc hb hp (fun m hm cs x => IH m hm he cs x) hx hw
      refine ⟨[.l css'.length xs], S ++ [], .cons _ _ _ _ _ _ r1 .nil, by simpa using r2, ?_, ?_⟩
      · simp only [shL, shD, beq_self_eq_true, Bool.true_and, Bool.and_true]; exact r3
      · rw [okL_cons, okD_l]; exact ⟨⟨r5, r4⟩, rfl⟩
    | t _ e fs h hc hb hst hf =>
      intro cs x hx hw
      obtain ⟨xs, S, v, rfl, r1, r2, r3, r4, r5⟩ := rd_slice (css := treeS) h hc hb (by decide) (fun m hm cs x hx hw => struct (css := treeS) hst hc hf (fun t' ht' => by
        obtain rfl : t' = t := by simpa using ht'
        exact .t _ e fs h hc hb hst hf) m (Nat.le_of_lt hm) cs x hx hw) hx hw
      refine ⟨[.l 5 xs], S ++ [], .cons _ _ _ _ _ _ r1 .nil, by simpa using r2, ?_, ?_⟩
      · simp only [shL, shD, beq_self_eq_true, Bool.true_and, Bool.and_true]; exact r3
      · rw [okL_cons, okD_l]; exact ⟨⟨r5, r4⟩, rfl⟩
    | st _ fs _ h hc hf =>
      intro cs x hx hw
      exact struct h hc hf (by simp) n (Nat.le_refl _) cs x hx hw
end
end Go.Fs

namespace Go.Fs.Sr
open Go.Proofs.Try (prog)
def tab : Tab := { types := [(3, ⟨1, 8, (.int .i64), [.d (.i .i64 0)]⟩),
  (4, ⟨1, 1, .bool, [.d (.b false)]⟩),
  (5, ⟨1, 1, (.int .u8), [.d (.i .u8 0)]⟩),
  (9, ⟨1, 16, .str, [.d (.s ByteArray.empty)]⟩),
  (30, ⟨1, 24, (.slice 111), [.z 6]⟩),
  (31, ⟨1, 24, (.slice 3), [.z 1]⟩),
  (33, ⟨2, 48, (.strct [(0, 30), (1, 31)]), [.z 6, .z 1]⟩),
  (36, ⟨1, 24, (.slice 89), [.z 6]⟩),
  (38, ⟨2, 48, (.strct [(0, 36), (1, 31)]), [.z 6, .z 1]⟩),
  (58, ⟨1, 24, (.slice 9), [.z 1]⟩),
  (81, ⟨1, 24, (.slice 4), [.z 1]⟩),
  (87, ⟨1, 24, (.slice 91), [.z 2]⟩),
  (89, ⟨6, 96, (.strct [(0, 9), (1, 9), (2, 31), (3, 3), (4, 3), (5, 87)]), [.d (.s ByteArray.empty), .d (.s ByteArray.empty), .z 1, .d (.i .i64 0), .d (.i .i64 0), .z 2]⟩),
  (91, ⟨2, 16, (.strct [(0, 3), (1, 3)]), [.d (.i .i64 0), .d (.i .i64 0)]⟩),
  (107, ⟨1, 24, (.slice 5), [.z 1]⟩),
  (109, ⟨1, 24, (.slice 174), [.z 2]⟩),
  (111, ⟨6, 96, (.strct [(0, 9), (1, 9), (2, 31), (3, 3), (4, 3), (5, 109)]), [.d (.s ByteArray.empty), .d (.s ByteArray.empty), .z 1, .d (.i .i64 0), .d (.i .i64 0), .z 2]⟩),
  (115, ⟨6, 88, (.strct [(0, 9), (1, 4), (2, 31), (3, 3), (4, 3), (5, 87)]), [.d (.s ByteArray.empty), .d (.b false), .z 1, .d (.i .i64 0), .d (.i .i64 0), .z 2]⟩),
  (119, ⟨1, 8, .ref, [.d .n]⟩),
  (121, ⟨1, 8, .ref, [.d .n]⟩),
  (174, ⟨2, 16, (.strct [(0, 3), (1, 3)]), [.d (.i .i64 0), .d (.i .i64 0)]⟩)], maps := [] }
theorem tab_ok : tab.ok Go.Proofs.Try.prog = true := by decide +kernel
theorem ti3 : tab.ti 3 = some ⟨1, 8, (.int .i64), [.d (.i .i64 0)]⟩ := rfl
theorem kd3 : tab.kd 3 = some (.int .i64) := rfl
theorem ti4 : tab.ti 4 = some ⟨1, 1, .bool, [.d (.b false)]⟩ := rfl
theorem kd4 : tab.kd 4 = some .bool := rfl
theorem ti5 : tab.ti 5 = some ⟨1, 1, (.int .u8), [.d (.i .u8 0)]⟩ := rfl
theorem kd5 : tab.kd 5 = some (.int .u8) := rfl
theorem ti9 : tab.ti 9 = some ⟨1, 16, .str, [.d (.s ByteArray.empty)]⟩ := rfl
theorem kd9 : tab.kd 9 = some .str := rfl
theorem ti30 : tab.ti 30 = some ⟨1, 24, (.slice 111), [.z 6]⟩ := rfl
theorem kd30 : tab.kd 30 = some (.slice 111) := rfl
theorem ti31 : tab.ti 31 = some ⟨1, 24, (.slice 3), [.z 1]⟩ := rfl
theorem kd31 : tab.kd 31 = some (.slice 3) := rfl
theorem ti33 : tab.ti 33 = some ⟨2, 48, (.strct [(0, 30), (1, 31)]), [.z 6, .z 1]⟩ := rfl
theorem kd33 : tab.kd 33 = some (.strct [(0, 30), (1, 31)]) := rfl
theorem ti36 : tab.ti 36 = some ⟨1, 24, (.slice 89), [.z 6]⟩ := rfl
theorem kd36 : tab.kd 36 = some (.slice 89) := rfl
theorem ti38 : tab.ti 38 = some ⟨2, 48, (.strct [(0, 36), (1, 31)]), [.z 6, .z 1]⟩ := rfl
theorem kd38 : tab.kd 38 = some (.strct [(0, 36), (1, 31)]) := rfl
theorem ti58 : tab.ti 58 = some ⟨1, 24, (.slice 9), [.z 1]⟩ := rfl
theorem kd58 : tab.kd 58 = some (.slice 9) := rfl
theorem ti81 : tab.ti 81 = some ⟨1, 24, (.slice 4), [.z 1]⟩ := rfl
theorem kd81 : tab.kd 81 = some (.slice 4) := rfl
theorem ti87 : tab.ti 87 = some ⟨1, 24, (.slice 91), [.z 2]⟩ := rfl
theorem kd87 : tab.kd 87 = some (.slice 91) := rfl
theorem ti89 : tab.ti 89 = some ⟨6, 96, (.strct [(0, 9), (1, 9), (2, 31), (3, 3), (4, 3), (5, 87)]), [.d (.s ByteArray.empty), .d (.s ByteArray.empty), .z 1, .d (.i .i64 0), .d (.i .i64 0), .z 2]⟩ := rfl
theorem kd89 : tab.kd 89 = some (.strct [(0, 9), (1, 9), (2, 31), (3, 3), (4, 3), (5, 87)]) := rfl
theorem ti91 : tab.ti 91 = some ⟨2, 16, (.strct [(0, 3), (1, 3)]), [.d (.i .i64 0), .d (.i .i64 0)]⟩ := rfl
theorem kd91 : tab.kd 91 = some (.strct [(0, 3), (1, 3)]) := rfl
theorem ti107 : tab.ti 107 = some ⟨1, 24, (.slice 5), [.z 1]⟩ := rfl
theorem kd107 : tab.kd 107 = some (.slice 5) := rfl
theorem ti109 : tab.ti 109 = some ⟨1, 24, (.slice 174), [.z 2]⟩ := rfl
theorem kd109 : tab.kd 109 = some (.slice 174) := rfl
theorem ti111 : tab.ti 111 = some ⟨6, 96, (.strct [(0, 9), (1, 9), (2, 31), (3, 3), (4, 3), (5, 109)]), [.d (.s ByteArray.empty), .d (.s ByteArray.empty), .z 1, .d (.i .i64 0), .d (.i .i64 0), .z 2]⟩ := rfl
theorem kd111 : tab.kd 111 = some (.strct [(0, 9), (1, 9), (2, 31), (3, 3), (4, 3), (5, 109)]) := rfl
theorem ti115 : tab.ti 115 = some ⟨6, 88, (.strct [(0, 9), (1, 4), (2, 31), (3, 3), (4, 3), (5, 87)]), [.d (.s ByteArray.empty), .d (.b false), .z 1, .d (.i .i64 0), .d (.i .i64 0), .z 2]⟩ := rfl
theorem kd115 : tab.kd 115 = some (.strct [(0, 9), (1, 4), (2, 31), (3, 3), (4, 3), (5, 87)]) := rfl
theorem ti119 : tab.ti 119 = some ⟨1, 8, .ref, [.d .n]⟩ := rfl
theorem kd119 : tab.kd 119 = some .ref := rfl
theorem ti121 : tab.ti 121 = some ⟨1, 8, .ref, [.d .n]⟩ := rfl
theorem kd121 : tab.kd 121 = some .ref := rfl
theorem ti174 : tab.ti 174 = some ⟨2, 16, (.strct [(0, 3), (1, 3)]), [.d (.i .i64 0), .d (.i .i64 0)]⟩ := rfl
theorem kd174 : tab.kd 174 = some (.strct [(0, 3), (1, 3)]) := rfl
set_option linter.defProp false
def tk := (And.intro (And.intro (And.intro (And.intro (And.intro ti3 kd3) (And.intro ti4 (And.intro kd4 ti5))) (And.intro (And.intro kd5 ti9) (And.intro kd9 (And.intro ti30 kd30)))) (And.intro (And.intro (And.intro ti31 kd31) (And.intro ti33 (And.intro kd33 ti36))) (And.intro (And.intro kd36 (And.intro ti38 kd38)) (And.intro ti58 (And.intro kd58 ti81))))) (And.intro (And.intro (And.intro (And.intro kd81 ti87) (And.intro kd87 (And.intro ti89 kd89))) (And.intro (And.intro ti91 kd91) (And.intro ti107 (And.intro kd107 ti109)))) (And.intro (And.intro (And.intro kd109 ti111) (And.intro kd111 (And.intro ti115 kd115))) (And.intro (And.intro ti119 (And.intro kd119 ti121)) (And.intro kd121 (And.intro ti174 kd174))))))
/- simp: ti3, kd3, ti4, kd4, ti5, kd5, ti9, kd9, ti30, kd30, ti31, kd31, ti33, kd33, ti36, kd36, ti38, kd38, ti58, kd58, ti81, kd81, ti87, kd87, ti89, kd89, ti91, kd91, ti107, kd107, ti109, kd109, ti111, kd111, ti115, kd115, ti119, kd119, ti121, kd121, ti174, kd174 -/
theorem mixed : prog.follows .mixedOrders = true := by decide +kernel
/-- The shapes of instructions, of functions of an image, of an image. -/
def ins2 : List Sh := [.i, .i]
def lfun : List Sh := [.s, .s, .l [.i], .i, .i, .l ins2]
def limg : List Sh := [.l lfun, .l [.i]]
end Go.Fs.Sr

set_option linter.unusedVariables false
namespace Go.Fs
/-! ### a region whose order is left open, order by order -/
theorem awp_any {A : Env} {id : Nat} {ops : Array Oper} {Q : Exit → St → Prop} {s : St} (h : awpAny A ops (Q .normal) ops.size (Array.replicate ops.size false) s) : awp A (.region id ops true) Q s := by
  simp only [awp]; exact h
def anyAt (A : Env) (ops : Array Oper) (K : St → Prop) (n : Nat) (listed : Array Bool) (s : St) (i : Nat) : Prop := match ops.toList[i]? with
  | some o => awpG A ops.toList o s (awpAny A ops K n (listed.setIfInBounds i true))
  | none => False
def allAt (P : Nat → Prop) : List Nat → Prop
  | [] => True
  | [i] => P i
  | i :: is => P i ∧ allAt P is
theorem allAt_ok {P : Nat → Prop} : ∀ {l : List Nat}, allAt P l → ∀ i ∈ l, P i
  | [], _, i, h => by cases h
  | [x], h, i, hi => by obtain rfl := List.mem_singleton.1 hi; exact h
  | x :: y :: l, h, i, hi => by
    cases hi with
    | head => exact h.1
    | tail _ hi => exact allAt_ok (l := y :: l) h.2 i hi
theorem ord_step {A : Env} {ops : Array Oper} {K : St → Prop} {n : Nat} {listed : Array Bool} {s : St} (x : Nat) (l : List Nat) (hr : Region.ready .any ops listed = x :: l) (h : allAt (anyAt A ops K n listed s) (x :: l)) : awpAny A ops K (n + 1) listed s := by
  simp only [awpAny]
  refine ⟨fun e => ?_, fun i hi => ?_⟩
  · rw [hr] at e; cases e
  · rw [hr] at hi
    exact allAt_ok h i hi
theorem ord_end {A : Env} {ops : Array Oper} {K : St → Prop} {listed : Array Bool} {s : St} (hr : Region.ready .any ops listed = []) (h : K s) : awpAny A ops K 0 listed s := ⟨hr, h⟩
theorem viaState {K : St → Prop} {G : Prop} (sA : St) (main : K sA → G) (leaf : K sA) : G := main leaf
theorem st_eq {n : Nat} {E E' : Nat → AV} {H : Nat → Option Ob} (h : ∀ t, E t = E' t) : St.mk n E H = St.mk n E' H := by rw [funext h]
/-- A law about a struct. -/
def lawG (cs : List Sh) : List D → Option D
  | [.g ds] => if shL cs ds = true ∧ okL ds = true then some (.b true) else none
  | _ => none
theorem lawG_inv {cs : List Sh} {ds : List D} {r : D} (h : lawG cs ds = some r) : ∃ xs, ds = [.g xs] ∧ shL cs xs = true ∧ okL xs = true ∧ r = .b true := by
  unfold lawG at h
  split at h
  · split at h
    · rename_i hc
      simp only [Option.some.injEq] at h
      exact ⟨_, rfl, hc.1, hc.2, h.symm⟩
    · cases h
  · cases h
end Go.Fs
