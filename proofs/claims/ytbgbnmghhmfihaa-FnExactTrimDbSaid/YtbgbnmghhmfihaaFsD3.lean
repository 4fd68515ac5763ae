/- A part of the proof: an evaluator of the program's code over plain data, proved sound, or a function's walk by it. No conditions beyond those in the theorems. -/
import Derived.Test.YtbgbnmghhmfihaaFsQt
set_option linter.unusedVariables false
namespace Go.Fs

/-! ### shapes of data; equality; marks -/
inductive Sh where
  | b | i | s | t
  | l (cs : List Sh)
def treeS : List Sh := [.i, .i, .s, .s, .t]
mutual
def shD : Sh → D → Bool
  | .b, .b _ => true
  | .i, .i .i64 _ => true
  | .s, .s _ => true
  | .t, .l sz xs => sz == 5 && shLL treeS xs
  | .l cs, .l sz xs => sz == cs.length && shLL cs xs
  | _, _ => false
def shL : List Sh → List D → Bool
  | [], [] => true
  | c :: cs, d :: ds => shD c d && shL cs ds
  | _, _ => false
def shLL (cs : List Sh) : List (List D) → Bool
  | [] => true
  | x :: xs => shL cs x && shLL cs xs
end
theorem shLL_get {cs : List Sh} : ∀ {xs : List (List D)} {i : Nat}, shLL cs xs = true → i < xs.length → shL cs (xs.getD i []) = true
  | [], i, _, h => by simp at h
  | x :: xs, 0, h, _ => by simp only [shLL, Bool.and_eq_true] at h; exact h.1
  | x :: xs, i + 1, h, hi => by
    simp only [shLL, Bool.and_eq_true] at h
    simpa using shLL_get h.2 (i := i) (by simpa using hi)
theorem shL_nil {ds : List D} (h : shL [] ds = true) : ds = [] := by cases ds <;> simp_all [shL]
theorem shL_cons {c : Sh} {cs : List Sh} {ds : List D} (h : shL (c :: cs) ds = true) : ∃ d ds', ds = d :: ds' ∧ shD c d = true ∧ shL cs ds' = true := by
  cases ds with
  | nil => simp [shL] at h
  | cons d ds => simp only [shL, Bool.and_eq_true] at h; exact ⟨d, ds, rfl, h.1, h.2⟩
theorem shD_b {d : D} (h : shD .b d = true) : ∃ v, d = .b v := by cases d <;> simp_all [shD]
theorem shD_i {d : D} (h : shD .i d = true) : ∃ n, d = .i .i64 n := by
  cases d with
  | i k n => cases k <;> simp_all [shD]
  | _ => simp [shD] at h
theorem shD_s {d : D} (h : shD .s d = true) : ∃ v, d = .s v := by cases d <;> simp_all [shD]
theorem shD_l {cs : List Sh} {d : D} (h : shD (.l cs) d = true) : ∃ xs, d = .l cs.length xs ∧ shLL cs xs = true := by
  cases d with
  | l sz xs => simp only [shD, Bool.and_eq_true, beq_iff_eq] at h; exact ⟨xs, by rw [h.1], h.2⟩
  | _ => simp [shD] at h
theorem shD_l2 {cs : List Sh} {d : D} (h : shD (.l cs) d = true) : ∃ sz xs, d = .l sz xs ∧ sz = cs.length ∧ shLL cs xs = true := by
  obtain ⟨xs, h1, h2⟩ := shD_l h
  exact ⟨_, xs, h1, rfl, h2⟩
theorem shD_t {d : D} (h : shD .t d = true) : ∃ xs, d = .l 5 xs ∧ shLL treeS xs = true := by
  cases d with
  | l sz xs => simp only [shD, Bool.and_eq_true, beq_iff_eq] at h; exact ⟨xs, by rw [h.1], h.2⟩
  | _ => simp [shD] at h
theorem shLL_len {cs : List Sh} : ∀ {xs : List (List D)}, shLL cs xs = true → ∀ x ∈ xs, shL cs x = true
  | [], _, x, hx => by cases hx
  | y :: xs, h, x, hx => by
    simp only [shLL, Bool.and_eq_true] at h
    rcases List.mem_cons.1 hx with rfl | hx
    · exact h.1
    · exact shLL_len h.2 x hx

mutual
def eqD : D → D → Bool
  | .b x, .b y => x == y
  | .i k n, .i k' n' => k == k' && n == n'
  | .s x, .s y => decide (x = y)
  | .l sz xs, .l sz' ys => sz == sz' && eqLL xs ys
  | .g cs, .g ds => eqL cs ds
  | _, _ => false
def eqL : List D → List D → Bool
  | [], [] => true
  | c :: cs, d :: ds => eqD c d && eqL cs ds
  | _, _ => false
def eqLL : List (List D) → List (List D) → Bool
  | [], [] => true
  | x :: xs, y :: ys => eqL x y && eqLL xs ys
  | _, _ => false
end
mutual
theorem eqD_eq : ∀ (x y : D), eqD x y = true → x = y
  | .b x, y, h => by cases y <;> simp_all [eqD]
  | .i k n, y, h => by cases y <;> simp_all [eqD]
  | .s x, y, h => by cases y <;> simp_all [eqD]
  | .l sz xs, y, h => by
    cases y with
    | l sz' ys => simp only [eqD, Bool.and_eq_true, beq_iff_eq] at h; rw [h.1, eqLL_eq xs ys h.2]
    | _ => simp [eqD] at h
  | .g cs, y, h => by
    cases y with
    | g ds => simp only [eqD] at h; rw [eqL_eq cs ds h]
    | _ => simp [eqD] at h
  | .f fn caps, y, h => by simp [eqD] at h
  | .p cs, y, h => by simp [eqD] at h
  | .n, y, h => by simp [eqD] at h
  | .t vs, y, h => by simp [eqD] at h
  | .u, y, h => by simp [eqD] at h
theorem eqL_eq : ∀ (xs ys : List D), eqL xs ys = true → xs = ys
  | [], ys, h => by cases ys <;> simp_all [eqL]
  | x :: xs, ys, h => by
    cases ys with
    | nil => simp [eqL] at h
    | cons y ys => simp only [eqL, Bool.and_eq_true] at h; rw [eqD_eq x y h.1, eqL_eq xs ys h.2]
theorem eqLL_eq : ∀ (xs ys : List (List D)), eqLL xs ys = true → xs = ys
  | [], ys, h => by cases ys <;> simp_all [eqLL]
  | x :: xs, ys, h => by
    cases ys with
    | nil => simp [eqLL] at h
    | cons y ys => simp only [eqLL, Bool.and_eq_true] at h; rw [eqL_eq x y h.1, eqLL_eq xs ys h.2]
end
mutual
theorem eqD_refl : ∀ (c : Sh) (x : D), shD c x = true → eqD x x = true
  | c, .b x, _ => by simp [eqD]
  | c, .i k n, _ => by simp [eqD]
  | c, .s x, _ => by simp [eqD]
  | .t, .l sz xs, h => by
    simp only [shD, Bool.and_eq_true] at h
    simp only [eqD, beq_self_eq_true, Bool.true_and]; exact eqLL_refl treeS xs h.2
  | .l cs, .l sz xs, h => by
    simp only [shD, Bool.and_eq_true] at h
    simp only [eqD, beq_self_eq_true, Bool.true_and]; exact eqLL_refl cs xs h.2
  | .b, .l sz xs, h => by simp [shD] at h
  | .i, .l sz xs, h => by simp [shD] at h
  | .s, .l sz xs, h => by simp [shD] at h
  | c, .g cs, h => by cases c <;> simp [shD] at h
  | c, .f fn caps, h => by cases c <;> simp [shD] at h
  | c, .p cs, h => by cases c <;> simp [shD] at h
  | c, .n, h => by cases c <;> simp [shD] at h
  | c, .t vs, h => by cases c <;> simp [shD] at h
  | c, .u, h => by cases c <;> simp [shD] at h
theorem eqL_refl : ∀ (cs : List Sh) (xs : List D), shL cs xs = true → eqL xs xs = true
  | [], [], _ => rfl
  | c :: cs, x :: xs, h => by
    simp only [shL, Bool.and_eq_true] at h
    simp only [eqL, Bool.and_eq_true]; exact ⟨eqD_refl c x h.1, eqL_refl cs xs h.2⟩
  | [], _ :: _, h => by simp [shL] at h
  | _ :: _, [], h => by simp [shL] at h
theorem eqLL_refl : ∀ (cs : List Sh) (xs : List (List D)), shLL cs xs = true → eqLL xs xs = true
  | _, [], _ => rfl
  | cs, x :: xs, h => by
    simp only [shLL, Bool.and_eq_true] at h
    simp only [eqLL, Bool.and_eq_true]; exact ⟨eqL_refl cs x h.1, eqLL_refl cs xs h.2⟩
end
theorem eqLL_len : ∀ {xs ys : List (List D)}, xs.length ≠ ys.length → eqLL xs ys = false
  | [], [], h => absurd rfl h
  | [], _ :: _, _ => rfl
  | _ :: _, [], _ => rfl
  | x :: xs, y :: ys, h => by
    simp only [eqLL, Bool.and_eq_false_iff]
    exact .inr (eqLL_len fun e => h (by simp [e]))
/-- Equal up to a place. -/
theorem eqLL_step : ∀ {xs ys : List (List D)} {i : Nat}, xs.length = ys.length → i < xs.length → eqLL (xs.drop i) (ys.drop i) = (eqL (xs.getD i []) (ys.getD i []) && eqLL (xs.drop (i + 1)) (ys.drop (i + 1)))
  | [], _, i, _, h => by simp at h
  | _ :: _, [], i, h, _ => by simp at h
  | x :: xs, y :: ys, 0, _, _ => by simp [eqLL]
  | x :: xs, y :: ys, i + 1, hl, h => by
    simpa using eqLL_step (xs := xs) (ys := ys) (i := i) (by simpa using hl) (by simpa using h)

/-! ### marks -/
def mtGo (k : Nat) (out : ByteArray) : ByteArray := if h : k = 0 then out else mtGo (k / 10) (bytesS [48 + (k : Int) % 10] ++ out)
termination_by k
decreasing_by omega
/-- The text of a mark. -/
def mtext (k : Int) : ByteArray := if k ≤ 0 then ⟨#[109, 48]⟩ else ⟨#[109]⟩ ++ mtGo k.toNat .empty
mutual
def markC : D → Int → D × Int
  | .i _ _, k => (.i .i64 k, k + 1)
  | .s _, k => (.s (mtext k), k + 1)
  | .b _, k => (.b (decide (k.tmod 3 = 0)), k + 1)
  | .l sz xs, k => (.l sz (markLL xs k).1, (markLL xs k).2)
  | d, k => (d, k)
def markL : List D → Int → List D × Int
  | [], k => ([], k)
  | d :: ds, k => ((markC d k).1 :: (markL ds (markC d k).2).1, (markL ds (markC d k).2).2)
def markLL : List (List D) → Int → List (List D) × Int
  | [], k => ([], k)
  | x :: xs, k => ((markL x k).1 :: (markLL xs (markL x k).2).1, (markLL xs (markL x k).2).2)
end
mutual
def heldC : D → Int → Int
  | .i _ n, k => if n = k then k + 1 else -1
  | .s t, k => if t = mtext k then k + 1 else -1
  | .b v, k => if v = decide (k.tmod 3 = 0) then k + 1 else -1
  | .l _ xs, k => heldLL xs k
  | _, k => k
def heldL : List D → Int → Int
  | [], k => k
  | d :: ds, k => if heldC d k < 0 then -1 else heldL ds (heldC d k)
def heldLL : List (List D) → Int → Int
  | [], k => k
  | x :: xs, k => if heldL x k < 0 then -1 else heldLL xs (heldL x k)
end
mutual
/-- How many places are marked. -/
def lv : D → Nat
  | .i _ _ => 1
  | .s _ => 1
  | .b _ => 1
  | .l _ xs => lvLL xs
  | _ => 0
def lvL : List D → Nat
  | [] => 0
  | d :: ds => lv d + lvL ds
def lvLL : List (List D) → Nat
  | [] => 0
  | x :: xs => lvL x + lvLL xs
end
mutual
theorem markC_k : ∀ (d : D) (k : Int), (markC d k).2 = k + lv d
  | .i _ _, k => by simp [markC, lv]
  | .s _, k => by simp [markC, lv]
  | .b _, k => by simp [markC, lv]
  | .l sz xs, k => by simp only [markC, lv]; exact markLL_k xs k
  | .g cs, k => by simp [markC, lv]
  | .f fn caps, k => by simp [markC, lv]
  | .p cs, k => by simp [markC, lv]
  | .n, k => by simp [markC, lv]
  | .t vs, k => by simp [markC, lv]
  | .u, k => by simp [markC, lv]
theorem markL_k : ∀ (ds : List D) (k : Int), (markL ds k).2 = k + lvL ds
  | [], k => by simp [markL, lvL]
  | d :: ds, k => by simp only [markL, lvL]; rw [markL_k ds, markC_k d]; omega
theorem markLL_k : ∀ (xs : List (List D)) (k : Int), (markLL xs k).2 = k + lvLL xs
  | [], k => by simp [markLL, lvLL]
  | x :: xs, k => by simp only [markLL, lvLL]; rw [markLL_k xs, markL_k x]; omega
end
mutual
theorem held_markC : ∀ (d : D) (k : Int), 0 ≤ k → heldC (markC d k).1 k = (markC d k).2
  | .i _ _, k, _ => by simp [markC, heldC]
  | .s _, k, _ => by simp [markC, heldC]
  | .b _, k, _ => by simp [markC, heldC]
  | .l sz xs, k, h => by simp only [markC, heldC]; exact held_markLL xs k h
  | .g cs, k, _ => by simp [markC, heldC]
  | .f fn caps, k, _ => by simp [markC, heldC]
  | .p cs, k, _ => by simp [markC, heldC]
  | .n, k, _ => by simp [markC, heldC]
  | .t vs, k, _ => by simp [markC, heldC]
  | .u, k, _ => by simp [markC, heldC]
theorem held_markL : ∀ (ds : List D) (k : Int), 0 ≤ k → heldL (markL ds k).1 k = (markL ds k).2
  | [], k, _ => by simp [markL, heldL]
  | d :: ds, k, h => by
    have h1 := markC_k d k
    simp only [markL, heldL]
    rw [held_markC d k h, if_neg (by omega)]
    exact held_markL ds _ (by omega)
theorem held_markLL : ∀ (xs : List (List D)) (k : Int), 0 ≤ k → heldLL (markLL xs k).1 k = (markLL xs k).2
  | [], k, _ => by simp [markLL, heldLL]
  | x :: xs, k, h => by
    have h1 := markL_k x k
    simp only [markLL, heldLL]
    rw [held_markL x k h, if_neg (by omega)]
    exact held_markLL xs _ (by omega)
end
mutual
theorem shD_mark : ∀ (c : Sh) (d : D) (k : Int), shD c d = true → shD c (markC d k).1 = true
  | .b, .b _, k, _ => by simp [markC, shD]
  | .i, .i _ _, k, _ => by simp [markC, shD]
  | .s, .s _, k, _ => by simp [markC, shD]
  | .t, .l sz xs, k, h => by
    simp only [shD, Bool.and_eq_true] at h
    simp only [markC, shD, Bool.and_eq_true]; exact ⟨h.1, shLL_mark treeS xs k h.2⟩
  | .l cs, .l sz xs, k, h => by
    simp only [shD, Bool.and_eq_true] at h
    simp only [markC, shD, Bool.and_eq_true]; exact ⟨h.1, shLL_mark cs xs k h.2⟩
  | .b, .l sz xs, k, h => by simp [shD] at h
  | .i, .l sz xs, k, h => by simp [shD] at h
  | .s, .l sz xs, k, h => by simp [shD] at h
  | .b, .i _ _, k, h => by simp [shD] at h
  | .b, .s _, k, h => by simp [shD] at h
  | .i, .b _, k, h => by simp [shD] at h
  | .i, .s _, k, h => by simp [shD] at h
  | .s, .b _, k, h => by simp [shD] at h
  | .s, .i _ _, k, h => by simp [shD] at h
  | .t, .b _, k, h => by simp [shD] at h
  | .t, .i _ _, k, h => by simp [shD] at h
  | .t, .s _, k, h => by simp [shD] at h
  | .l cs, .b _, k, h => by simp [shD] at h
  | .l cs, .i _ _, k, h => by simp [shD] at h
  | .l cs, .s _, k, h => by simp [shD] at h
  | c, .g cs, k, h => by cases c <;> simp [shD] at h
  | c, .f fn caps, k, h => by cases c <;> simp [shD] at h
  | c, .p cs, k, h => by cases c <;> simp [shD] at h
  | c, .n, k, h => by cases c <;> simp [shD] at h
  | c, .t vs, k, h => by cases c <;> simp [shD] at h
  | c, .u, k, h => by cases c <;> simp [shD] at h
theorem shL_mark : ∀ (cs : List Sh) (ds : List D) (k : Int), shL cs ds = true → shL cs (markL ds k).1 = true
  | [], [], k, _ => rfl
  | c :: cs, d :: ds, k, h => by
    simp only [shL, Bool.and_eq_true] at h
    simp only [markL, shL, Bool.and_eq_true]; exact ⟨shD_mark c d k h.1, shL_mark cs ds _ h.2⟩
  | [], _ :: _, k, h => by simp [shL] at h
  | _ :: _, [], k, h => by simp [shL] at h
theorem shLL_mark : ∀ (cs : List Sh) (xs : List (List D)) (k : Int), shLL cs xs = true → shLL cs (markLL xs k).1 = true
  | _, [], k, _ => rfl
  | cs, x :: xs, k, h => by
    simp only [shLL, Bool.and_eq_true] at h
    simp only [markLL, shLL, Bool.and_eq_true]; exact ⟨shL_mark cs x k h.1, shLL_mark cs xs _ h.2⟩
end

theorem borCs_d (H : Nat → Option Ob) : ∀ (ds : List D), borCs H (ds.map .d) = some ds
  | [] => rfl
  | d :: ds => by simp [borCs, borC, borCs_d H ds]
theorem demoteL_d (H : Nat → Option Ob) : ∀ (ds : List D), demoteL H (ds.map .d) = some (ds.map .d, H)
  | [] => rfl
  | d :: ds => by simp [demoteL, demote1, demoteL_d H ds]
theorem shL_length : ∀ {cs : List Sh} {ds : List D}, shL cs ds = true → ds.length = cs.length
  | [], [], _ => rfl
  | c :: cs, d :: ds, h => by simp only [shL, Bool.and_eq_true] at h; simp [shL_length h.2]
  | [], _ :: _, h => by simp [shL] at h
  | _ :: _, [], h => by simp [shL] at h
/-- What the functions of one kind give: how much is left behind a datum. -/
def szP (cs : List Sh) : List D → Option D
  | [.l sz xs, .i .i64 n] => if sz = cs.length ∧ shLL cs xs = true ∧ okLL xs = true ∧ xs.length ≤ 140737488355328 ∧ -1 ≤ n ∧ n ≤ 1048576 then some (.i .i64 (less n (xs.length + wtLL xs))) else none
  | _ => none
def szG (cs : List Sh) : List D → Option D
  | [.g ds, .i .i64 n] => if shL cs ds = true ∧ okL ds = true ∧ -1 ≤ n ∧ n ≤ 1048576 then some (.i .i64 (less n (wtL ds))) else none
  | _ => none
theorem szP_inv {cs : List Sh} {ds : List D} {r : D} (h : szP cs ds = some r) : ∃ xs n, ds = [.l cs.length xs, .i .i64 n] ∧ shLL cs xs = true ∧ okLL xs = true ∧ xs.length ≤ 140737488355328 ∧ -1 ≤ n ∧ n ≤ 1048576 ∧ r = .i .i64 (less n (xs.length + wtLL xs)) := by
  unfold szP at h
  split at h
  · split at h
    · rename_i hc
      obtain ⟨rfl, h1, h2, h3, h4, h5⟩ := hc
      simp only [Option.some.injEq] at h
      exact ⟨_, _, rfl, h1, h2, h3, h4, h5, h.symm⟩
    · cases h
  · cases h
theorem szG_inv {cs : List Sh} {ds : List D} {r : D} (h : szG cs ds = some r) : ∃ xs n, ds = [.g xs, .i .i64 n] ∧ shL cs xs = true ∧ okL xs = true ∧ -1 ≤ n ∧ n ≤ 1048576 ∧ r = .i .i64 (less n (wtL xs)) := by
  unfold szG at h
  split at h
  · split at h
    · rename_i hc
      obtain ⟨h1, h2, h4, h5⟩ := hc
      simp only [Option.some.injEq] at h
      exact ⟨_, _, rfl, h1, h2, h4, h5, h.symm⟩
    · cases h
  · cases h
theorem OkO_szG {cs : List Sh} {ds : List D} {n : Int} {K : D → Prop} (h1 : shL cs ds = true) (h2 : okL ds = true) (h3 : -1 ≤ n) (h4 : n ≤ 1048576) (hk : K (.i .i64 (less n (wtL ds)))) : OkO (szG cs [.g ds, .i .i64 n]) K := by
  simp only [szG]; rw [if_pos ⟨h1, h2, h3, h4⟩]; exact hk
theorem OkO_szP {cs : List Sh} {sz : Nat} {xs : List (List D)} {n : Int} {K : D → Prop} (hs : sz = cs.length) (h1 : shLL cs xs = true) (h2 : okLL xs = true) (h0 : xs.length ≤ 140737488355328) (h3 : -1 ≤ n) (h4 : n ≤ 1048576) (hk : K (.i .i64 (less n (xs.length + wtLL xs)))) : OkO (szP cs [.l sz xs, .i .i64 n]) K := by
  simp only [szP]; rw [if_pos ⟨hs, h1, h2, h0, h3, h4⟩]; exact hk
theorem less_pos {n : Int} {w : Nat} (h : (w : Int) ≤ n) : less n w = n - w := if_neg (by omega)
theorem less_neg {n : Int} {w : Nat} (h : n < (w : Int)) : less n w = -1 := if_pos h
end Go.Fs
