/- A part of the proof: an evaluator of the program's code over plain data, proved sound, or a function's walk by it. No conditions beyond those in the theorems. -/
import Derived.Test.YtbgbnmghhmfihaaFsZ
set_option linter.unusedVariables false
namespace Go.Fs

/-! ### the size of a datum -/
mutual
def wt : D → Nat
  | .s t => t.size
  | .l _ xs => xs.length + wtLL xs
  | .g cs => wtL cs
  | _ => 0
def wtL : List D → Nat
  | [] => 0
  | d :: ds => wt d + wtL ds
def wtLL : List (List D) → Nat
  | [] => 0
  | x :: xs => wtL x + wtLL xs
end
/-- What is left of 'n' when 'w' is taken; -1, if that is not there. -/
def less (n : Int) (w : Nat) : Int := if n < (w : Int) then -1 else n - w
theorem less_less (n : Int) (a b : Nat) : less (less n a) b = less n (a + b) := by unfold less; split <;> split <;> split <;> omega

def maxD : Nat := 140737488355328
mutual
/-- No list and no text of it is longer than memory could hold; numbers are of their kind. -/
def okD : D → Bool
  | .s t => decide (t.size ≤ maxD)
  | .i k n => decide (k.wrap n = n)
  | .l _ xs => decide (xs.length ≤ maxD) && okLL xs
  | .g cs => okL cs
  | _ => true
def okL : List D → Bool
  | [] => true
  | d :: ds => okD d && okL ds
def okLL : List (List D) → Bool
  | [] => true
  | x :: xs => okL x && okLL xs
end
theorem okLL_get : ∀ {xs : List (List D)} {i : Nat}, okLL xs = true → i < xs.length → okL (xs.getD i []) = true
  | [], i, _, h => by simp at h
  | x :: xs, 0, h, _ => by simp only [okLL, Bool.and_eq_true] at h; exact h.1
  | x :: xs, i + 1, h, hi => by
    simp only [okLL, Bool.and_eq_true] at h
    simpa using okLL_get h.2 (i := i) (by simpa using hi)
theorem wtLL_take : ∀ {xs : List (List D)} {i : Nat}, i < xs.length → wtLL (xs.take (i + 1)) = wtLL (xs.take i) + wtL (xs.getD i [])
  | [], i, h => by simp at h
  | x :: xs, 0, _ => by simp [wtLL]
  | x :: xs, i + 1, h => by
    have := wtLL_take (xs := xs) (i := i) (by simpa using h)
    simp only [List.take_succ_cons, wtLL, this, List.getD_cons_succ]
    omega

theorem wtLL_mono : ∀ {xs : List (List D)} {i : Nat}, i < xs.length → wtLL (xs.take i) + wtL (xs.getD i []) ≤ wtLL xs
  | [], i, h => by simp at h
  | x :: xs, 0, _ => by simp [wtLL]
  | x :: xs, i + 1, h => by
    have := wtLL_mono (xs := xs) (i := i) (by simpa using h)
    simp only [List.take_succ_cons, wtLL, List.getD_cons_succ]
    omega

/-- Rows of one text. -/
def isS : List D → Bool
  | [.s _] => true
  | _ => false
theorem isS_get {xs : List (List D)} {i : Nat} (h : xs.all isS = true) (hi : i < xs.length) : ∃ t, xs.getD i [] = [.s t] := by
  have := List.all_eq_true.1 h _ (List.getElem_mem hi)
  have e : xs.getD i [] = xs[i] := by simp [List.getElem?_eq_getElem hi]
  rw [e]
  generalize xs[i] = x at this
  match x, this with
  | [.s t], _ => exact ⟨t, rfl⟩

theorem wrap64 {n : Int} (h1 : -9223372036854775808 ≤ n) (h2 : n < 9223372036854775808) : IntKind.i64.wrap n = n := by
  have e : (2 ^ IntKind.i64.bits : Int) = 18446744073709551616 := by decide
  have e2 : (2 ^ (IntKind.i64.bits - 1) : Int) = 9223372036854775808 := by decide
  have e3 : IntKind.i64.signed = true := rfl
  unfold IntKind.wrap
  rw [e, e2, e3]
  simp only [Bool.true_and, decide_eq_true_eq, ge_iff_le]
  split <;> omega
theorem splitB_intro {v : Bool} {X Y : Prop} (h1 : v = true → X) (h2 : v = false → Y) : splitB v X Y := by
  cases v
  · exact h2 rfl
  · exact h1 rfl
theorem OkO_intro {α : Type} {c : Prop} [Decidable c] {x : Option α} {K : α → Prop} (h : c) (hk : OkO x K) : OkO (if c then x else none) K := by rw [if_pos h]; exact hk
theorem okD_s (t : ByteArray) : (okD (.s t) = true) = (t.size ≤ 140737488355328) := propext ⟨fun h => of_decide_eq_true h, fun h => decide_eq_true h⟩
theorem okD_i (n : Int) : (okD (.i .i64 n) = true) = (-9223372036854775808 ≤ n ∧ n < 9223372036854775808) := by
  apply propext
  constructor
  · intro h
    simp only [okD, decide_eq_true_eq] at h
    have e : (2 ^ IntKind.i64.bits : Int) = 18446744073709551616 := by decide
    have e2 : (2 ^ (IntKind.i64.bits - 1) : Int) = 9223372036854775808 := by decide
    have e3 : IntKind.i64.signed = true := rfl
    unfold IntKind.wrap at h
    rw [e, e2, e3] at h
    simp only [Bool.true_and, decide_eq_true_eq, ge_iff_le] at h
    split at h <;> omega
  · intro h
    simp only [okD, decide_eq_true_eq]
    exact wrap64 h.1 h.2
theorem okD_b (b : Bool) : (okD (.b b) = true) = True := by simp [okD]
theorem okD_l (sz : Nat) (xs : List (List D)) : (okD (.l sz xs) = true) = (xs.length ≤ 140737488355328 ∧ okLL xs = true) := by
  apply propext
  show (decide (xs.length ≤ maxD) && okLL xs) = true ↔ _
  rw [Bool.and_eq_true]
  exact and_congr_left fun _ => ⟨fun h => of_decide_eq_true h, fun h => decide_eq_true h⟩
theorem okD_g (cs : List D) : (okD (.g cs) = true) = (okL cs = true) := by simp [okD]
theorem okL_nil : (okL [] = true) = True := by simp [okL]
theorem okL_cons (d : D) (ds : List D) : (okL (d :: ds) = true) = (okD d = true ∧ okL ds = true) := by simp [okL]
theorem okLL_nil : (okLL [] = true) = True := by simp [okLL]
theorem okLL_cons (x : List D) (xs : List (List D)) : (okLL (x :: xs) = true) = (okL x = true ∧ okLL xs = true) := by simp [okLL]
end Go.Fs
