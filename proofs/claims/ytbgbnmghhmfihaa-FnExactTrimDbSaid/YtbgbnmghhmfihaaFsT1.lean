/- A part of the proof: an evaluator of the program's code over plain data, proved sound, or a function's walk by it. No conditions beyond those in the theorems. -/
import Derived.Test.YtbgbnmghhmfihaaFsD5
set_option linter.unusedVariables false
namespace Go.Fs

/-! ### of each name the last record -/
def nameOf : List D → ByteArray
  | .s t :: _ => t
  | _ => .empty
def keepS : List (List D) → List (List D)
  | [] => []
  | x :: xs => if xs.all (fun y => !decide (nameOf y = nameOf x)) = true then x :: keepS xs else keepS xs
theorem drop_get {xs : List (List D)} {i : Nat} (h : i < xs.length) : xs.drop i = xs.getD i [] :: xs.drop (i + 1) := by
  rw [List.drop_eq_getElem_cons h]
  simp [List.getElem?_eq_getElem h]
theorem keepS_step {xs : List (List D)} {i : Nat} (h : i < xs.length) : keepS (xs.drop i) = if (xs.drop (i + 1)).all (fun y => !decide (nameOf y = nameOf (xs.getD i []))) = true then xs.getD i [] :: keepS (xs.drop (i + 1)) else keepS (xs.drop (i + 1)) := by
  rw [drop_get h, keepS]
theorem scal_s : ∀ {xs : List (List D)}, shLL [.s] xs = true → (xs.all fun x => x.all scal) = true
  | [], _ => rfl
  | x :: xs, h => by
    simp only [shLL, Bool.and_eq_true] at h
    obtain ⟨c, q, rfl, e, h2⟩ := shL_cons h.1
    obtain rfl := shL_nil h2
    obtain ⟨t, rfl⟩ := shD_s e
    simp only [List.all_cons, List.all_nil, scal, Bool.and_true, Bool.true_and]
    exact scal_s h.2
theorem scal_i : ∀ {xs : List (List D)}, shLL [.i] xs = true → (xs.all fun x => x.all scal) = true
  | [], _ => rfl
  | x :: xs, h => by
    simp only [shLL, Bool.and_eq_true] at h
    obtain ⟨c, q, rfl, e, h2⟩ := shL_cons h.1
    obtain rfl := shL_nil h2
    obtain ⟨t, rfl⟩ := shD_i e
    simp only [List.all_cons, List.all_nil, scal, Bool.and_true, Bool.true_and]
    exact scal_i h.2

def kvUp (xs : List (List D)) : Nat → List (ByteArray × D)
  | 0 => []
  | n + 1 => kvSet (kvUp xs n) (nameOf (xs.getD n [])) (.i .i64 n)
def lastI (xs : List (List D)) : Nat → ByteArray → Option Nat
  | 0, _ => none
  | n + 1, t => if t = nameOf (xs.getD n []) then some n else lastI xs n t
theorem kvGet_set : ∀ (kv : List (ByteArray × D)) (k k' : ByteArray) (d : D), kvGet (kvSet kv k d) k' = if k' = k then some d else kvGet kv k'
  | [], k, k', d => by simp [kvSet, kvGet]
  | x :: kv, k, k', d => by
    simp only [kvSet]
    by_cases h : k = x.1
    · rw [if_pos h]
      simp only [kvGet, ← h]
      by_cases h2 : k' = k <;> simp [h2]
    · rw [if_neg h]
      simp only [kvGet]
      by_cases h2 : k' = x.1
      · rw [if_pos h2, if_pos h2, if_neg (fun e : k' = k => h (e.symm.trans h2))]
      · rw [if_neg h2, if_neg h2, kvGet_set kv k k' d]
theorem kvUp_get (xs : List (List D)) : ∀ (n : Nat) (t : ByteArray), kvGet (kvUp xs n) t = (lastI xs n t).map fun j => .i .i64 j
  | 0, t => rfl
  | n + 1, t => by
    simp only [kvUp, lastI]
    rw [kvGet_set, kvUp_get xs n t]
    split <;> rfl
theorem lastI_lt (xs : List (List D)) : ∀ (n : Nat) (t : ByteArray) (j : Nat), lastI xs n t = some j → j < n
  | 0, _, _, h => by cases h
  | n + 1, t, j, h => by
    simp only [lastI] at h
    split at h
    · simp only [Option.some.injEq] at h; omega
    · have := lastI_lt xs n t j h; omega
theorem lastI_some (xs : List (List D)) : ∀ (n : Nat) (i : Nat), i < n → ∃ j, lastI xs n (nameOf (xs.getD i [])) = some j ∧ i ≤ j ∧ j < n ∧ (j = i ↔ ∀ m, i < m → m < n → nameOf (xs.getD m []) ≠ nameOf (xs.getD i []))
  | 0, i, h => by omega
  | n + 1, i, h => by
    simp only [lastI]
    by_cases he : nameOf (xs.getD i []) = nameOf (xs.getD n [])
    · rw [if_pos he]
      refine ⟨n, rfl, by omega, by omega, ?_, ?_⟩
      · intro e m h1 h2; omega
      · intro hm
        by_cases e : i = n
        · exact e.symm
        · exact absurd he.symm (hm n (by omega) (by omega))
    · rw [if_neg he]
      have hin : i ≠ n := fun e => he (by rw [e])
      obtain ⟨j, h1, h2, h3, h4⟩ := lastI_some xs n i (by omega)
      refine ⟨j, h1, h2, by omega, h4.trans ⟨fun hm m a b => ?_, fun hm m a b => hm m a (by omega)⟩⟩
      by_cases e : m = n
      · subst e; exact fun e2 => he e2.symm
      · exact hm m a (by omega)
theorem all_drop {xs : List (List D)} {p : List D → Bool} {i : Nat} : (xs.drop i).all p = true ↔ ∀ m, i ≤ m → m < xs.length → p (xs.getD m []) = true := by
  rw [List.all_eq_true]
  constructor
  · intro h m h1 h2
    refine h _ ?_
    have : xs.getD m [] = xs[m] := by simp [List.getElem?_eq_getElem h2]
    rw [this, List.mem_iff_getElem]
    exact ⟨m - i, by simp; omega, by simp; congr 1; omega⟩
  · intro h x hx
    obtain ⟨k, hk, rfl⟩ := List.mem_iff_getElem.1 hx
    simp only [List.length_drop] at hk
    have := h (i + k) (by omega) (by omega)
    have e : xs.getD (i + k) [] = xs[i + k] := by simp [List.getElem?_eq_getElem (show i + k < xs.length by omega)]
    rw [e] at this
    simpa using this
/-- The map's answer and the search's agree. -/
theorem last_iff {xs : List (List D)} {i : Nat} (h : i < xs.length) : ∃ j, kvGet (kvUp xs xs.length) (nameOf (xs.getD i [])) = some (.i .i64 (j : Nat)) ∧ j < xs.length ∧ ((j = i) ↔ (xs.drop (i + 1)).all (fun y => !decide (nameOf y = nameOf (xs.getD i []))) = true) := by
  obtain ⟨j, h1, h2, h3, h4⟩ := lastI_some xs xs.length i h
  refine ⟨j, by rw [kvUp_get, h1]; rfl, h3, h4.trans ?_⟩
  rw [all_drop]
  refine ⟨fun hm m a b => by simpa using hm m (by omega) b, fun hm m a b => by simpa using hm m (by omega) b⟩
def trimR (xs : List (List D)) : List (List D) := if 10000 < xs.length then [] else keepS xs
/-- The last records. -/
def trimP (cs : List Sh) : List D → Option D
  | [.l sz xs] => if sz = cs.length ∧ shLL cs xs = true ∧ okLL xs = true ∧ xs.length + wtLL xs ≤ 1048576 then some (.l sz (trimR xs)) else none
  | _ => none
theorem trimP_inv {cs : List Sh} {ds : List D} {r : D} (h : trimP cs ds = some r) : ∃ xs, ds = [.l cs.length xs] ∧ shLL cs xs = true ∧ okLL xs = true ∧ xs.length + wtLL xs ≤ 1048576 ∧ r = .l cs.length (trimR xs) := by
  unfold trimP at h
  split at h
  · split at h
    · rename_i hc
      obtain ⟨rfl, h1, h2, h3⟩ := hc
      simp only [Option.some.injEq] at h
      exact ⟨_, rfl, h1, h2, h3, h.symm⟩
    · cases h
  · cases h
theorem OkO_trimP {cs : List Sh} {sz : Nat} {xs : List (List D)} {K : D → Prop} (hs : sz = cs.length) (h1 : shLL cs xs = true) (h2 : okLL xs = true) (h3 : xs.length + wtLL xs ≤ 1048576) (hk : K (.l sz (trimR xs))) : OkO (trimP cs [.l sz xs]) K := by
  simp only [trimP]; rw [if_pos ⟨hs, h1, h2, h3⟩]; exact hk
def keepP (cs : List Sh) : List D → Option D
  | [.l sz xs] => if sz = cs.length ∧ shLL cs xs = true ∧ okLL xs = true ∧ xs.length + wtLL xs ≤ 1048576 then some (.l sz (keepS xs)) else none
  | _ => none
theorem keepP_inv {cs : List Sh} {ds : List D} {r : D} (h : keepP cs ds = some r) : ∃ xs, ds = [.l cs.length xs] ∧ shLL cs xs = true ∧ okLL xs = true ∧ xs.length + wtLL xs ≤ 1048576 ∧ r = .l cs.length (keepS xs) := by
  unfold keepP at h
  split at h
  · split at h
    · rename_i hc
      obtain ⟨rfl, h1, h2, h3⟩ := hc
      simp only [Option.some.injEq] at h
      exact ⟨_, rfl, h1, h2, h3, h.symm⟩
    · cases h
  · cases h
theorem OkO_keepP {cs : List Sh} {sz : Nat} {xs : List (List D)} {K : D → Prop} (hs : sz = cs.length) (h1 : shLL cs xs = true) (h2 : okLL xs = true) (h3 : xs.length + wtLL xs ≤ 1048576) (hk : K (.l sz (keepS xs))) : OkO (keepP cs [.l sz xs]) K := by
  simp only [keepP]; rw [if_pos ⟨hs, h1, h2, h3⟩]; exact hk
end Go.Fs
