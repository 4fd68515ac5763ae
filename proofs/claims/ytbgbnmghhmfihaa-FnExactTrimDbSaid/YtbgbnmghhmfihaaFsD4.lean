/- A part of the proof: an evaluator of the program's code over plain data, proved sound, or a function's walk by it. No conditions beyond those in the theorems. -/
import Derived.Test.YtbgbnmghhmfihaaFsD3
set_option linter.unusedVariables false
namespace Go.Fs

theorem fill_len {xs : List (List D)} {z : List D} {i : Nat} (h : i ≤ xs.length) : (xs.take i ++ List.replicate (xs.length - i) z).length = xs.length := by
  simp; omega
theorem fill_get {xs : List (List D)} {z : List D} {i : Nat} (h : i < xs.length) : (xs.take i ++ List.replicate (xs.length - i) z).getD i [] = z := by
  have h1 : (xs.take i).length = i := by simp; omega
  simp only [List.getD_eq_getElem?_getD]
  rw [List.getElem?_append_right (by omega), h1, Nat.sub_self, List.getElem?_replicate, if_pos (by omega)]
  rfl
theorem fill_set {xs : List (List D)} {z : List D} {i : Nat} (h : i < xs.length) : (xs.take i ++ List.replicate (xs.length - i) z).set i (xs.getD i []) = xs.take (i + 1) ++ List.replicate (xs.length - (i + 1)) z := by
  have h1 : (xs.take i).length = i := by simp; omega
  rw [List.set_append_right _ _ (by omega), h1, Nat.sub_self]
  have h2 : xs.length - i = xs.length - (i + 1) + 1 := by omega
  rw [h2, List.replicate_succ, List.set_cons_zero]
  have h3 : xs.getD i [] = xs[i] := by simp [List.getElem?_eq_getElem h]
  rw [h3]
  have h4 : xs.take (i + 1) = xs.take i ++ [xs[i]] := by rw [List.take_add_one, List.getElem?_eq_getElem h]; rfl
  rw [h4, List.append_assoc]
  rfl
theorem fill_zero (xs : List (List D)) (z : List D) : xs.take 0 ++ List.replicate (xs.length - 0) z = List.replicate xs.length z := by simp
theorem fill_all (xs : List (List D)) (z : List D) : xs.take xs.length ++ List.replicate (xs.length - xs.length) z = xs := by simp

/-- A copy. -/
def toP (cs : List Sh) : List D → Option D
  | [.l sz xs] => if sz = cs.length ∧ shLL cs xs = true ∧ okLL xs = true ∧ xs.length + wtLL xs ≤ 1048576 then some (.l sz xs) else none
  | _ => none
def toG (cs : List Sh) : List D → Option D
  | [.g ds] => if shL cs ds = true ∧ okL ds = true ∧ wtL ds ≤ 1048576 then some (.g ds) else none
  | _ => none
theorem toP_inv {cs : List Sh} {ds : List D} {r : D} (h : toP cs ds = some r) : ∃ xs, ds = [.l cs.length xs] ∧ shLL cs xs = true ∧ okLL xs = true ∧ xs.length + wtLL xs ≤ 1048576 ∧ r = .l cs.length xs := by
  unfold toP at h
  split at h
  · split at h
    · rename_i hc
      obtain ⟨rfl, h1, h2, h3⟩ := hc
      simp only [Option.some.injEq] at h
      exact ⟨_, rfl, h1, h2, h3, h.symm⟩
    · cases h
  · cases h
theorem toG_inv {cs : List Sh} {ds : List D} {r : D} (h : toG cs ds = some r) : ∃ xs, ds = [.g xs] ∧ shL cs xs = true ∧ okL xs = true ∧ wtL xs ≤ 1048576 ∧ r = .g xs := by
  unfold toG at h
  split at h
  · split at h
    · rename_i hc
      obtain ⟨h1, h2, h3⟩ := hc
      simp only [Option.some.injEq] at h
      exact ⟨_, rfl, h1, h2, h3, h.symm⟩
    · cases h
  · cases h
theorem OkO_toP {cs : List Sh} {sz : Nat} {xs : List (List D)} {K : D → Prop} (hs : sz = cs.length) (h1 : shLL cs xs = true) (h2 : okLL xs = true) (h3 : xs.length + wtLL xs ≤ 1048576) (hk : K (.l sz xs)) : OkO (toP cs [.l sz xs]) K := by
  simp only [toP]; rw [if_pos ⟨hs, h1, h2, h3⟩]; exact hk
theorem OkO_toG {cs : List Sh} {ds : List D} {K : D → Prop} (h1 : shL cs ds = true) (h2 : okL ds = true) (h3 : wtL ds ≤ 1048576) (hk : K (.g ds)) : OkO (toG cs [.g ds]) K := by
  simp only [toG]; rw [if_pos ⟨h1, h2, h3⟩]; exact hk

/-- Whether two are the same. -/
def eqP (cs : List Sh) : List D → Option D
  | [.l sz xs, .l sz' ys] => if sz = cs.length ∧ sz' = cs.length ∧ shLL cs xs = true ∧ shLL cs ys = true ∧ okLL xs = true ∧ okLL ys = true ∧ xs.length ≤ 140737488355328 ∧ ys.length ≤ 140737488355328 then some (.b (eqLL xs ys)) else none
  | _ => none
def eqG (cs : List Sh) : List D → Option D
  | [.g xs, .g ys] => if shL cs xs = true ∧ shL cs ys = true ∧ okL xs = true ∧ okL ys = true then some (.b (eqL xs ys)) else none
  | _ => none
theorem eqP_inv {cs : List Sh} {ds : List D} {r : D} (h : eqP cs ds = some r) : ∃ xs ys, ds = [.l cs.length xs, .l cs.length ys] ∧ shLL cs xs = true ∧ shLL cs ys = true ∧ okLL xs = true ∧ okLL ys = true ∧ xs.length ≤ 140737488355328 ∧ ys.length ≤ 140737488355328 ∧ r = .b (eqLL xs ys) := by
  unfold eqP at h
  split at h
  · split at h
    · rename_i hc
      obtain ⟨rfl, rfl, h1, h2, h3, h4, h5, h6⟩ := hc
      simp only [Option.some.injEq] at h
      exact ⟨_, _, rfl, h1, h2, h3, h4, h5, h6, h.symm⟩
    · cases h
  · cases h
theorem eqG_inv {cs : List Sh} {ds : List D} {r : D} (h : eqG cs ds = some r) : ∃ xs ys, ds = [.g xs, .g ys] ∧ shL cs xs = true ∧ shL cs ys = true ∧ okL xs = true ∧ okL ys = true ∧ r = .b (eqL xs ys) := by
  unfold eqG at h
  split at h
  · split at h
    · rename_i hc
      obtain ⟨h1, h2, h3, h4⟩ := hc
      simp only [Option.some.injEq] at h
      exact ⟨_, _, rfl, h1, h2, h3, h4, h.symm⟩
    · cases h
  · cases h
theorem OkO_eqP {cs : List Sh} {sz sz' : Nat} {xs ys : List (List D)} {K : D → Prop} (hs : sz = cs.length) (hs' : sz' = cs.length) (h1 : shLL cs xs = true) (h2 : shLL cs ys = true) (h3 : okLL xs = true) (h4 : okLL ys = true) (h5 : xs.length ≤ 140737488355328) (h6 : ys.length ≤ 140737488355328) (hk : K (.b (eqLL xs ys))) : OkO (eqP cs [.l sz xs, .l sz' ys]) K := by
  simp only [eqP]; rw [if_pos ⟨hs, hs', h1, h2, h3, h4, h5, h6⟩]; exact hk
theorem OkO_eqG {cs : List Sh} {xs ys : List D} {K : D → Prop} (h1 : shL cs xs = true) (h2 : shL cs ys = true) (h3 : okL xs = true) (h4 : okL ys = true) (hk : K (.b (eqL xs ys))) : OkO (eqG cs [.g xs, .g ys]) K := by
  simp only [eqG]; rw [if_pos ⟨h1, h2, h3, h4⟩]; exact hk
theorem eqL_nil' : eqL [] [] = true := rfl
theorem eqL_cons' (c d : D) (cs ds : List D) : eqL (c :: cs) (d :: ds) = (eqD c d && eqL cs ds) := rfl
theorem eqD_s' (x y : ByteArray) : eqD (.s x) (.s y) = decide (x = y) := rfl
theorem eqD_l' (sz : Nat) (xs ys : List (List D)) : eqD (.l sz xs) (.l sz ys) = eqLL xs ys := by simp [eqD]
theorem eqD_i' (m n : Int) : eqD (.i .i64 m) (.i .i64 n) = decide (m = n) := by
  simp only [eqD, beq_self_eq_true, Bool.true_and]
  rfl
theorem eqD_b' (x y : Bool) : eqD (.b x) (.b y) = (x == y) := rfl

/-- The text of a mark. -/
def mtP : List D → Option D
  | [.i .i64 k] => if k ≤ 4611686018427387904 then some (.s (mtext k)) else none
  | _ => none
theorem mtP_inv {ds : List D} {r : D} (h : mtP ds = some r) : ∃ k, ds = [.i .i64 k] ∧ k ≤ 4611686018427387904 ∧ r = .s (mtext k) := by
  unfold mtP at h
  split at h
  · split at h
    · rename_i hc
      simp only [Option.some.injEq] at h
      exact ⟨_, rfl, hc, h.symm⟩
    · cases h
  · cases h
theorem OkO_mtP {k : Int} {K : D → Prop} (h : k ≤ 4611686018427387904) (hk : K (.s (mtext k))) : OkO (mtP [.i .i64 k]) K := by
  simp only [mtP]; rw [if_pos h]; exact hk
theorem wrapu8 {n : Int} (h1 : 0 ≤ n) (h2 : n < 256) : IntKind.u8.wrap n = n := by
  have e : (2 ^ IntKind.u8.bits : Int) = 256 := by decide
  have e3 : IntKind.u8.signed = false := rfl
  unfold IntKind.wrap
  rw [e, e3]
  simp only [Bool.false_and, Bool.false_eq_true, if_false]
  omega
theorem tmod10 (k : Nat) : (k : Int).tmod 10 = (k : Int) % 10 := Int.tmod_eq_emod_of_nonneg (by omega)
theorem tdiv10 (k : Nat) : (k : Int).tdiv 10 = ((k / 10 : Nat) : Int) := by
  rw [Int.tdiv_eq_ediv_of_nonneg (by omega)]; omega
theorem bytesS_one (n : Int) : (bytesS [n]).size = 1 := rfl
theorem mtGo_pos {k : Nat} {out : ByteArray} (h : 0 < k) : mtGo k out = mtGo (k / 10) (bytesS [48 + (k : Int) % 10] ++ out) := by
  rw [mtGo, dif_neg (by omega)]
theorem mtGo_zero (out : ByteArray) : mtGo 0 out = out := by rw [mtGo, dif_pos rfl]
theorem mtext_pos {k : Int} (h : 0 < k) : mtext k = ⟨#[109]⟩ ++ mtGo k.toNat .empty := if_neg (by omega)
theorem mtext_neg {k : Int} (h : k ≤ 0) : mtext k = ⟨#[109, 48]⟩ := if_pos h
theorem range_0 : List.range 0 = [] := rfl
theorem range_1 : List.range 1 = [0] := rfl
theorem range_2 : List.range 2 = [0, 1] := rfl
theorem chunk_0 (sz : Nat) (ds : List D) : chunk sz 0 ds = [] := rfl
theorem chunk_1 (sz : Nat) (ds : List D) : chunk sz 1 ds = [ds.take sz] := rfl
theorem chunk_2 (sz : Nat) (ds : List D) : chunk sz 2 ds = [ds.take sz, (ds.drop sz).take sz] := rfl
end Go.Fs
