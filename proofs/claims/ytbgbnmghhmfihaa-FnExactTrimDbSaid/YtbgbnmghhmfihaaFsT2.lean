/- A part of the proof: an evaluator of the program's code over plain data, proved sound, or a function's walk by it. No conditions beyond those in the theorems. -/
import Derived.Test.YtbgbnmghhmfihaaFsT1
set_option linter.unusedVariables false
namespace Go.Fs

/-! ### marks are not many -/
mutual
def shW : Sh → Bool
  | .l cs => decide (cs.length ≤ 16) && shWL cs
  | _ => true
def shWL : List Sh → Bool
  | [] => true
  | c :: cs => shW c && shWL cs
end
mutual
theorem lv_le : ∀ (c : Sh) (d : D), shD c d = true → shW c = true → lv d ≤ 16 * wt d + 1
  | c, .b _, _, _ => by simp [lv]
  | c, .i _ _, _, _ => by simp [lv]
  | c, .s _, _, _ => by simp [lv]
  | .l cs, .l sz xs, h, hw => by
    simp only [shD, Bool.and_eq_true] at h
    simp only [shW, Bool.and_eq_true, decide_eq_true_eq] at hw
    have := lvLL_le cs xs h.2 hw.1 hw.2
    simp only [lv, wt]; omega
  | .t, .l sz xs, h, hw => by
    simp only [shD, Bool.and_eq_true] at h
    have := lvLL_le treeS xs h.2 (by decide) (by decide)
    simp only [lv, wt]; omega
  | .b, .l sz xs, h, _ => by simp [shD] at h
  | .i, .l sz xs, h, _ => by simp [shD] at h
  | .s, .l sz xs, h, _ => by simp [shD] at h
  | c, .g cs, _, _ => by simp [lv]
  | c, .f fn caps, _, _ => by simp [lv]
  | c, .p cs, _, _ => by simp [lv]
  | c, .n, _, _ => by simp [lv]
  | c, .t vs, _, _ => by simp [lv]
  | c, .u, _, _ => by simp [lv]
theorem lvL_le : ∀ (cs : List Sh) (ds : List D), shL cs ds = true → shWL cs = true → lvL ds ≤ 16 * wtL ds + cs.length
  | [], [], _, _ => by simp [lvL]
  | c :: cs, d :: ds, h, hw => by
    simp only [shL, Bool.and_eq_true] at h
    simp only [shWL, Bool.and_eq_true] at hw
    have h1 := lv_le c d h.1 hw.1
    have h2 := lvL_le cs ds h.2 hw.2
    simp only [lvL, wtL, List.length_cons]; omega
  | [], _ :: _, h, _ => by simp [shL] at h
  | _ :: _, [], h, _ => by simp [shL] at h
theorem lvLL_le : ∀ (cs : List Sh) (xs : List (List D)), shLL cs xs = true → cs.length ≤ 16 → shWL cs = true → lvLL xs ≤ 16 * (xs.length + wtLL xs)
  | cs, [], _, _, _ => by simp [lvLL]
  | cs, x :: xs, h, hl, hw => by
    simp only [shLL, Bool.and_eq_true] at h
    have h1 := lvL_le cs x h.1 hw
    have h2 := lvLL_le cs xs h.2 hl hw
    simp only [lvLL, wtLL, List.length_cons]; omega
end

/-! ### part of a list -/
theorem sh_sub {cs : List Sh} : ∀ {ys xs : List (List D)}, ys.Sublist xs → shLL cs xs = true → shLL cs ys = true
  | _, _, .slnil, _ => rfl
  | _, _, .cons x h, hx => by simp only [shLL, Bool.and_eq_true] at hx; exact sh_sub h hx.2
  | _, _, .cons_cons x h, hx => by simp only [shLL, Bool.and_eq_true] at hx ⊢; exact ⟨hx.1, sh_sub h hx.2⟩
theorem ok_sub : ∀ {ys xs : List (List D)}, ys.Sublist xs → okLL xs = true → okLL ys = true
  | _, _, .slnil, _ => rfl
  | _, _, .cons x h, hx => by simp only [okLL, Bool.and_eq_true] at hx; exact ok_sub h hx.2
  | _, _, .cons_cons x h, hx => by simp only [okLL, Bool.and_eq_true] at hx ⊢; exact ⟨hx.1, ok_sub h hx.2⟩
theorem wt_sub : ∀ {ys xs : List (List D)}, ys.Sublist xs → wtLL ys ≤ wtLL xs
  | _, _, .slnil => Nat.le_refl _
  | _, _, .cons x h => by have := wt_sub h; simp only [wtLL]; omega
  | _, _, .cons_cons x h => by have := wt_sub h; simp only [wtLL]; omega
theorem keepS_sub : ∀ (xs : List (List D)), (keepS xs).Sublist xs
  | [] => .slnil
  | x :: xs => by
    simp only [keepS]
    split
    · exact (keepS_sub xs).cons_cons x
    · exact (keepS_sub xs).cons x
theorem trimR_sub (xs : List (List D)) : (trimR xs).Sublist xs := by
  unfold trimR
  split
  · exact List.nil_sublist xs
  · exact keepS_sub xs

/-- What a law function gives. -/
def lawP (cs : List Sh) : List D → Option D
  | [.l sz xs] => if sz = cs.length ∧ shLL cs xs = true ∧ okLL xs = true ∧ xs.length ≤ 140737488355328 then some (.b true) else none
  | _ => none
theorem lawP_inv {cs : List Sh} {ds : List D} {r : D} (h : lawP cs ds = some r) : ∃ xs, ds = [.l cs.length xs] ∧ shLL cs xs = true ∧ okLL xs = true ∧ xs.length ≤ 140737488355328 ∧ r = .b true := by
  unfold lawP at h
  split at h
  · split at h
    · rename_i hc
      obtain ⟨rfl, h1, h2, h3⟩ := hc
      simp only [Option.some.injEq] at h
      exact ⟨_, rfl, h1, h2, h3, h.symm⟩
    · cases h
  · cases h
end Go.Fs
