/- A part of the proof: an evaluator of the program's code over plain data, proved sound, and walks of the program's functions by it. No conditions beyond those in the theorems. -/
import Derived.Test.YtbgbnmghhmfihaaGreatLawMp23
import Derived.Test.YtbgbnmghhmfihaaGreatLawMp20
import Derived.Test.YtbgbnmghhmfihaaGreatLawMp21
set_option linter.unusedVariables false
set_option linter.unusedSimpArgs false
set_option linter.constructorNameAsVariable false
set_option linter.unusedSectionVars false
set_option linter.defProp false
set_option linter.unusedVariables false
set_option maxRecDepth 4000
namespace Go.Fs.Se
open Cel (cel unc)
open Dat (enc dec)
open Arg (ea da)
/-! ### folding a node whose kids are folded -/
theorem NE_mem {es : List TreeExpr} : ∀ k ∈ es, NE k ≤ NL es := by
  induction es with
  | nil => intro k hk; cases hk
  | cons e es ih =>
    intro k hk
    rw [NL_cons]
    cases hk with
    | head => omega
    | tail _ hk => have := ih k hk; omega
theorem flag_num {e : TreeExpr} (h : n132 e = some true) (k : e.kind = 2) : e.num = 0 ∨ e.num = 1 := by
  rw [n132_eq, k, if_neg (by decide), if_pos rfl] at h
  by_cases hl : (e.kids.length : Int) = 0
  · rw [if_pos hl, n171_eq] at h
    simp only [bindB, Option.bind_some, Option.some.injEq, Bool.and_eq_true, Bool.or_eq_true, decide_eq_true_eq] at h
    exact h.2
  · rw [if_neg hl] at h
    simp [bindB] at h
theorem if_len {e : TreeExpr} (h : n132 e = some true) (k : e.kind = 5) : e.kids.length = 3 := by
  rw [n132_eq, k, if_neg (by decide), if_neg (by decide), if_neg (by decide), if_neg (by decide), if_pos rfl] at h
  by_cases hl : (e.kids.length : Int) = 3
  · omega
  · rw [if_neg hl] at h; cases h
theorem prim_len {e : TreeExpr} (h : n132 e = some true) (k : e.kind = 4) : n172 e.name = some (e.kids.length : Int) := by
  rw [n132_eq, k, if_neg (by decide), if_neg (by decide), if_neg (by decide), if_pos rfl, n171_eq, Option.bind_some] at h
  split at h
  · obtain ⟨n, h1, h2⟩ := Option.bind_eq_some_iff.1 h
    simp only [Option.some.injEq, decide_eq_true_eq] at h2
    rw [h1, h2]
  · cases h
theorem known_ok {k : TreeExpr} (hr : n132 k = some true) (hok : okE k) : (∃ v, n79 k = some (v, true) ∧ ValP v ∧ v.kind = k.kind ∧ v.num = k.num) ∨ (k.kind ≠ 1 ∧ k.kind ≠ 2 ∧ n79 k = some (⟨0, 0, []⟩, false)) := by
  have hn := ((okE_iff k).1 hok).2.1
  rw [n79_eq]
  by_cases k1 : k.kind = 1
  · rw [if_pos k1, n137_eq]
    exact .inl ⟨_, rfl, ⟨rfl, .inl ⟨rfl, hn⟩⟩, k1.symm, rfl⟩
  · rw [if_neg k1]
    by_cases k2 : k.kind = 2
    · rw [if_pos k2, n138_eq]
      rcases flag_num hr k2 with h | h
      · rw [if_neg (by simp [h])]
        exact .inl ⟨_, rfl, ⟨rfl, .inr ⟨rfl, .inl rfl⟩⟩, k2.symm, h.symm⟩
      · rw [if_pos (by simp [h])]
        exact .inl ⟨_, rfl, ⟨rfl, .inr ⟨rfl, .inr rfl⟩⟩, k2.symm, h.symm⟩
    · rw [if_neg k2]
      exact .inr ⟨k1, k2, rfl⟩
noncomputable def end145 (g : TreeExpr) (r2 : List MeanVal) : Option (TreeExpr × Bool) := (n165 g.name r2).bind fun y2 => if decide (y2.snd = 0) = false then some (TreeExpr.mk 0 0 ByteArray.empty ByteArray.empty [], false) else (n181 y2.fst).bind fun y3 => some (y3.fst, y3.snd)
noncomputable def end105 (g : TreeExpr) (r2 : List MeanVal) : Option TreeExpr := bindB (if g.name = ByteArray.mk #[112, 114, 105, 110, 116] then some true else (n134 g.name r2).bind fun y8 => some !y8) fun y9 => if y9 = true then some g else (n135 g.name r2).bind fun y10 => (n136 y10.fst).bind fun y11 => if 0 < y10.snd ∨ y11.snd = false then some g else some y11.fst
theorem reck (g : TreeExpr) (hl : g.kids.length ≤ 1048576) (hk : ∀ k ∈ g.kids, n132 k = some true ∧ okE k) :
    (n143 g = some (⟨0, 0, .empty, .empty, []⟩, false) ∧ n78 g = some g) ∨ ∃ vs, vs.length = g.kids.length ∧ (∀ v ∈ vs, ValP v) ∧ n143 g = end145 g vs ∧ n78 g = end105 g vs := by
  have loop : ∀ (ys : List TreeExpr) (i : Nat) (r : List MeanVal), g.kids.drop i = ys → r.length = i → i ≤ g.kids.length → (∀ v ∈ r, ValP v) →
      (l143_3 g (i : Int) r = some (⟨0, 0, .empty, .empty, []⟩, false) ∧ l78_3 g (i : Int) r = some g) ∨ ∃ vs, vs.length = g.kids.length ∧ (∀ v ∈ vs, ValP v) ∧ l143_3 g (i : Int) r = end145 g vs ∧ l78_3 g (i : Int) r = end105 g vs := by
    intro ys
    induction ys with
    | nil =>
      intro i r hd hr hi hv
      have := dropEnd hd
      refine .inr ⟨r, by omega, hv, ?_, ?_⟩
      · rw [l143_3_eq, if_neg (by omega)]; rfl
      · rw [l78_3_eq, if_neg (by omega)]; rfl
    | cons y ys ih =>
      intro i r hd hr hi hv
      obtain ⟨d1, d2, d3, d4⟩ := dropAt hd
      obtain ⟨q1, q2⟩ := hk y (mem_drop hd)
      have e1 : ∀ {X : Option TreeExpr}, l78_3 g (i : Int) r = (n79 y).bind (fun y7 => if y7.snd = false then some g else if (r.length + 1) * 40 ≤ 140737488355328 ∧ r.length ≤ 140737488355327 then l78_3 g (IntKind.i64.wrap ((i : Int) + 1)) (r ++ [y7.fst]) else none) := by
        intro _
        rw [l78_3_eq, if_pos (by omega)]
        simp only [d2, d3, Int.toNat_natCast, Option.bind_some, eta_TreeExpr]
      have e2 : l143_3 g (i : Int) r = (n79 y).bind (fun y1 => if y1.snd = false then some (TreeExpr.mk 0 0 ByteArray.empty ByteArray.empty [], false) else if (r.length + 1) * 40 ≤ 140737488355328 ∧ r.length ≤ 140737488355327 then l143_3 g (IntKind.i64.wrap ((i : Int) + 1)) (r ++ [y1.fst]) else none) := by
        rw [l143_3_eq, if_pos (by omega)]
        simp only [d2, Option.bind_some, known_eq]
      rw [e1 (X := none), e2]
      rcases known_ok q1 q2 with ⟨v, v1, v2, _, _⟩ | ⟨_, _, v1⟩
      · have hm : (r.length + 1) * 40 ≤ 140737488355328 ∧ r.length ≤ 140737488355327 := ⟨by omega, by omega⟩
        simp only [v1, Option.bind_some, Bool.true_eq_false, if_false, hm, and_self, if_true, wrN (n := i) (by omega)]
        refine ih (i + 1) (r ++ [v]) d4 (by simp [hr]) (by omega) fun u hu => ?_
        rcases List.mem_append.1 hu with hu | hu
        · exact hv u hu
        · obtain rfl := List.mem_singleton.1 hu; exact v2
      · rw [v1, Option.bind_some, Option.bind_some, if_pos rfl, if_pos rfl]
        exact .inl ⟨rfl, rfl⟩
  have := loop g.kids 0 [] rfl rfl (by omega) (by simp)
  rw [n143_eq, n78_eq]
  exact this
theorem lit_ok {v : MeanVal} (hv : ValP v) : ∃ r b, n181 v = some (r, b) ∧ n136 v = some (r, b) ∧ (b = true → r.kids = [] ∧ okE r ∧ RightP r) := by
  have fin : ∀ k : Int, (k = 1 ∨ k = 2) → (-9223372036854775808 ≤ v.num ∧ v.num < 9223372036854775808) → ∃ b, n132 (TreeExpr.mk k v.num .empty .empty []) = some b ∧ n177 (TreeExpr.mk k v.num .empty .empty []) = some b ∧ (b = true → (TreeExpr.mk k v.num .empty .empty []).kids = [] ∧ okE (TreeExpr.mk k v.num .empty .empty []) ∧ RightP (TreeExpr.mk k v.num .empty .empty [])) := by
    intro k hk hn
    obtain ⟨b, h1, h2⟩ := node_ok (TreeExpr.mk k v.num .empty .empty []) (Nat.zero_le _) (Nat.zero_le _)
    refine ⟨b, h1, h2, fun hb => ⟨rfl, ?_, right_mk (by simp) (hb ▸ h1) (by simp)⟩⟩
    rw [okE_iff]
    have hb : -9223372036854775808 ≤ k ∧ k < 9223372036854775808 := by rcases hk with rfl | rfl <;> decide
    exact ⟨hb, hn, Nat.zero_le _, Nat.zero_le _, Nat.zero_le _, rfl⟩
  obtain ⟨_, hv | hv⟩ := hv
  · obtain ⟨b, h1, h2, h3⟩ := fin 1 (.inl rfl) hv.2
    refine ⟨_, b, ?_, ?_, h3⟩
    · rw [n181_eq, hv.1, if_neg (by decide), if_pos (by decide), if_pos (by decide), h2]; rfl
    · rw [n136_eq, hv.1, if_neg (by decide), if_pos (by decide), if_pos (by decide), h1]; rfl
  · obtain ⟨b, h1, h2, h3⟩ := fin 2 (.inr rfl) (by rcases hv.2 with h | h <;> omega)
    refine ⟨_, b, ?_, ?_, h3⟩
    · rw [n181_eq, hv.1, if_pos (by decide), if_pos (by decide), if_pos (by decide), h2]; rfl
    · rw [n136_eq, hv.1, if_pos (by decide), if_pos (by decide), if_pos (by decide), h1]; rfl
theorem map_two {vs : List MeanVal} {a b : Int} (h : vs.map (·.kind) = [a, b]) : ∃ x y, vs = [x, y] ∧ x.kind = a ∧ y.kind = b := by
  match vs, h with
  | [x, y], h => simp only [List.map_cons, List.map_nil, List.cons.injEq, and_true] at h; exact ⟨x, y, rfl, h.1, h.2⟩
theorem map_one {vs : List MeanVal} {a : Int} (h : vs.map (·.kind) = [a]) : ∃ x, vs = [x] ∧ x.kind = a := by
  match vs, h with
  | [x], h => simp only [List.map_cons, List.map_nil, List.cons.injEq, and_true] at h; exact ⟨x, rfl, h⟩
theorem no_row {vs : List MeanVal} {l : List Int} (hv : ∀ v ∈ vs, ValP v) (h : vs.map (·.kind) = 3 :: l) : False := by
  cases vs with
  | nil => cases h
  | cons x xs =>
    simp only [List.map_cons, List.cons.injEq] at h
    have := (hv x (.head _)).2
    omega
theorem calc_all (s : ByteArray) (hs : s ∈ P16) (n1 : s ≠ ⟨#[112, 114, 105, 110, 116]⟩) (n2 : s ≠ ⟨#[97, 110, 100]⟩) (n3 : s ≠ ⟨#[111, 114]⟩) (vs : List MeanVal) (hv : ∀ v ∈ vs, ValP v) (want : List Int) (t : Int) (hw : n106 s = some (want, t)) (hk : vs.map (·.kind) = want) : CalcP s vs := by
  have bin : ∀ s : ByteArray, s ∈ P16 → primN s ≤ 8 → n106 s = some (want, t) → want = [1, 1] → CalcP s vs := by
    intro s hs h8 _ e
    rw [e] at hk
    obtain ⟨x, y, rfl, kx, ky⟩ := map_two hk
    exact calc2 s hs h8 x y (hv x (by simp)) (hv y (by simp)) kx ky
  have wt : ∀ {s : ByteArray} {w : List Int} {u : Int}, n106 s = some (want, t) → n106 s = some (w, u) → want = w := by
    intro s w u h1 h2
    rw [h1] at h2
    simp only [Option.some.injEq, Prod.mk.injEq] at h2
    exact h2.1
  have T : ∀ {s : ByteArray} {w : List Int} {u : Int}, ((some (primN s)).bind fun y0 => if y0 = 0 then some ([], 0) else if y0 ≤ 5 then some ([1, 1], 1) else if y0 ≤ 8 then some ([1, 1], 2) else if y0 = 9 then some ([2], 2) else if y0 = 10 then some ([3, 1], 1) else if y0 = 11 then some ([3], 1) else if y0 = 12 then some ([3, 1, 1], 3) else if y0 = 13 then some ([3, 3], 3) else if y0 = 14 then some ([1], 1) else some ([2, 2], 2)) = some (w, u) → n106 s = some (w, u) := by
    intro s w u h
    rw [n106_eq, n76_ok]; exact h
  refine prim_cases (C := fun s => s ∈ P16 → s ≠ ⟨#[112, 114, 105, 110, 116]⟩ → s ≠ ⟨#[97, 110, 100]⟩ → s ≠ ⟨#[111, 114]⟩ → n106 s = some (want, t) → CalcP s vs) s ?_ ?_ ?_ ?_ ?_ ?_ ?_ ?_ ?_ ?_ ?_ ?_ ?_ ?_ ?_ ?_ (fun h h' => absurd h' h) hs n1 n2 n3 hw
  · intro a _ _ _ hw; exact bin _ a (by decide +kernel) hw (wt hw (T (u := 1) (by decide +kernel)))
  · intro a _ _ _ hw; exact bin _ a (by decide +kernel) hw (wt hw (T (u := 1) (by decide +kernel)))
  · intro a _ _ _ hw; exact bin _ a (by decide +kernel) hw (wt hw (T (u := 1) (by decide +kernel)))
  · intro a _ _ _ hw; exact bin _ a (by decide +kernel) hw (wt hw (T (u := 1) (by decide +kernel)))
  · intro a _ _ _ hw; exact bin _ a (by decide +kernel) hw (wt hw (T (u := 1) (by decide +kernel)))
  · intro a _ _ _ hw; exact bin _ a (by decide +kernel) hw (wt hw (T (u := 2) (by decide +kernel)))
  · intro a _ _ _ hw; exact bin _ a (by decide +kernel) hw (wt hw (T (u := 2) (by decide +kernel)))
  · intro a _ _ _ hw; exact bin _ a (by decide +kernel) hw (wt hw (T (u := 2) (by decide +kernel)))
  · intro a _ _ _ hw
    have := wt hw (T (w := [2]) (u := 2) (by decide +kernel))
    rw [this] at hk
    obtain ⟨x, rfl, _⟩ := map_one hk
    exact calc1 x
  · intro a _ _ _ hw
    have := wt hw (T (w := [3, 1]) (u := 1) (by decide +kernel))
    rw [this] at hk
    exact (no_row hv hk).elim
  · intro a _ _ _ hw
    have := wt hw (T (w := [3]) (u := 1) (by decide +kernel))
    rw [this] at hk
    exact (no_row hv hk).elim
  · intro a _ _ _ hw
    have := wt hw (T (w := [3, 1, 1]) (u := 3) (by decide +kernel))
    rw [this] at hk
    exact (no_row hv hk).elim
  · intro a _ _ _ hw
    have := wt hw (T (w := [3, 3]) (u := 3) (by decide +kernel))
    rw [this] at hk
    exact (no_row hv hk).elim
  · intro a h; exact absurd rfl h
  · intro a _ h; exact absurd rfl h
  · intro a _ _ h; exact absurd rfl h
/-- What is right of what a node comes to. -/
def OutP (g r : TreeExpr) : Prop := r = g ∨ r ∈ g.kids ∨ (r.kids = [] ∧ okE r ∧ RightP r)
theorem reck_ok (g : TreeExpr) (hl : g.kids.length ≤ 1048576) (hk : ∀ k ∈ g.kids, n132 k = some true ∧ okE k) (hs : g.name ∈ P16) (n1 : g.name ≠ ⟨#[112, 114, 105, 110, 116]⟩) (n2 : g.name ≠ ⟨#[97, 110, 100]⟩) (n3 : g.name ≠ ⟨#[111, 114]⟩) :
    ∃ r, ((n143 g).bind fun y16 => if y16.snd = true then some y16.fst else some g) = some r ∧ n78 g = some r ∧ OutP g r := by
  rcases reck g hl hk with ⟨h1, h2⟩ | ⟨vs, hvl, hv, h1, h2⟩
  · exact ⟨g, by rw [h1]; rfl, h2, .inl rfl⟩
  · obtain ⟨want, t, w1, w2, w3, _⟩ := type_ok g.name hs
    have hf := fits_ok g.name vs (by omega) want t w1 w3
    rw [h1, h2]
    unfold end145 end105
    rw [if_neg n1, hf, n165_eq, w2, Option.bind_some, if_neg w3, kinds_ok vs (by omega), Option.bind_some, same_ok _ _ (by rw [List.length_map]; omega), Option.bind_some]
    by_cases he : vs.map (·.kind) = want
    · obtain ⟨v, u, c1, c2, c3, c4, c5⟩ := calc_all g.name hs n1 n2 n3 vs hv want t w1 he
      simp only [he, decide_true, Bool.not_true, bindB, Option.bind_some, Bool.false_eq_true, if_false, c1, c2]
      by_cases hu : u = 0
      · subst hu
        obtain ⟨r, b, l1, l2, l3⟩ := lit_ok (c4 rfl)
        simp only [decide_true, Bool.true_eq_false, if_false, l1, l2, Option.bind_some]
        cases b with
        | true => exact ⟨r, by simp, by simp, .inr (.inr (l3 rfl))⟩
        | false => exact ⟨g, by simp, by simp, .inl rfl⟩
      · have hpos : 0 < u := by omega
        have hd : decide (u = 0) = false := by simp [hu]
        refine ⟨g, by simp [hu], ?_, .inl rfl⟩
        obtain rfl := c5 hu
        obtain ⟨b, l1, _⟩ := node_ok (TreeExpr.mk 1 0 .empty .empty []) (by decide) (by decide)
        have l2 : n136 ⟨0, 0, []⟩ = some (TreeExpr.mk 1 0 .empty .empty [], b) := by
          rw [n136_eq, if_neg (by decide), if_pos (by decide), if_pos (by decide), l1]; rfl
        simp [l2, hpos]
    · simp only [he, decide_false, Bool.not_false, bindB, Option.bind_some, if_true]
      exact ⟨g, by simp, rfl, .inl rfl⟩
/-! ### a node, folded by both -/
noncomputable def end64 (g : TreeExpr) : Option TreeExpr := bindB (if g.kind = 4 then (n76 g.name).bind fun y2 => some (decide (14 < y2)) else some false) fun y3 => if y3 = true then n77 g else if g.kind = 4 then n78 g else if g.kind = 5 then (getI g.kids 0).bind fun y4 => g.kids[0]?.bind fun y7 => g.kids[0]?.bind fun y10 => (n79 (TreeExpr.mk y7.kind y7.num y7.name y7.mod y10.kids)).bind fun y11 => if y11.snd = true ∧ y11.fst.kind = 2 then (getI g.kids (IntKind.i64.wrap (2 - y11.fst.num))).bind fun y12 => g.kids[(IntKind.i64.wrap (2 - y11.fst.num)).toNat]?.bind fun y15 => g.kids[(IntKind.i64.wrap (2 - y11.fst.num)).toNat]?.bind fun y18 => some (TreeExpr.mk y15.kind y15.num y15.name y15.mod y18.kids) else some g else some g
theorem len3 {es : List TreeExpr} (h : es.length = 3) : ∃ a b c, es = [a, b, c] := by
  match es, h with
  | [a, b, c], _ => exact ⟨a, b, c, rfl⟩
theorem len2 {es : List TreeExpr} (h : es.length = 2) : ∃ a b, es = [a, b] := by
  match es, h with
  | [a, b], _ => exact ⟨a, b, rfl⟩
theorem node_if (g : TreeExpr) (k5 : g.kind = 5) (h0 : n132 g = some true) (hk : ∀ k ∈ g.kids, n132 k = some true ∧ okE k) : ∃ r, n90 g = some r ∧ end64 g = some r ∧ OutP g r := by
  obtain ⟨a, b, c, hab⟩ := len3 (if_len h0 k5)
  obtain ⟨qa, qo⟩ := hk a (by rw [hab]; simp)
  have w1 : IntKind.i64.wrap (2 - 1) = 1 := by decide
  have w0 : IntKind.i64.wrap (2 - 0) = 2 := by decide
  have g0 : ∀ x y z : TreeExpr, getI [x, y, z] 0 = some x := fun _ _ _ => rfl
  have g1 : ∀ x y z : TreeExpr, getI [x, y, z] 1 = some y := fun _ _ _ => rfl
  have g2 : ∀ x y z : TreeExpr, getI [x, y, z] 2 = some z := fun _ _ _ => rfl
  have i0 : ∀ x y z : TreeExpr, [x, y, z][0]? = some x := fun _ _ _ => rfl
  have i1 : ∀ x y z : TreeExpr, [x, y, z][(1 : Int).toNat]? = some y := fun _ _ _ => rfl
  have i2 : ∀ x y z : TreeExpr, [x, y, z][(2 : Int).toNat]? = some z := fun _ _ _ => rfl
  have d4 : (5 : Int) = 4 ↔ False := by decide
  have e109 := n90_eq g
  have e64 : end64 g = _ := rfl
  unfold end64 at e64 ⊢
  clear e64
  simp only [k5, hab, g0, i0, Option.bind_some, bindB, if_true, d4, if_false, Bool.false_eq_true, eta_TreeExpr] at e109 ⊢
  rcases known_ok qa qo with ⟨v, v1, v2, v3, v4⟩ | ⟨u1, u2, v1⟩
  · rw [v1]
    simp only [Option.bind_some, true_and]
    by_cases a2 : a.kind = 2
    · have hv2 : v.kind = 2 := by rw [v3, a2]
      simp only [a2, decide_true, if_true] at e109
      rw [if_pos hv2, v4]
      rcases flag_num qa a2 with h | h
      · simp only [h, w0, g2, Option.bind_some, i2, eta_TreeExpr] at e109 ⊢
        exact ⟨c, e109, rfl, .inr (.inl (by rw [hab]; simp))⟩
      · simp only [h, w1, g1, Option.bind_some, i1, eta_TreeExpr] at e109 ⊢
        exact ⟨b, e109, rfl, .inr (.inl (by rw [hab]; simp))⟩
    · have hv2 : v.kind ≠ 2 := by rw [v3]; exact a2
      rw [if_neg hv2]
      simp only [a2, decide_false, Bool.false_eq_true, if_false, decide_true, true_or, if_true] at e109
      exact ⟨g, e109, rfl, .inl rfl⟩
  · rw [v1]
    simp only [Option.bind_some, Bool.false_eq_true, false_and, if_false]
    simp only [u2, decide_false, Bool.false_eq_true, if_false, decide_true, true_or, if_true] at e109
    exact ⟨g, e109, rfl, .inl rfl⟩
theorem node_else (g : TreeExpr) (k4 : g.kind ≠ 4) (k5 : g.kind ≠ 5) : n90 g = some g ∧ end64 g = some g := by
  rw [n90_eq]
  unfold end64
  simp [k4, k5, bindB]
theorem node_prim (g : TreeExpr) (k4 : g.kind = 4) (h0 : n132 g = some true) (hl : g.kids.length ≤ 1048576) (hk : ∀ k ∈ g.kids, n132 k = some true ∧ okE k) : ∃ r, n90 g = some r ∧ end64 g = some r ∧ OutP g r := by
  have har := prim_len h0 k4
  have hs : g.name ∈ P16 := by
    by_cases h : g.name ∈ P16
    · exact h
    · have e : n172 g.name = some (-1) := by rw [n172_eq, n76_ok, show primN g.name = 0 from find_no _ _ _ h, Option.bind_some, if_pos rfl]
      rw [e] at har
      simp only [Option.some.injEq] at har
      omega
  have d5 : (4 : Int) = 5 ↔ False := by decide
  have e109 := n90_eq g
  simp only [k4, d5, if_false, bindB, Option.bind_some, Bool.false_eq_true, decide_true, Bool.true_eq_false, false_or] at e109
  have e64 : end64 g = if decide (14 < primN g.name) = true then n77 g else n78 g := by
    unfold end64
    simp only [k4, if_true, n76_ok, Option.bind_some, bindB]
  by_cases n1 : g.name = ⟨#[112, 114, 105, 110, 116]⟩
  · rw [if_pos n1] at e109
    rw [e109, e64, n1, if_neg (by decide +kernel)]
    refine ⟨g, rfl, ?_, .inl rfl⟩
    rcases reck g hl hk with ⟨_, h2⟩ | ⟨vs, _, _, _, h2⟩
    · exact h2
    · rw [h2]; unfold end105; rw [if_pos n1]; simp [bindB]
  rw [if_neg n1] at e109
  have half : (g.name = ⟨#[97, 110, 100]⟩ ∨ g.name = ⟨#[111, 114]⟩) → ∃ r, n90 g = some r ∧ end64 g = some r ∧ OutP g r := by
    intro hn
    have hlen : g.kids.length = 2 := by
      have : n172 g.name = some 2 := by
        rcases hn with h | h <;> rw [h, n172_eq, n76_ok] <;> decide +kernel
      rw [this] at har
      simp only [Option.some.injEq] at har
      omega
    obtain ⟨a, b, hab⟩ := len2 hlen
    obtain ⟨qa, qo⟩ := hk a (by rw [hab]; simp)
    have hp : decide (14 < primN g.name) = true := by rcases hn with h | h <;> rw [h] <;> decide +kernel
    have g0 : ∀ x y : TreeExpr, getI [x, y] 0 = some x := fun _ _ => rfl
    have g1 : ∀ x y : TreeExpr, getI [x, y] 1 = some y := fun _ _ => rfl
    have i0 : ∀ x y : TreeExpr, [x, y][0]? = some x := fun _ _ => rfl
    have i1 : ∀ x y : TreeExpr, [x, y][1]? = some y := fun _ _ => rfl
    have hnn : ¬ (decide (g.name = ⟨#[97, 110, 100]⟩) = false ∧ decide (g.name = ⟨#[111, 114]⟩) = false) := by
      rintro ⟨x, y⟩
      rcases hn with h | h
      · simp [h] at x
      · simp [h] at y
    rw [if_neg hnn] at e109
    rw [if_pos hp] at e64
    have e104 := n77_eq g
    simp only [hab, g0, g1, i0, i1, Option.bind_some, eta_TreeExpr] at e109 e104
    rw [e64, e104]
    rcases known_ok qa qo with ⟨v, v1, v2, v3, v4⟩ | ⟨u1, u2, v1⟩
    · rw [v1]
      simp only [Option.bind_some, v3, v4, Bool.true_eq_false, false_or]
      by_cases a2 : a.kind = 2
      · simp only [a2, if_true, decide_true, Bool.true_eq_false, if_false] at e109 ⊢
        have hb : (decide (a.num = 1) == decide (g.name = ⟨#[97, 110, 100]⟩)) = (decide (g.name = ⟨#[97, 110, 100]⟩) == decide (a.num = 1)) := by
          cases decide (a.num = 1) <;> cases decide (g.name = ⟨#[97, 110, 100]⟩) <;> rfl
        rw [hb] at e109
        by_cases hc : (decide (g.name = ⟨#[97, 110, 100]⟩) == decide (a.num = 1)) = true
        · rw [if_pos hc] at e109 ⊢
          exact ⟨b, e109, rfl, .inr (.inl (by rw [hab]; simp))⟩
        · rw [if_neg hc] at e109 ⊢
          exact ⟨a, e109, rfl, .inr (.inl (by rw [hab]; simp))⟩
      · simp only [a2, if_false, decide_false, if_true] at e109 ⊢
        exact ⟨g, e109, rfl, .inl rfl⟩
    · rw [v1]
      simp only [Option.bind_some, true_or, if_true]
      simp only [u2, if_false] at e109
      exact ⟨g, e109, rfl, .inl rfl⟩
  by_cases n2 : g.name = ⟨#[97, 110, 100]⟩
  · exact half (.inl n2)
  by_cases n3 : g.name = ⟨#[111, 114]⟩
  · exact half (.inr n3)
  obtain ⟨r, r1, r2, r3⟩ := reck_ok g hl hk hs n1 n2 n3
  have hp : ¬ decide (14 < primN g.name) = true := by
    refine prim_cases (C := fun s => s ≠ ⟨#[97, 110, 100]⟩ → s ≠ ⟨#[111, 114]⟩ → ¬ decide (14 < primN s) = true) g.name ?_ ?_ ?_ ?_ ?_ ?_ ?_ ?_ ?_ ?_ ?_ ?_ ?_ ?_ ?_ ?_ (fun h => absurd hs h) n2 n3
    all_goals intro a b
    all_goals first
      | decide +kernel
      | exact absurd rfl a
      | exact absurd rfl b
  rw [if_pos ⟨by simp [n2], by simp [n3]⟩, r1] at e109
  rw [if_neg hp, r2] at e64
  exact ⟨r, e109, e64, r3⟩
theorem node_fold (g : TreeExpr) (h0 : n132 g = some true) (hl : g.kids.length ≤ 1048576) (hk : ∀ k ∈ g.kids, n132 k = some true ∧ okE k) : ∃ r, n90 g = some r ∧ end64 g = some r ∧ OutP g r := by
  by_cases k4 : g.kind = 4
  · exact node_prim g k4 h0 hl hk
  by_cases k5 : g.kind = 5
  · exact node_if g k5 h0 hk
  obtain ⟨h1, h2⟩ := node_else g k4 k5
  exact ⟨g, h1, h2, .inl rfl⟩

/-! ### folding -/
inductive F2 {α β : Type} (R : α → β → Prop) : List α → List β → Prop
  | nil : F2 R [] []
  | cons {x y xs ys} : R x y → F2 R xs ys → F2 R (x :: xs) (y :: ys)
theorem F2.of {α β : Type} {R : α → β → Prop} : ∀ {xs : List α}, (∀ x ∈ xs, ∃ y, R x y) → ∃ ys, F2 R xs ys
  | [], _ => ⟨[], .nil⟩
  | x :: xs, h => by
    obtain ⟨y, hy⟩ := h x (.head _)
    obtain ⟨ys, hys⟩ := F2.of (xs := xs) fun x hx => h x (.tail _ hx)
    exact ⟨y :: ys, .cons hy hys⟩
theorem F2.len {α β : Type} {R : α → β → Prop} : ∀ {xs : List α} {ys : List β}, F2 R xs ys → ys.length = xs.length
  | _, _, .nil => rfl
  | _, _, .cons _ h => by rw [List.length_cons, List.length_cons, h.len]
theorem F2.mem {α β : Type} {R : α → β → Prop} : ∀ {xs : List α} {ys : List β}, F2 R xs ys → ∀ y ∈ ys, ∃ x ∈ xs, R x y
  | _, _, .nil, y, h => by cases h
  | _, _, .cons hr h, y, hy => by
    cases hy with
    | head => exact ⟨_, .head _, hr⟩
    | tail _ hy => obtain ⟨x, hx, hr⟩ := h.mem y hy; exact ⟨x, .tail _ hx, hr⟩
/-- What the two foldings of a tree come to. -/
def FoldP (k r : TreeExpr) : Prop := n33 k = some r ∧ n28 k = some r ∧ okE r ∧ RightP r ∧ NE r ≤ NE k
theorem F2.nodes : ∀ {xs ys : List TreeExpr}, F2 FoldP xs ys → NL ys ≤ NL xs
  | _, _, .nil => Nat.le_refl _
  | _, _, .cons hr h => by have := h.nodes; have := hr.2.2.2.2; rw [NL_cons, NL_cons]; omega
theorem F2.oks : ∀ {xs ys : List TreeExpr}, F2 FoldP xs ys → okEs ys
  | _, _, .nil => rfl
  | _, _, .cons hr h => (okEs_cons _ _).2 ⟨hr.2.2.1, h.oks⟩
theorem fold_ok : ∀ e : TreeExpr, okE e → RightP e → W e ≤ 1048576 → ∃ r, FoldP e r := by
  intro e
  induction e using tree_ind with
  | h e ih =>
    intro hok hr hw
    obtain ⟨k1, k2, k3, k4, k5, k6⟩ := (okE_iff e).1 hok
    rw [W_eq] at hw
    obtain ⟨h0, hkr⟩ := right_inv k5 hr
    obtain ⟨rs, hrs⟩ := F2.of (R := FoldP) (xs := e.kids) fun k hk => ih k hk (okEs_mem k6 k hk) (hkr k hk) (by have := WL_mem (es := e.kids) k hk; omega)
    have hlen := hrs.len
    have loop : ∀ (ys zs : List TreeExpr) (i : Nat) (acc : List TreeExpr), F2 FoldP ys zs → e.kids.drop i = ys → acc.length = i → i ≤ e.kids.length →
        l33_3 e (i : Int) acc = n90 (TreeExpr.mk e.kind e.num e.name e.mod (acc ++ zs)) ∧ l28_3 e (i : Int) acc = end64 (TreeExpr.mk e.kind e.num e.name e.mod (acc ++ zs)) := by
      intro ys zs i acc hF
      induction hF generalizing i acc with
      | nil =>
        intro hd ha hi
        have := dropEnd hd
        rw [List.append_nil]
        refine ⟨?_, ?_⟩
        · rw [l33_3_eq, if_neg (by omega)]
        · rw [l28_3_eq, if_neg (by omega)]; rfl
      | @cons x y xs ys hr hF ihF =>
        intro hd ha hi
        obtain ⟨d1, d2, d3, d4⟩ := dropAt hd
        obtain ⟨f1, f2, _⟩ := hr
        obtain ⟨r1, r2⟩ := ihF (i + 1) (acc ++ [y]) d4 (by simp [ha]) (by omega)
        rw [l33_3_eq, l28_3_eq, if_pos (by omega), if_pos (by omega), d2, Option.bind_some, Option.bind_some, f1, f2, Option.bind_some, Option.bind_some, if_pos ⟨by omega, by omega⟩, if_pos ⟨by omega, by omega⟩, wrN (by omega)]
        rw [List.append_assoc] at r1 r2
        exact ⟨r1, r2⟩
    obtain ⟨l1, l2⟩ := loop e.kids rs 0 [] hrs rfl rfl (by omega)
    rw [List.nil_append] at l1 l2
    have hg0 : n132 (TreeExpr.mk e.kind e.num e.name e.mod rs) = some true := by
      rw [n132_eq] at h0 ⊢
      simp only [n171_eq, hlen] at h0 ⊢
      exact h0
    have hgk : ∀ k ∈ rs, n132 k = some true ∧ okE k := fun k hk => by
      obtain ⟨x, hx, f⟩ := hrs.mem k hk
      have := (okE_iff k).1 f.2.2.1
      exact ⟨(right_inv this.2.2.2.2.1 f.2.2.2.1).1, f.2.2.1⟩
    have hgok : okE (TreeExpr.mk e.kind e.num e.name e.mod rs) := (okE_iff _).2 ⟨k1, k2, k3, k4, by show rs.length ≤ _; omega, hrs.oks⟩
    have hgr : RightP (TreeExpr.mk e.kind e.num e.name e.mod rs) := right_mk (by show rs.length ≤ _; omega) hg0 fun k hk => by
      obtain ⟨x, hx, f⟩ := hrs.mem k hk
      exact f.2.2.2.1
    have hgn : NE (TreeExpr.mk e.kind e.num e.name e.mod rs) ≤ NE e := by
      rw [NE_eq, NE_eq]
      have := hrs.nodes
      show 1 + NL rs ≤ _
      omega
    obtain ⟨r, r1, r2, r3⟩ := node_fold (TreeExpr.mk e.kind e.num e.name e.mod rs) hg0 (by show rs.length ≤ _; omega) hgk
    refine ⟨r, ?_, ?_, ?_⟩
    · rw [n33_eq]; exact l1.trans r1
    · rw [n28_eq]; exact l2.trans r2
    · rcases r3 with rfl | hm | ⟨h1, h2, h3⟩
      · exact ⟨hgok, hgr, hgn⟩
      · have hm : r ∈ rs := hm
        obtain ⟨x, hx, f⟩ := hrs.mem r hm
        refine ⟨f.2.2.1, f.2.2.2.1, ?_⟩
        have := NE_mem (es := rs) r hm
        have h2 : NE (TreeExpr.mk e.kind e.num e.name e.mod rs) = 1 + NL rs := NE_eq _
        omega
      · refine ⟨h2, h3, ?_⟩
        rw [NE_eq r, h1, NL_nil, NE_eq]
        omega
end Go.Fs.Se

set_option linter.unusedVariables false
set_option maxRecDepth 4000
namespace Go.Fs.Se
open Cel (cel unc)
open Dat (enc dec)
open Arg (ea da)
/-! ### right modules -/
noncomputable instance (s : ByteArray) (r : List ByteArray) : Decidable (s ∈ r) := Classical.propDecidable _
theorem cont_ok (r : List ByteArray) (s : ByteArray) (hr : r.length ≤ 140737488355328) : n117 r s = some (decide (s ∈ r)) := by
  have loop : ∀ (ys : List ByteArray) (i : Nat), r.drop i = ys → i ≤ r.length → ∃ j, l162_2 r s (i : Int) = some j ∧ (0 ≤ j ↔ s ∈ ys) := by
    intro ys
    induction ys with
    | nil =>
      intro i hd hi
      have := dropEnd hd
      exact ⟨-1, by rw [l162_2_eq, if_neg (by omega)], by simp⟩
    | cons y ys ih =>
      intro i hd hi
      obtain ⟨d1, d2, d3, d4⟩ := dropAt hd
      obtain ⟨j, r1, r2⟩ := ih (i + 1) d4 (by omega)
      rw [l162_2_eq, if_pos (by omega)]
      simp only [d2, Option.bind_some, wrN (n := i) (by omega)]
      by_cases h : s = y
      · subst h; exact ⟨i, by simp, by simp⟩
      · exact ⟨j, by rw [if_neg h]; exact r1, by rw [r2]; simp [h]⟩
  obtain ⟨j, r1, r2⟩ := loop r 0 rfl (by omega)
  have z : ((0 : Nat) : Int) = 0 := rfl
  rw [z] at r1
  rw [n117_eq, n162_eq, r1, Option.bind_some]
  congr 1
  exact decide_eq_decide.2 r2
/-- From a place on, texts are names and none stands before. -/
def QN (xs : List ByteArray) (i : Nat) : Prop := ∀ (k : Nat) (y : ByteArray), i ≤ k → xs[k]? = some y → n130 y = some true ∧ y ∉ xs.take k
theorem QN_end {xs : List ByteArray} {i : Nat} (h : xs.length ≤ i) : QN xs i := fun k y hk e => by
  rw [List.getElem?_eq_none (by omega)] at e; cases e
theorem QN_step {xs : List ByteArray} {i : Nat} {x : ByteArray} (e : xs[i]? = some x) : QN xs i ↔ (n130 x = some true ∧ x ∉ xs.take i) ∧ QN xs (i + 1) := by
  constructor
  · intro h
    exact ⟨h i x (Nat.le_refl _) e, fun k y hk e => h k y (by omega) e⟩
  · rintro ⟨h1, h2⟩ k y hk e'
    by_cases hki : k = i
    · subst hki; rw [e] at e'; cases e'; exact h1
    · exact h2 k y (by omega) e'
theorem names_ok (xs : List ByteArray) (hl : xs.length ≤ 1048576) (hs : ∀ s ∈ xs, s.size ≤ 140737488355328) : ∃ b, n72 xs = some b ∧ n82 xs = some b ∧ (b = true ↔ QN xs 0) := by
  have inner : ∀ (n i j : Nat) (x : ByteArray), i - j = n → j ≤ i → xs[i]? = some x → i < xs.length → l72_7 xs (i : Int) (j : Int) = if x ∈ (xs.take i).drop j then some false else l72_2 xs ((i + 1 : Nat) : Int) := by
    intro n
    induction n with
    | zero =>
      intro i j x h1 h2 e hi
      have : (xs.take i).drop j = [] := List.drop_eq_nil_of_le (by rw [List.length_take]; omega)
      rw [l72_7_eq, if_neg (by omega), this, wrN (by omega)]
      simp
    | succ n ih =>
      intro i j x h1 h2 e hi
      have hj : j < xs.length := by omega
      have gx : getI xs (i : Int) = some x := by unfold getI; rw [if_pos (by omega), Int.toNat_natCast, e]
      have gj : getI xs (j : Int) = some xs[j] := by unfold getI; rw [if_pos (by omega), Int.toNat_natCast, List.getElem?_eq_getElem hj]
      have hd : (xs.take i).drop j = xs[j] :: (xs.take i).drop (j + 1) := by
        rw [List.drop_eq_getElem_cons (by rw [List.length_take]; omega), List.getElem_take]
      rw [l72_7_eq, if_pos (by omega), gj, Option.bind_some, gx, Option.bind_some, wrN (by omega), ih i (j + 1) x (by omega) (by omega) e hi, hd]
      by_cases h : xs[j] = x
      · rw [if_pos h, if_pos (by rw [h]; exact .head _)]
      · rw [if_neg h]
        have : (x ∈ xs[j] :: (xs.take i).drop (j + 1)) ↔ x ∈ (xs.take i).drop (j + 1) := by simp [Ne.symm h, show ¬ x = xs[j] from fun e => h e.symm]
        simp only [this]
  have outer : ∀ (ys : List ByteArray) (i : Nat), xs.drop i = ys → i ≤ xs.length → ∃ b, l72_2 xs (i : Int) = some b ∧ l82_2 xs (i : Int) = some b ∧ (b = true ↔ QN xs i) := by
    intro ys
    induction ys with
    | nil =>
      intro i hd hi
      have := dropEnd hd
      exact ⟨true, by rw [l72_2_eq, if_neg (by omega)], by rw [l82_2_eq, if_neg (by omega)], by simp [QN_end this]⟩
    | cons y ys ih =>
      intro i hd hi
      obtain ⟨d1, d2, d3, d4⟩ := dropAt hd
      obtain ⟨b, r1, r2, r3⟩ := ih (i + 1) d4 (by omega)
      obtain ⟨c, c1, c2⟩ := name_ok y (hs y (mem_drop hd))
      rw [l72_2_eq, l82_2_eq, if_pos (by omega), if_pos (by omega), QN_step d3]
      simp only [d2, Option.bind_some, c1, c2, bindB, wrN (n := i) (by omega)]
      cases c with
      | false => exact ⟨false, by simp, by simp, by simp⟩
      | true =>
        have hin := inner i i 0 y (by omega) (by omega) d3 d1
        have z : ((0 : Nat) : Int) = 0 := rfl
        rw [z, List.drop_zero] at hin
        have hc : n117 (List.take (((i : Int).toNat) - 0) xs) y = some (decide (y ∈ xs.take i)) := by
          rw [Int.toNat_natCast, Nat.sub_zero, cont_ok _ _ (by rw [List.length_take]; omega)]
        have hp : 0 ≤ (i : Int).toNat ∧ (i : Int).toNat ≤ xs.length := by rw [Int.toNat_natCast]; omega
        simp only [Bool.true_eq_false, if_false, hin, hc, hp, and_self, if_true, show (0 : Int) ≤ (i : Int) by omega, Option.bind_some]
        by_cases hm : y ∈ xs.take i
        · exact ⟨false, by simp [hm], by simp [hm], by simp [hm]⟩
        · exact ⟨b, by simp only [hm, if_false]; exact r1, by simp only [hm, decide_false, Bool.false_eq_true, if_false]; exact r2, by simp [hm, r3]⟩
  obtain ⟨b, r1, r2, r3⟩ := outer xs 0 rfl (by omega)
  rw [n72_eq, n82_eq]
  exact ⟨b, r1, r2, r3⟩
/-! types -/
def isT (t : Int) : Prop := 1 ≤ t ∧ t ≤ 3
theorem type_word (t : Int) : ∃ w, n131 t = some w ∧ (w = ⟨#[]⟩ ↔ ¬ isT t) := by
  rw [n131_eq]
  by_cases h : t < 1 ∨ 3 < t
  · exact ⟨_, by rw [if_pos h], by unfold isT; simp; omega⟩
  · rw [if_neg h]
    rcases (by omega : t = 1 ∨ t = 2 ∨ t = 3) with rfl | rfl | rfl
    · exact ⟨⟨#[105, 110, 116]⟩, by decide +kernel, by unfold isT; simp⟩
    · exact ⟨⟨#[98, 111, 111, 108]⟩, by decide +kernel, by unfold isT; simp⟩
    · exact ⟨⟨#[114, 111, 119]⟩, by decide +kernel, by unfold isT; simp⟩
instance (t : Int) : Decidable (isT t) := by unfold isT; exact inferInstance
theorem is_type (t : Int) : n84 t = some (decide (isT t)) := by
  rw [n84_eq, n118_eq]
  congr 1
  rw [Bool.eq_iff_iff]
  simp only [Bool.and_eq_true, decide_eq_true_eq]
  exact Iff.rfl
theorem argNames_ok (ars : List TreeArg) (hl : ars.length ≤ 1048576) : n83 ars = some (ars.map (·.name)) := by
  have loop : ∀ (ys : List TreeArg) (i : Nat) (r : List ByteArray), ars.drop i = ys → r.length = i → i ≤ ars.length → l83_3 ars (i : Int) r = some (r ++ ys.map (·.name)) := by
    intro ys
    induction ys with
    | nil =>
      intro i r hd hr hi
      have := dropEnd hd
      rw [l83_3_eq, if_neg (by omega)]; simp
    | cons y ys ih =>
      intro i r hd hr hi
      obtain ⟨d1, d2, d3, d4⟩ := dropAt hd
      rw [l83_3_eq, if_pos (by omega), d2, Option.bind_some, if_pos ⟨by omega, by omega⟩, wrN (by omega), ih (i + 1) _ d4 (by simp [hr]) (by omega)]
      simp
  rw [n83_eq]
  simpa using loop ars 0 [] rfl rfl (by omega)
theorem badType_ok (ars : List TreeArg) (hl : ars.length ≤ 1048576) : ∃ b, n85 ars (Fv.mk (D.f 86 [])) = some b ∧ (b = true ↔ ∃ a ∈ ars, ¬ isT a.type) := by
  have loop : ∀ (ys : List TreeArg) (i : Nat), ars.drop i = ys → i ≤ ars.length → ∃ j, l141_86_2 ars (i : Int) = some j ∧ (0 ≤ j ↔ ∃ a ∈ ys, ¬ isT a.type) := by
    intro ys
    induction ys with
    | nil =>
      intro i hd hi
      have := dropEnd hd
      exact ⟨-1, by rw [l141_86_2_eq, if_neg (by omega)], by simp⟩
    | cons y ys ih =>
      intro i hd hi
      obtain ⟨d1, d2, d3, d4⟩ := dropAt hd
      obtain ⟨j, r1, r2⟩ := ih (i + 1) d4 (by omega)
      rw [l141_86_2_eq, if_pos (by omega)]
      simp only [d2, Option.bind_some, n86_eq, is_type, wrN (n := i) (by omega)]
      by_cases h : isT y.type
      · exact ⟨j, by simp only [h, decide_true, Bool.not_true, Bool.false_eq_true, if_false]; exact r1, by rw [r2]; simp [h]⟩
      · exact ⟨i, by simp [h], by simp [h]⟩
  obtain ⟨j, r1, r2⟩ := loop ars 0 rfl (by omega)
  have z : ((0 : Nat) : Int) = 0 := rfl
  rw [z] at r1
  exact ⟨decide (0 ≤ j), by rw [n85_86_eq, n141_86_eq, r1, Option.bind_some], by simp [r2]⟩
/-- What is right of a function, its body's size not being looked at. -/
def FunP (f : TreeFun) : Prop := n130 f.name = some true ∧ f.args.length ≤ 4 ∧ isT f.type ∧ RightP f.body ∧ QN (f.args.map (·.name)) 0 ∧ ∀ a ∈ f.args, isT a.type
theorem fun_ok (f : TreeFun) (hok : okC f) (hl : f.args.length ≤ 1048576) : ∃ b, n74 f = some b ∧ (b = true ↔ FunP f) := by
  obtain ⟨k1, k2, _, k3⟩ := (okC_F f).1 hok
  obtain ⟨c, c1, c2⟩ := name_ok f.name k1
  obtain ⟨w, w1, w2⟩ := type_word f.type
  obtain ⟨r, r1, _⟩ := right_ok f.body k3
  have inner : ∀ (n i j : Nat) (x : TreeArg), i - j = n → j ≤ i → f.args[i]? = some x → i < f.args.length → l74_9 f (i : Int) (j : Int) = if x.name ∈ ((f.args.map (·.name)).take i).drop j then some false else l74_4 f ((i + 1 : Nat) : Int) := by
    intro n
    induction n with
    | zero =>
      intro i j x h1 h2 e hi
      have : ((f.args.map (·.name)).take i).drop j = [] := List.drop_eq_nil_of_le (by rw [List.length_take]; omega)
      rw [l74_9_eq, if_neg (by omega), this, wrN (by omega)]
      simp
    | succ n ih =>
      intro i j x h1 h2 e hi
      have hj : j < f.args.length := by omega
      have gx : getI f.args (i : Int) = some x := by unfold getI; rw [if_pos (by omega), Int.toNat_natCast, e]
      have gj : getI f.args (j : Int) = some f.args[j] := by unfold getI; rw [if_pos (by omega), Int.toNat_natCast, List.getElem?_eq_getElem hj]
      have hd : ((f.args.map (·.name)).take i).drop j = f.args[j].name :: ((f.args.map (·.name)).take i).drop (j + 1) := by
        rw [List.drop_eq_getElem_cons (by rw [List.length_take, List.length_map]; omega), List.getElem_take, List.getElem_map]
      rw [l74_9_eq, if_pos (by omega), gj, Option.bind_some, gx, Option.bind_some, wrN (by omega), ih i (j + 1) x (by omega) (by omega) e hi, hd]
      by_cases h : f.args[j].name = x.name
      · rw [if_pos h, if_pos (by rw [h]; exact .head _)]
      · rw [if_neg h]
        have : (x.name ∈ f.args[j].name :: ((f.args.map (·.name)).take i).drop (j + 1)) ↔ x.name ∈ ((f.args.map (·.name)).take i).drop (j + 1) := by simp [show ¬ x.name = f.args[j].name from fun e => h e.symm]
        simp only [this]
  have outer : ∀ (ys : List TreeArg) (i : Nat), f.args.drop i = ys → i ≤ f.args.length → ∃ b, l74_4 f (i : Int) = some b ∧ (b = true ↔ (QN (f.args.map (·.name)) i ∧ ∀ a ∈ ys, isT a.type)) := by
    intro ys
    induction ys with
    | nil =>
      intro i hd hi
      have := dropEnd hd
      exact ⟨true, by rw [l74_4_eq, if_neg (by omega)], by simp [QN_end (xs := f.args.map (·.name)) (i := i) (by rw [List.length_map]; exact this)]⟩
    | cons y ys ih =>
      intro i hd hi
      obtain ⟨d1, d2, d3, d4⟩ := dropAt hd
      obtain ⟨b, r1, r2⟩ := ih (i + 1) d4 (by omega)
      obtain ⟨c, c1, _⟩ := name_ok y.name ((okC_A y).1 (okLC_mem k2.2 y (mem_drop hd))).1
      obtain ⟨w, w1, w2⟩ := type_word y.type
      have d3' : (f.args.map (·.name))[i]? = some y.name := by rw [List.getElem?_map, d3]; rfl
      rw [l74_4_eq, if_pos (by omega), QN_step d3']
      simp only [d2, Option.bind_some, c1, w1, bindB]
      cases c with
      | false => exact ⟨false, by simp, by simp⟩
      | true =>
        by_cases ht : isT y.type
        · have hw : ¬ w = ⟨#[]⟩ := fun e => (w2.1 e) ht
          have hin := inner i i 0 y (by omega) (by omega) d3 d1
          have z : ((0 : Nat) : Int) = 0 := rfl
          rw [z, List.drop_zero] at hin
          simp only [Bool.true_eq_false, if_false, Option.bind_some, hw, decide_false, Bool.false_eq_true, hin]
          by_cases hm : y.name ∈ (f.args.map (·.name)).take i
          · exact ⟨false, by simp [hm], by simp [hm]⟩
          · refine ⟨b, by simp only [hm, if_false]; exact r1, ?_⟩
            rw [r2]
            simp [hm, ht, and_assoc]
        · have hw : w = ⟨#[]⟩ := w2.2 ht
          exact ⟨false, by simp [hw], by simp [ht]⟩
  obtain ⟨b, l1, l2⟩ := outer f.args 0 rfl (by omega)
  have z : ((0 : Nat) : Int) = 0 := rfl
  rw [z] at l1
  rw [n74_eq]
  unfold FunP RightP
  rw [c1, r1]
  simp only [Option.bind_some, w1, bindB]
  cases c with
  | false => exact ⟨false, by simp, by simp⟩
  | true =>
    by_cases h4 : 4 < (f.args.length : Int)
    · exact ⟨false, by simp [h4], by simp; intro h; omega⟩
    · by_cases ht : isT f.type
      · have hw : ¬ w = ⟨#[]⟩ := fun e => (w2.1 e) ht
        cases r with
        | false => exact ⟨false, by simp [h4, hw], by simp⟩
        | true =>
          refine ⟨b, by simp [h4, hw, l1], ?_⟩
          rw [l2]
          have : f.args.length ≤ 4 := by omega
          simp [this, ht]
      · have hw : w = ⟨#[]⟩ := w2.2 ht
        exact ⟨false, by simp [h4, hw], by simp [ht]⟩
end Go.Fs.Se

set_option linter.unusedVariables false
set_option maxRecDepth 4000
namespace Go.Fs.Se
open Cel (cel unc)
open Dat (enc dec)
open Arg (ea da)
/-! ### right modules, whole -/
def bodies (m : TreeMod) : List TreeExpr := m.funs.map (·.body) ++ m.main
theorem NL_app : ∀ (a b : List TreeExpr), NL (a ++ b) = NL a + NL b
  | [], b => by simp [NL_nil]
  | e :: a, b => by rw [List.cons_append, NL_cons, NL_cons, NL_app a b]; omega
theorem WB_le : ∀ fs : List TreeFun, ∀ f ∈ fs, W f.body ≤ WLC fs := by
  intro fs f hf
  have h1 := WLC_mem (xs := fs) f hf
  rw [WC_F] at h1
  omega
theorem body_W {m : TreeMod} (hw : WM m ≤ 1048576) : ∀ e ∈ bodies m, W e ≤ 1048576 := by
  rw [WM_eq] at hw
  intro e he
  rcases List.mem_append.1 he with he | he
  · obtain ⟨f, hf, rfl⟩ := List.mem_map.1 he
    have := WB_le m.funs f hf
    omega
  · have := WL_mem (es := m.main) e he
    omega
theorem body_ok {m : TreeMod} (hok : okM m) : ∀ e ∈ bodies m, okE e := by
  obtain ⟨k1, k2, k3⟩ := (okM_iff m).1 hok
  intro e he
  rcases List.mem_append.1 he with he | he
  · obtain ⟨f, hf, rfl⟩ := List.mem_map.1 he
    exact ((okC_F f).1 (okLC_mem k2.2 f hf)).2.2.2
  · exact okEs_mem k3.2 e he
theorem body_len (m : TreeMod) : (bodies m).length = m.funs.length + m.main.length := by simp [bodies]
theorem NL_W : ∀ es : List TreeExpr, NL es ≤ es.length + WL es := NL_le
theorem bodies_NL {m : TreeMod} (hw : WM m ≤ 1048576) : NL (bodies m) ≤ 2097152 := by
  rw [WM_eq] at hw
  unfold bodies
  rw [NL_app]
  have h1 := NL_le m.main
  have h2 : ∀ fs : List TreeFun, NL (fs.map (·.body)) ≤ fs.length + WLC fs := by
    intro fs
    induction fs with
    | nil => simp [NL_nil]
    | cons f fs ih =>
      have := NE_le f.body
      rw [List.map_cons, NL_cons, WLC_cons, WC_F, List.length_cons]
      omega
  have := h2 m.funs
  omega
theorem expr_is (y : TreeExpr) (hok : okE y) (hw : W y ≤ 1048576) : ∃ b, n89 y = some b ∧ (b = true ↔ NE y ≤ 150 ∧ DE y ≤ 16 ∧ RightP y) := by
  obtain ⟨_, t2⟩ := nodes_ok y hw
  obtain ⟨b, b1, b2⟩ := right_ok y hok
  rw [n89_eq, t2, Option.bind_some]
  unfold RightP
  rw [b1]
  by_cases hc : (NE y : Int) ≤ 150 ∧ (DE y : Int) ≤ 16
  · rw [if_pos hc, b2]
    refine ⟨b, rfl, ?_⟩
    have h1 : NE y ≤ 150 := by omega
    have h2 : DE y ≤ 16 := by omega
    simp [h1, h2]
  · rw [if_neg hc]
    refine ⟨false, rfl, ?_⟩
    simp only [Bool.false_eq_true, false_iff]
    omega
theorem size_ok (m : TreeMod) (hw : WM m ≤ 1048576) : ∃ b, n73 m = some b ∧ (b = true ↔ NL (bodies m) ≤ 150 ∧ ∀ e ∈ bodies m, DE e ≤ 16) := by
  have hB := bodies_NL hw
  have hW := body_W hw
  have hlen : m.funs.length + m.main.length ≤ 1048576 := by rw [WM_eq] at hw; omega
  have loop : ∀ (ys : List TreeExpr) (i t : Nat), (bodies m).drop i = ys → i ≤ (bodies m).length → t ≤ 150 → NL ys ≤ 2097152 → ∃ b, l73_3 m (t : Int) (i : Int) = some b ∧ (b = true ↔ t + NL ys ≤ 150 ∧ ∀ e ∈ ys, DE e ≤ 16) := by
    intro ys
    have w0 : IntKind.i64.wrap ((m.funs.length : Int) + (m.main.length : Int)) = ((m.funs.length + m.main.length : Nat) : Int) := by rw [wrap64 (by omega) (by omega)]; omega
    induction ys with
    | nil =>
      intro i t hd hi ht hn
      have := dropEnd hd
      rw [body_len] at this
      exact ⟨true, by rw [l73_3_eq, w0, if_neg (by omega)], by simp [NL_nil, ht]⟩
    | cons y ys ih =>
      intro i t hd hi ht hn
      obtain ⟨d1, d2, d3, d4⟩ := dropAt hd
      have hy := mem_drop hd
      rw [body_len] at d1
      rw [NL_cons] at hn ⊢
      obtain ⟨t1, _⟩ := nodes_ok y (hW y hy)
      have w1 : IntKind.i64.wrap ((t : Int) + (NE y : Int)) = ((t + NE y : Nat) : Int) := by rw [wrap64 (by omega) (by omega)]; omega
      have next : ∃ b, (if 150 < ((t + NE y : Nat) : Int) ∨ 16 < (DE y : Int) then some false else l73_3 m ((t + NE y : Nat) : Int) ((i + 1 : Nat) : Int)) = some b ∧ (b = true ↔ t + (NE y + NL ys) ≤ 150 ∧ ∀ e ∈ y :: ys, DE e ≤ 16) := by
        by_cases hc : 150 < ((t + NE y : Nat) : Int) ∨ 16 < (DE y : Int)
        · refine ⟨false, by rw [if_pos hc], ?_⟩
          simp only [Bool.false_eq_true, false_iff]
          rintro ⟨h1, h2⟩
          have := h2 y (.head _)
          omega
        · obtain ⟨b, r1, r2⟩ := ih (i + 1) (t + NE y) d4 (by rw [body_len]; omega) (by omega) (by omega)
          refine ⟨b, by rw [if_neg hc]; exact r1, ?_⟩
          rw [r2]
          simp only [List.mem_cons, forall_eq_or_imp]
          have h16 : DE y ≤ 16 := by omega
          simp only [h16, true_and]
          rw [show t + NE y + NL ys = t + (NE y + NL ys) from by omega]
      obtain ⟨b, r1, r2⟩ := next
      refine ⟨b, ?_, r2⟩
      rw [l73_3_eq, w0, if_pos (by omega)]
      by_cases hf : (i : Int) < (m.funs.length : Int)
      · rw [if_pos hf]
        have hfi : i < m.funs.length := by omega
        have hb : m.funs[i].body = y := by
          unfold bodies at d3
          rw [List.getElem?_append_left (by rw [List.length_map]; exact hfi), List.getElem?_map, List.getElem?_eq_getElem hfi] at d3
          simpa using d3
        have gf : getI m.funs (i : Int) = some m.funs[i] := by unfold getI; rw [if_pos (by omega), Int.toNat_natCast, List.getElem?_eq_getElem hfi]
        rw [gf, Option.bind_some, hb, t1, Option.bind_some]
        simp only [w1, wrN (n := i) (by omega)]
        exact r1
      · rw [if_neg hf]
        have hfi : m.funs.length ≤ i := by omega
        have hb : m.main[i - m.funs.length]? = some y := by
          unfold bodies at d3
          rw [List.getElem?_append_right (by rw [List.length_map]; exact hfi), List.length_map] at d3
          exact d3
        have w2 : IntKind.i64.wrap ((i : Int) - (m.funs.length : Int)) = ((i - m.funs.length : Nat) : Int) := by rw [wrap64 (by omega) (by omega)]; omega
        have gf : getI m.main ((i - m.funs.length : Nat) : Int) = some y := by unfold getI; rw [if_pos (by omega), Int.toNat_natCast, hb]
        rw [w2, gf, Option.bind_some, t1, Option.bind_some]
        simp only [w1, wrN (n := i) (by omega)]
        exact r1
  obtain ⟨b, r1, r2⟩ := loop (bodies m) 0 0 rfl (by omega) (by omega) hB
  rw [n73_eq]
  refine ⟨b, r1, ?_⟩
  rw [r2]; simp
theorem bodies_is (m : TreeMod) (hw : WM m ≤ 1048576) : n87 m = some (bodies m) := by
  have hlen : m.funs.length + m.main.length ≤ 1048576 := by rw [WM_eq] at hw; omega
  have loop : ∀ (ys : List TreeFun) (i : Nat) (r : List TreeExpr) (d : Bool), m.funs.drop i = ys → r.length = i → i ≤ m.funs.length → l87_3 m (i : Int) r d = some (r ++ (ys.map (·.body) ++ m.main)) := by
    intro ys
    induction ys with
    | nil =>
      intro i r d hd hr hi
      have := dropEnd hd
      rw [l87_3_eq, if_neg (by omega), if_pos ⟨by omega, by omega⟩]; simp
    | cons y ys ih =>
      intro i r d hd hr hi
      obtain ⟨d1, d2, d3, d4⟩ := dropAt hd
      rw [l87_3_eq, if_pos (by omega), d2, Option.bind_some, if_pos ⟨by omega, by omega⟩, wrN (by omega), ih (i + 1) _ _ d4 (by simp [hr]) (by omega)]
      simp
  rw [n87_eq]
  simpa [bodies] using loop m.funs 0 [] true rfl rfl (by omega)
def F1 (f : TreeFun) : Prop := f.args.length ≤ 4 ∧ QN (f.args.map (·.name)) 0 ∧ isT f.type ∧ ∀ a ∈ f.args, isT a.type
def BodyP (e : TreeExpr) : Prop := NE e ≤ 150 ∧ DE e ≤ 16 ∧ RightP e
/-- What the two say of a module. -/
def SpecP (m : TreeMod) : Prop := (m.uses.length ≤ 4 ∧ m.funs.length ≤ 8 ∧ m.main.length ≤ 1) ∧ QN m.uses 0 ∧ (NL (bodies m) ≤ 150 ∧ ∀ e ∈ bodies m, DE e ≤ 16) ∧ (∀ f ∈ m.funs, FunP f) ∧ QN (m.funs.map (·.name)) 0 ∧ ∀ e ∈ m.main, RightP e
def ImplP (m : TreeMod) : Prop := (m.uses.length ≤ 4 ∧ m.funs.length ≤ 8 ∧ m.main.length ≤ 1) ∧ QN m.uses 0 ∧ (∀ f ∈ m.funs, F1 f) ∧ (NL (bodies m) ≤ 150 ∧ ∀ e ∈ bodies m, BodyP e) ∧ QN (m.funs.map (·.name)) 0
theorem spec_impl (m : TreeMod) : SpecP m ↔ ImplP m := by
  constructor
  · rintro ⟨h1, h2, ⟨h3, h4⟩, h5, h6, h7⟩
    refine ⟨h1, h2, fun f hf => ⟨(h5 f hf).2.1, (h5 f hf).2.2.2.2.1, (h5 f hf).2.2.1, (h5 f hf).2.2.2.2.2⟩, ⟨h3, fun e he => ⟨?_, h4 e he, ?_⟩⟩, h6⟩
    · have := NE_mem (es := bodies m) e he; omega
    · rcases List.mem_append.1 he with he | he
      · obtain ⟨f, hf, rfl⟩ := List.mem_map.1 he
        exact (h5 f hf).2.2.2.1
      · exact h7 e he
  · rintro ⟨h1, h2, h3, ⟨h4, h5⟩, h6⟩
    refine ⟨h1, h2, ⟨h4, fun e he => (h5 e he).2.1⟩, fun f hf => ?_, h6, fun e he => (h5 e (List.mem_append_right _ he)).2.2⟩
    obtain ⟨a1, a2, a3, a4⟩ := h3 f hf
    refine ⟨?_, a1, a3, (h5 f.body (List.mem_append_left _ (List.mem_map.2 ⟨f, hf, rfl⟩))).2.2, a2, a4⟩
    obtain ⟨k, hk, e⟩ := List.mem_iff_getElem.1 hf
    exact (h6 k f.name (Nat.zero_le _) (by rw [List.getElem?_map, List.getElem?_eq_getElem hk, e]; rfl)).1
theorem names_size {m : TreeMod} (hok : okM m) : ∀ s ∈ m.funs.map (·.name), s.size ≤ 140737488355328 := by
  obtain ⟨k1, k2, k3⟩ := (okM_iff m).1 hok
  intro s hs
  obtain ⟨f, hf, rfl⟩ := List.mem_map.1 hs
  exact ((okC_F f).1 (okLC_mem k2.2 f hf)).1
theorem uses_size {m : TreeMod} (hok : okM m) : ∀ s ∈ m.uses, s.size ≤ 140737488355328 := by
  obtain ⟨k1, k2, k3⟩ := (okM_iff m).1 hok
  intro s hs
  exact (okC_S s).1 (okLC_mem k1.2 s hs)
theorem spec_ok (m : TreeMod) (hok : okM m) (hw : WM m ≤ 1048576) : ∃ b, n27 m = some b ∧ (b = true ↔ SpecP m) := by
  have hlen := hw
  rw [WM_eq] at hlen
  obtain ⟨k1, k2, k3⟩ := (okM_iff m).1 hok
  obtain ⟨u, u1, _, u3⟩ := names_ok m.uses (by omega) (uses_size hok)
  obtain ⟨s, s1, s2⟩ := size_ok m hw
  obtain ⟨n, q1, _, q3⟩ := names_ok (m.funs.map (·.name)) (by rw [List.length_map]; omega) (names_size hok)
  have loop : ∀ (ys : List TreeFun) (i : Nat) (r : List ByteArray), m.funs.drop i = ys → r.length = i → i ≤ m.funs.length → r ++ ys.map (·.name) = m.funs.map (·.name) → m.main.length ≤ 1 →
      ∃ b, l27_5 m (i : Int) r = some b ∧ (b = true ↔ (∀ f ∈ ys, FunP f) ∧ QN (m.funs.map (·.name)) 0 ∧ ∀ e ∈ m.main, RightP e) := by
    intro ys
    induction ys with
    | nil =>
      intro i r hd hr hi hn hm
      have := dropEnd hd
      simp only [List.map_nil, List.append_nil] at hn
      rw [l27_5_eq, if_neg (by omega), hn, q1, Option.bind_some]
      cases n with
      | false =>
        have : ¬ QN (m.funs.map (·.name)) 0 := fun h => by cases q3.2 h
        exact ⟨false, by simp, by simp [this]⟩
      | true =>
        have hq := q3.1 rfl
        rw [if_pos rfl]
        match hmm : m.main with
        | [] => exact ⟨true, by simp, by simp [hq]⟩
        | [e] =>
          obtain ⟨c, c1, _⟩ := right_ok e (okEs_mem k3.2 e (by rw [hmm]; simp))
          refine ⟨c, ?_, ?_⟩
          · rw [if_neg (by simp)]
            show (some e).bind _ = _
            rw [Option.bind_some, c1]
          · simp only [List.not_mem_nil, false_implies, implies_true, hq, true_and, List.mem_singleton, forall_eq]
            unfold RightP
            rw [c1]
            simp
        | _ :: _ :: _ => rw [hmm] at hm; simp at hm
    | cons y ys ih =>
      intro i r hd hr hi hn hm
      obtain ⟨d1, d2, d3, d4⟩ := dropAt hd
      have hy := mem_drop hd
      have hyw := WLC_mem (xs := m.funs) y hy
      rw [WC_F] at hyw
      obtain ⟨b, b1, b2⟩ := fun_ok y (okLC_mem k2.2 y hy) (by omega)
      rw [l27_5_eq, if_pos (by omega), d2, Option.bind_some, if_pos ⟨by omega, by omega⟩, Option.bind_some, b1, Option.bind_some, wrN (by omega)]
      cases b with
      | false =>
        have : ¬ FunP y := fun h => by cases b2.2 h
        exact ⟨false, by simp, by simp [this]⟩
      | true =>
        obtain ⟨c, c1, c2⟩ := ih (i + 1) (r ++ [y.name]) d4 (by simp [hr]) (by omega) (by simpa using hn) hm
        refine ⟨c, by rw [if_neg (by decide)]; exact c1, ?_⟩
        rw [c2]
        simp [b2.1 rfl]
  rw [n27_eq, u1, s1]
  unfold SpecP
  by_cases hc : (4 < (m.uses.length : Int) ∨ 8 < (m.funs.length : Int)) ∨ 1 < (m.main.length : Int)
  · refine ⟨false, by simp [bindB, hc], ?_⟩
    simp only [Bool.false_eq_true, false_iff]
    rintro ⟨h, _⟩
    omega
  · have hc' : m.uses.length ≤ 4 ∧ m.funs.length ≤ 8 ∧ m.main.length ≤ 1 := by omega
    simp only [if_neg hc, bindB, Option.bind_some]
    cases u with
    | false =>
      have : ¬ QN m.uses 0 := fun h => by cases u3.2 h
      exact ⟨false, by simp, by simp [this]⟩
    | true =>
      cases s with
      | false =>
        have : ¬ (NL (bodies m) ≤ 150 ∧ ∀ e ∈ bodies m, DE e ≤ 16) := fun h => by cases s2.2 h
        refine ⟨false, by simp, ?_⟩
        simp only [Bool.false_eq_true, false_iff]
        rintro ⟨_, _, h, _⟩
        exact this h
      | true =>
        obtain ⟨b, b1, b2⟩ := loop m.funs 0 [] rfl rfl (by omega) (by simp) hc'.2.2
        refine ⟨b, by simpa using b1, ?_⟩
        rw [b2]
        exact ⟨fun ⟨a, b, c⟩ => ⟨hc', u3.1 rfl, s2.1 rfl, a, b, c⟩, fun ⟨_, _, _, a, b, c⟩ => ⟨a, b, c⟩⟩
theorem impl_ok (m : TreeMod) (hok : okM m) (hw : WM m ≤ 1048576) : ∃ b, n32 m = some b ∧ (b = true ↔ ImplP m) := by
  have hlen := hw
  rw [WM_eq] at hlen
  obtain ⟨k1, k2, k3⟩ := (okM_iff m).1 hok
  obtain ⟨u, _, u1, u3⟩ := names_ok m.uses (by omega) (uses_size hok)
  obtain ⟨n, _, q1, q3⟩ := names_ok (m.funs.map (·.name)) (by rw [List.length_map]; omega) (names_size hok)
  have hB := bodies_NL hw
  have hW := body_W hw
  have hO := body_ok hok
  have loop2 : ∀ (ys : List TreeExpr) (i t : Nat), (bodies m).drop i = ys → i ≤ (bodies m).length → t ≤ 150 → NL ys ≤ 2097152 →
      ∃ b, l32_12 m (t : Int) (bodies m) ((bodies m).length : Int) (i : Int) (m.funs.map (·.name)) = some b ∧ (b = true ↔ (t + NL ys ≤ 150 ∧ ∀ e ∈ ys, BodyP e) ∧ QN (m.funs.map (·.name)) 0) := by
    intro ys
    induction ys with
    | nil =>
      intro i t hd hi ht hn
      have := dropEnd hd
      exact ⟨n, by rw [l32_12_eq, if_neg (by omega), q1], by rw [q3]; simp [NL_nil, ht]⟩
    | cons y ys ih =>
      intro i t hd hi ht hn
      obtain ⟨d1, d2, d3, d4⟩ := dropAt hd
      have hy := mem_drop hd
      have hbl : (bodies m).length ≤ 1048576 := by rw [body_len]; omega
      rw [NL_cons] at hn ⊢
      obtain ⟨_, t2⟩ := nodes_ok y (hW y hy)
      obtain ⟨c, c1, c2⟩ := expr_is y (hO y hy) (hW y hy)
      have w1 : IntKind.i64.wrap ((t : Int) + (NE y : Int)) = ((t + NE y : Nat) : Int) := by rw [wrap64 (by omega) (by omega)]; omega
      rw [l32_12_eq, if_pos (by omega), d2, Option.bind_some, t2, Option.bind_some]
      simp only [w1, wrN (n := i) (by omega), c1, bindB, Option.bind_some]
      by_cases hc : 150 < ((t + NE y : Nat) : Int)
      · refine ⟨false, by simp only [if_pos hc, Option.bind_some, if_true], ?_⟩
        simp only [Bool.false_eq_true, false_iff]
        rintro ⟨⟨h, _⟩, _⟩
        omega
      · simp only [if_neg hc, Option.bind_some]
        cases c with
        | false =>
          have : ¬ BodyP y := fun h => by cases c2.2 h
          exact ⟨false, by simp, by simp [this]⟩
        | true =>
          obtain ⟨b, r1, r2⟩ := ih (i + 1) (t + NE y) d4 (by omega) (by omega) (by omega)
          refine ⟨b, by simpa using r1, ?_⟩
          rw [r2]
          have hb : BodyP y := c2.1 rfl
          simp only [List.mem_cons, forall_eq_or_imp, hb, true_and]
          rw [show t + NE y + NL ys = t + (NE y + NL ys) from by omega]
  have loop : ∀ (ys : List TreeFun) (i : Nat) (r : List ByteArray), m.funs.drop i = ys → r.length = i → i ≤ m.funs.length → r ++ ys.map (·.name) = m.funs.map (·.name) →
      ∃ b, l32_5 m 0 (i : Int) r = some b ∧ (b = true ↔ (∀ f ∈ ys, F1 f) ∧ (NL (bodies m) ≤ 150 ∧ ∀ e ∈ bodies m, BodyP e) ∧ QN (m.funs.map (·.name)) 0) := by
    intro ys
    induction ys with
    | nil =>
      intro i r hd hr hi hn
      have := dropEnd hd
      simp only [List.map_nil, List.append_nil] at hn
      obtain ⟨b, r1, r2⟩ := loop2 (bodies m) 0 0 rfl (by omega) (by omega) hB
      rw [l32_5_eq, if_neg (by omega), bodies_is m hw, Option.bind_some, hn]
      refine ⟨b, r1, ?_⟩
      rw [r2]; simp
    | cons y ys ih =>
      intro i r hd hr hi hn
      obtain ⟨d1, d2, d3, d4⟩ := dropAt hd
      have hy := mem_drop hd
      have hyw := WLC_mem (xs := m.funs) y hy
      rw [WC_F] at hyw
      obtain ⟨o1, o2, _, o3⟩ := (okC_F y).1 (okLC_mem k2.2 y hy)
      obtain ⟨a, _, a1, a3⟩ := names_ok (y.args.map (·.name)) (by rw [List.length_map]; omega) (fun s hs => by
        obtain ⟨x, hx, rfl⟩ := List.mem_map.1 hs
        exact ((okC_A x).1 (okLC_mem o2.2 x hx)).1)
      obtain ⟨t, t1, t2⟩ := badType_ok y.args (by omega)
      obtain ⟨b, b1, b2⟩ := ih (i + 1) (r ++ [y.name]) d4 (by simp [hr]) (by omega) (by simpa using hn)
      rw [l32_5_eq, if_pos (by omega), d2, Option.bind_some, if_pos ⟨by omega, by omega⟩]
      simp only [argNames_ok y.args (by omega), Option.bind_some, a1, is_type, t1, bindB, wrN (n := i) (by omega), List.mem_cons, forall_eq_or_imp]
      unfold F1 at b2 ⊢
      by_cases h4 : 4 < (y.args.length : Int)
      · refine ⟨false, by simp [h4], ?_⟩
        simp only [Bool.false_eq_true, false_iff]
        rintro ⟨⟨⟨h, _⟩, _⟩, _⟩
        omega
      have h4' : y.args.length ≤ 4 := by omega
      simp only [if_neg h4, Option.bind_some]
      cases a with
      | false =>
        have : ¬ QN (y.args.map (·.name)) 0 := fun h => by cases a3.2 h
        exact ⟨false, by simp, by simp [this]⟩
      | true =>
        have ha := a3.1 rfl
        by_cases hT : isT y.type
        · cases t with
          | true =>
            obtain ⟨x, hx, hxt⟩ := t2.1 rfl
            refine ⟨false, by simp [hT], ?_⟩
            simp only [Bool.false_eq_true, false_iff]
            rintro ⟨⟨⟨_, _, _, h⟩, _⟩, _⟩
            exact hxt (h x hx)
          | false =>
            have hA : ∀ x ∈ y.args, isT x.type := fun x hx => Classical.byContradiction fun h => by cases t2.2 ⟨x, hx, h⟩
            refine ⟨b, by simpa [hT] using b1, ?_⟩
            rw [b2]
            simp only [h4', ha, hT, true_and]
            constructor
            · rintro ⟨p, q⟩; exact ⟨⟨hA, p⟩, q⟩
            · rintro ⟨⟨_, p⟩, q⟩; exact ⟨p, q⟩
        · exact ⟨false, by simp [hT], by simp [hT]⟩
  rw [n32_eq, u1]
  unfold ImplP
  by_cases hc : (4 < (m.uses.length : Int) ∨ 8 < (m.funs.length : Int)) ∨ 1 < (m.main.length : Int)
  · refine ⟨false, by simp [bindB, hc], ?_⟩
    simp only [Bool.false_eq_true, false_iff]
    rintro ⟨h, _⟩
    omega
  · have hc' : m.uses.length ≤ 4 ∧ m.funs.length ≤ 8 ∧ m.main.length ≤ 1 := by omega
    simp only [if_neg hc, bindB, Option.bind_some]
    cases u with
    | false =>
      have : ¬ QN m.uses 0 := fun h => by cases u3.2 h
      exact ⟨false, by simp, by simp [this]⟩
    | true =>
      obtain ⟨b, b1, b2⟩ := loop m.funs 0 [] rfl rfl (by omega) (by simp)
      refine ⟨b, by simpa using b1, ?_⟩
      rw [b2]
      simp only [hc', u3.1 rfl, and_self, true_and]
theorem treeOk (m : TreeMod) (hok : okM m) (hw : WM m ≤ 1048576) : ∃ b, n27 m = some b ∧ n32 m = some b ∧ (b = true ↔ ImplP m) := by
  obtain ⟨b, b1, b2⟩ := spec_ok m hok hw
  obtain ⟨c, c1, c2⟩ := impl_ok m hok hw
  have : b = c := by rw [Bool.eq_iff_iff, b2, c2]; exact spec_impl m
  subst this
  exact ⟨b, b1, c1, c2⟩
end Go.Fs.Se
