/- A part of the proof: an evaluator of the program's code over plain data, proved sound, and walks of the program's functions by it. No conditions beyond those in the theorems. -/
import Derived.SizedLaws
import Derived.ChangeArms
import Derived.DataReads
import Derived.WalkKit
import Derived.ProofKit
import Derived.OpenShut
import Derived.ShutString
import Derived.ChangeOld
import Derived.Below
import Derived.Carry
import Derived.Test.YtbgbnmghhmfihaaLawFp18
import Derived.Test.YtbgbnmghhmfihaaLawFp19
import Derived.Test.YtbgbnmghhmfihaaLawFp13
import Derived.Test.YtbgbnmghhmfihaaLawFp16
import Derived.Test.YtbgbnmghhmfihaaLawFp9
import Derived.Test.YtbgbnmghhmfihaaLawFp17
set_option linter.unusedVariables false
set_option linter.unusedSimpArgs false
set_option linter.constructorNameAsVariable false
set_option linter.unusedSectionVars false
set_option linter.defProp false
set_option linter.unusedVariables false
set_option maxRecDepth 4000
namespace Go.Fs.Se
open Cel (cel unc)
open Dat (enc dec)
open Arg (ea da)
/-! ### folding a node whose kids are folded -/
theorem NE_mem {es : List TreeExpr} : ∀ k ∈ es, NE k ≤ NL es := by
  induction es with
  | nil => intro k hk; cases hk
  | cons e es ih =>
    intro k hk
    rw [NL_cons]
    cases hk with
    | head => omega
    | tail _ hk => have := ih k hk; omega
theorem flag_num {e : TreeExpr} (h : n135 e = some true) (k : e.kind = 2) : e.num = 0 ∨ e.num = 1 := by
  rw [n135_eq, k, if_neg (by decide), if_pos rfl] at h
  by_cases hl : (e.kids.length : Int) = 0
  · rw [if_pos hl, n154_eq] at h
    simp only [bindB, Option.bind_some, Option.some.injEq, Bool.and_eq_true, Bool.or_eq_true, decide_eq_true_eq] at h
    exact h.2
  · rw [if_neg hl] at h
    simp [bindB] at h
theorem if_len {e : TreeExpr} (h : n135 e = some true) (k : e.kind = 5) : e.kids.length = 3 := by
  rw [n135_eq, k, if_neg (by decide), if_neg (by decide), if_neg (by decide), if_neg (by decide), if_pos rfl] at h
  by_cases hl : (e.kids.length : Int) = 3
  · omega
  · rw [if_neg hl] at h; cases h
theorem prim_len {e : TreeExpr} (h : n135 e = some true) (k : e.kind = 4) : n155 e.name = some (e.kids.length : Int) := by
  rw [n135_eq, k, if_neg (by decide), if_neg (by decide), if_neg (by decide), if_pos rfl, n154_eq, Option.bind_some] at h
  split at h
  · obtain ⟨n, h1, h2⟩ := Option.bind_eq_some_iff.1 h
    simp only [Option.some.injEq, decide_eq_true_eq] at h2
    rw [h1, h2]
  · cases h
theorem known_ok {k : TreeExpr} (hr : n135 k = some true) (hok : okE k) : (∃ v, n106 k = some (v, true) ∧ ValP v ∧ v.kind = k.kind ∧ v.num = k.num) ∨ (k.kind ≠ 1 ∧ k.kind ≠ 2 ∧ n106 k = some (⟨0, 0, []⟩, false)) := by
  have hn := ((okE_iff k).1 hok).2.1
  rw [n106_eq]
  by_cases k1 : k.kind = 1
  · rw [if_pos k1, n140_eq]
    exact .inl ⟨_, rfl, ⟨rfl, .inl ⟨rfl, hn⟩⟩, k1.symm, rfl⟩
  · rw [if_neg k1]
    by_cases k2 : k.kind = 2
    · rw [if_pos k2, n141_eq]
      rcases flag_num hr k2 with h | h
      · rw [if_neg (by simp [h])]
        exact .inl ⟨_, rfl, ⟨rfl, .inr ⟨rfl, .inl rfl⟩⟩, k2.symm, h.symm⟩
      · rw [if_pos (by simp [h])]
        exact .inl ⟨_, rfl, ⟨rfl, .inr ⟨rfl, .inr rfl⟩⟩, k2.symm, h.symm⟩
    · rw [if_neg k2]
      exact .inr ⟨k1, k2, rfl⟩
noncomputable def end145 (g : TreeExpr) (r2 : List MeanVal) : Option (TreeExpr × Bool) := (n162 g.name r2).bind fun y2 => if decide (y2.snd = 0) = false then some (TreeExpr.mk 0 0 ByteArray.empty ByteArray.empty [], false) else (n163 y2.fst).bind fun y3 => some (y3.fst, y3.snd)
noncomputable def end105 (g : TreeExpr) (r2 : List MeanVal) : Option TreeExpr := bindB (if g.name = ByteArray.mk #[112, 114, 105, 110, 116] then some true else (n137 g.name r2).bind fun y8 => some !y8) fun y9 => if y9 = true then some g else (n138 g.name r2).bind fun y10 => (n139 y10.fst).bind fun y11 => if 0 < y10.snd ∨ y11.snd = false then some g else some y11.fst
theorem reck (g : TreeExpr) (hl : g.kids.length ≤ 1048576) (hk : ∀ k ∈ g.kids, n135 k = some true ∧ okE k) :
    (n145 g = some (⟨0, 0, .empty, .empty, []⟩, false) ∧ n105 g = some g) ∨ ∃ vs, vs.length = g.kids.length ∧ (∀ v ∈ vs, ValP v) ∧ n145 g = end145 g vs ∧ n105 g = end105 g vs := by
  have loop : ∀ (ys : List TreeExpr) (i : Nat) (r : List MeanVal), g.kids.drop i = ys → r.length = i → i ≤ g.kids.length → (∀ v ∈ r, ValP v) →
      (l145_3 g (i : Int) r = some (⟨0, 0, .empty, .empty, []⟩, false) ∧ l105_3 g (i : Int) r = some g) ∨ ∃ vs, vs.length = g.kids.length ∧ (∀ v ∈ vs, ValP v) ∧ l145_3 g (i : Int) r = end145 g vs ∧ l105_3 g (i : Int) r = end105 g vs := by
    intro ys
    induction ys with
    | nil =>
      intro i r hd hr hi hv
      have := dropEnd hd
      refine .inr ⟨r, by omega, hv, ?_, ?_⟩
      · rw [l145_3_eq, if_neg (by omega)]; rfl
      · rw [l105_3_eq, if_neg (by omega)]; rfl
    | cons y ys ih =>
      intro i r hd hr hi hv
      obtain ⟨d1, d2, d3, d4⟩ := dropAt hd
      obtain ⟨q1, q2⟩ := hk y (mem_drop hd)
      have e1 : ∀ {X : Option TreeExpr}, l105_3 g (i : Int) r = (n106 y).bind (fun y7 => if y7.snd = false then some g else if (r.length + 1) * 40 ≤ 140737488355328 ∧ r.length ≤ 140737488355327 then l105_3 g (IntKind.i64.wrap ((i : Int) + 1)) (r ++ [y7.fst]) else none) := by
        intro _
        rw [l105_3_eq, if_pos (by omega)]
        simp only [d2, d3, Int.toNat_natCast, Option.bind_some, eta_TreeExpr]
      have e2 : l145_3 g (i : Int) r = (n106 y).bind (fun y1 => if y1.snd = false then some (TreeExpr.mk 0 0 ByteArray.empty ByteArray.empty [], false) else if (r.length + 1) * 40 ≤ 140737488355328 ∧ r.length ≤ 140737488355327 then l145_3 g (IntKind.i64.wrap ((i : Int) + 1)) (r ++ [y1.fst]) else none) := by
        rw [l145_3_eq, if_pos (by omega)]
        simp only [d2, Option.bind_some, known_eq]
      rw [e1 (X := none), e2]
      rcases known_ok q1 q2 with ⟨v, v1, v2, _, _⟩ | ⟨_, _, v1⟩
      · have hm : (r.length + 1) * 40 ≤ 140737488355328 ∧ r.length ≤ 140737488355327 := ⟨by omega, by omega⟩
        simp only [v1, Option.bind_some, Bool.true_eq_false, if_false, hm, and_self, if_true, wrN (n := i) (by omega)]
        refine ih (i + 1) (r ++ [v]) d4 (by simp [hr]) (by omega) fun u hu => ?_
        rcases List.mem_append.1 hu with hu | hu
        · exact hv u hu
        · obtain rfl := List.mem_singleton.1 hu; exact v2
      · rw [v1, Option.bind_some, Option.bind_some, if_pos rfl, if_pos rfl]
        exact .inl ⟨rfl, rfl⟩
  have := loop g.kids 0 [] rfl rfl (by omega) (by simp)
  rw [n145_eq, n105_eq]
  exact this
theorem lit_ok {v : MeanVal} (hv : ValP v) : ∃ r b, n163 v = some (r, b) ∧ n139 v = some (r, b) ∧ (b = true → r.kids = [] ∧ okE r ∧ RightP r) := by
  have fin : ∀ k : Int, (k = 1 ∨ k = 2) → (-9223372036854775808 ≤ v.num ∧ v.num < 9223372036854775808) → ∃ b, n135 (TreeExpr.mk k v.num .empty .empty []) = some b ∧ n142 (TreeExpr.mk k v.num .empty .empty []) = some b ∧ (b = true → (TreeExpr.mk k v.num .empty .empty []).kids = [] ∧ okE (TreeExpr.mk k v.num .empty .empty []) ∧ RightP (TreeExpr.mk k v.num .empty .empty [])) := by
    intro k hk hn
    obtain ⟨b, h1, h2⟩ := node_ok (TreeExpr.mk k v.num .empty .empty []) (Nat.zero_le _) (Nat.zero_le _)
    refine ⟨b, h1, h2, fun hb => ⟨rfl, ?_, right_mk (by simp) (hb ▸ h1) (by simp)⟩⟩
    rw [okE_iff]
    have hb : -9223372036854775808 ≤ k ∧ k < 9223372036854775808 := by rcases hk with rfl | rfl <;> decide
    exact ⟨hb, hn, Nat.zero_le _, Nat.zero_le _, Nat.zero_le _, rfl⟩
  obtain ⟨_, hv | hv⟩ := hv
  · obtain ⟨b, h1, h2, h3⟩ := fin 1 (.inl rfl) hv.2
    refine ⟨_, b, ?_, ?_, h3⟩
    · rw [n163_eq, hv.1, if_neg (by decide), if_pos (by decide), if_pos (by decide), h2]; rfl
    · rw [n139_eq, hv.1, if_neg (by decide), if_pos (by decide), if_pos (by decide), h1]; rfl
  · obtain ⟨b, h1, h2, h3⟩ := fin 2 (.inr rfl) (by rcases hv.2 with h | h <;> omega)
    refine ⟨_, b, ?_, ?_, h3⟩
    · rw [n163_eq, hv.1, if_pos (by decide), if_pos (by decide), if_pos (by decide), h2]; rfl
    · rw [n139_eq, hv.1, if_pos (by decide), if_pos (by decide), if_pos (by decide), h1]; rfl
theorem map_two {vs : List MeanVal} {a b : Int} (h : vs.map (·.kind) = [a, b]) : ∃ x y, vs = [x, y] ∧ x.kind = a ∧ y.kind = b := by
  match vs, h with
  | [x, y], h => simp only [List.map_cons, List.map_nil, List.cons.injEq, and_true] at h; exact ⟨x, y, rfl, h.1, h.2⟩
theorem map_one {vs : List MeanVal} {a : Int} (h : vs.map (·.kind) = [a]) : ∃ x, vs = [x] ∧ x.kind = a := by
  match vs, h with
  | [x], h => simp only [List.map_cons, List.map_nil, List.cons.injEq, and_true] at h; exact ⟨x, rfl, h⟩
theorem no_row {vs : List MeanVal} {l : List Int} (hv : ∀ v ∈ vs, ValP v) (h : vs.map (·.kind) = 3 :: l) : False := by
  cases vs with
  | nil => cases h
  | cons x xs =>
    simp only [List.map_cons, List.cons.injEq] at h
    have := (hv x (.head _)).2
    omega
theorem calc_all (s : ByteArray) (hs : s ∈ P16) (n1 : s ≠ ⟨#[112, 114, 105, 110, 116]⟩) (n2 : s ≠ ⟨#[97, 110, 100]⟩) (n3 : s ≠ ⟨#[111, 114]⟩) (vs : List MeanVal) (hv : ∀ v ∈ vs, ValP v) (want : List Int) (t : Int) (hw : n156 s = some (want, t)) (hk : vs.map (·.kind) = want) : CalcP s vs := by
  have bin : ∀ s : ByteArray, s ∈ P16 → primN s ≤ 8 → n156 s = some (want, t) → want = [1, 1] → CalcP s vs := by
    intro s hs h8 _ e
    rw [e] at hk
    obtain ⟨x, y, rfl, kx, ky⟩ := map_two hk
    exact calc2 s hs h8 x y (hv x (by simp)) (hv y (by simp)) kx ky
  have wt : ∀ {s : ByteArray} {w : List Int} {u : Int}, n156 s = some (want, t) → n156 s = some (w, u) → want = w := by
    intro s w u h1 h2
    rw [h1] at h2
    simp only [Option.some.injEq, Prod.mk.injEq] at h2
    exact h2.1
  have T : ∀ {s : ByteArray} {w : List Int} {u : Int}, ((some (primN s)).bind fun y0 => if y0 = 0 then some ([], 0) else if y0 ≤ 5 then some ([1, 1], 1) else if y0 ≤ 8 then some ([1, 1], 2) else if y0 = 9 then some ([2], 2) else if y0 = 10 then some ([3, 1], 1) else if y0 = 11 then some ([3], 1) else if y0 = 12 then some ([3, 1, 1], 3) else if y0 = 13 then some ([3, 3], 3) else if y0 = 14 then some ([1], 1) else some ([2, 2], 2)) = some (w, u) → n156 s = some (w, u) := by
    intro s w u h
    rw [n156_eq, n103_ok]; exact h
  refine prim_cases (C := fun s => s ∈ P16 → s ≠ ⟨#[112, 114, 105, 110, 116]⟩ → s ≠ ⟨#[97, 110, 100]⟩ → s ≠ ⟨#[111, 114]⟩ → n156 s = some (want, t) → CalcP s vs) s ?_ ?_ ?_ ?_ ?_ ?_ ?_ ?_ ?_ ?_ ?_ ?_ ?_ ?_ ?_ ?_ (fun h h' => absurd h' h) hs n1 n2 n3 hw
  · intro a _ _ _ hw; exact bin _ a (by decide +kernel) hw (wt hw (T (u := 1) (by decide +kernel)))
  · intro a _ _ _ hw; exact bin _ a (by decide +kernel) hw (wt hw (T (u := 1) (by decide +kernel)))
  · intro a _ _ _ hw; exact bin _ a (by decide +kernel) hw (wt hw (T (u := 1) (by decide +kernel)))
  · intro a _ _ _ hw; exact bin _ a (by decide +kernel) hw (wt hw (T (u := 1) (by decide +kernel)))
  · intro a _ _ _ hw; exact bin _ a (by decide +kernel) hw (wt hw (T (u := 1) (by decide +kernel)))
  · intro a _ _ _ hw; exact bin _ a (by decide +kernel) hw (wt hw (T (u := 2) (by decide +kernel)))
  · intro a _ _ _ hw; exact bin _ a (by decide +kernel) hw (wt hw (T (u := 2) (by decide +kernel)))
  · intro a _ _ _ hw; exact bin _ a (by decide +kernel) hw (wt hw (T (u := 2) (by decide +kernel)))
  · intro a _ _ _ hw
    have := wt hw (T (w := [2]) (u := 2) (by decide +kernel))
    rw [this] at hk
    obtain ⟨x, rfl, _⟩ := map_one hk
    exact calc1 x
  · intro a _ _ _ hw
    have := wt hw (T (w := [3, 1]) (u := 1) (by decide +kernel))
    rw [this] at hk
    exact (no_row hv hk).elim
  · intro a _ _ _ hw
    have := wt hw (T (w := [3]) (u := 1) (by decide +kernel))
    rw [this] at hk
    exact (no_row hv hk).elim
  · intro a _ _ _ hw
    have := wt hw (T (w := [3, 1, 1]) (u := 3) (by decide +kernel))
    rw [this] at hk
    exact (no_row hv hk).elim
  · intro a _ _ _ hw
    have := wt hw (T (w := [3, 3]) (u := 3) (by decide +kernel))
    rw [this] at hk
    exact (no_row hv hk).elim
  · intro a h; exact absurd rfl h
  · intro a _ h; exact absurd rfl h
  · intro a _ _ h; exact absurd rfl h
/-- What is right of what a node comes to. -/
def OutP (g r : TreeExpr) : Prop := r = g ∨ r ∈ g.kids ∨ (r.kids = [] ∧ okE r ∧ RightP r)
theorem reck_ok (g : TreeExpr) (hl : g.kids.length ≤ 1048576) (hk : ∀ k ∈ g.kids, n135 k = some true ∧ okE k) (hs : g.name ∈ P16) (n1 : g.name ≠ ⟨#[112, 114, 105, 110, 116]⟩) (n2 : g.name ≠ ⟨#[97, 110, 100]⟩) (n3 : g.name ≠ ⟨#[111, 114]⟩) :
    ∃ r, ((n145 g).bind fun y16 => if y16.snd = true then some y16.fst else some g) = some r ∧ n105 g = some r ∧ OutP g r := by
  rcases reck g hl hk with ⟨h1, h2⟩ | ⟨vs, hvl, hv, h1, h2⟩
  · exact ⟨g, by rw [h1]; rfl, h2, .inl rfl⟩
  · obtain ⟨want, t, w1, w2, w3, _⟩ := type_ok g.name hs
    have hf := fits_ok g.name vs (by omega) want t w1 w3
    rw [h1, h2]
    unfold end145 end105
    rw [if_neg n1, hf, n162_eq, w2, Option.bind_some, if_neg w3, kinds_ok vs (by omega), Option.bind_some, same_ok _ _ (by rw [List.length_map]; omega), Option.bind_some]
    by_cases he : vs.map (·.kind) = want
    · obtain ⟨v, u, c1, c2, c3, c4, c5⟩ := calc_all g.name hs n1 n2 n3 vs hv want t w1 he
      simp only [he, decide_true, Bool.not_true, bindB, Option.bind_some, Bool.false_eq_true, if_false, c1, c2]
      by_cases hu : u = 0
      · subst hu
        obtain ⟨r, b, l1, l2, l3⟩ := lit_ok (c4 rfl)
        simp only [decide_true, Bool.true_eq_false, if_false, l1, l2, Option.bind_some]
        cases b with
        | true => exact ⟨r, by simp, by simp, .inr (.inr (l3 rfl))⟩
        | false => exact ⟨g, by simp, by simp, .inl rfl⟩
      · have hpos : 0 < u := by omega
        have hd : decide (u = 0) = false := by simp [hu]
        refine ⟨g, by simp [hu], ?_, .inl rfl⟩
        obtain rfl := c5 hu
        obtain ⟨b, l1, _⟩ := node_ok (TreeExpr.mk 1 0 .empty .empty []) (by decide) (by decide)
        have l2 : n139 ⟨0, 0, []⟩ = some (TreeExpr.mk 1 0 .empty .empty [], b) := by
          rw [n139_eq, if_neg (by decide), if_pos (by decide), if_pos (by decide), l1]; rfl
        simp [l2, hpos]
    · simp only [he, decide_false, Bool.not_false, bindB, Option.bind_some, if_true]
      exact ⟨g, by simp, rfl, .inl rfl⟩
/-! ### a node, folded by both -/
noncomputable def end64 (g : TreeExpr) : Option TreeExpr := bindB (if g.kind = 4 then (n103 g.name).bind fun y2 => some (decide (14 < y2)) else some false) fun y3 => if y3 = true then n104 g else if g.kind = 4 then n105 g else if g.kind = 5 then (getI g.kids 0).bind fun y4 => g.kids[0]?.bind fun y7 => g.kids[0]?.bind fun y10 => (n106 (TreeExpr.mk y7.kind y7.num y7.name y7.mod y10.kids)).bind fun y11 => if y11.snd = true ∧ y11.fst.kind = 2 then (getI g.kids (IntKind.i64.wrap (2 - y11.fst.num))).bind fun y12 => g.kids[(IntKind.i64.wrap (2 - y11.fst.num)).toNat]?.bind fun y15 => g.kids[(IntKind.i64.wrap (2 - y11.fst.num)).toNat]?.bind fun y18 => some (TreeExpr.mk y15.kind y15.num y15.name y15.mod y18.kids) else some g else some g
theorem len3 {es : List TreeExpr} (h : es.length = 3) : ∃ a b c, es = [a, b, c] := by
  match es, h with
  | [a, b, c], _ => exact ⟨a, b, c, rfl⟩
theorem len2 {es : List TreeExpr} (h : es.length = 2) : ∃ a b, es = [a, b] := by
  match es, h with
  | [a, b], _ => exact ⟨a, b, rfl⟩
theorem node_if (g : TreeExpr) (k5 : g.kind = 5) (h0 : n135 g = some true) (hk : ∀ k ∈ g.kids, n135 k = some true ∧ okE k) : ∃ r, n109 g = some r ∧ end64 g = some r ∧ OutP g r := by
  obtain ⟨a, b, c, hab⟩ := len3 (if_len h0 k5)
  obtain ⟨qa, qo⟩ := hk a (by rw [hab]; simp)
  have w1 : IntKind.i64.wrap (2 - 1) = 1 := by decide
  have w0 : IntKind.i64.wrap (2 - 0) = 2 := by decide
  have g0 : ∀ x y z : TreeExpr, getI [x, y, z] 0 = some x := fun _ _ _ => rfl
  have g1 : ∀ x y z : TreeExpr, getI [x, y, z] 1 = some y := fun _ _ _ => rfl
  have g2 : ∀ x y z : TreeExpr, getI [x, y, z] 2 = some z := fun _ _ _ => rfl
  have i0 : ∀ x y z : TreeExpr, [x, y, z][0]? = some x := fun _ _ _ => rfl
  have i1 : ∀ x y z : TreeExpr, [x, y, z][(1 : Int).toNat]? = some y := fun _ _ _ => rfl
  have i2 : ∀ x y z : TreeExpr, [x, y, z][(2 : Int).toNat]? = some z := fun _ _ _ => rfl
  have d4 : (5 : Int) = 4 ↔ False := by decide
  have e109 := n109_eq g
  have e64 : end64 g = _ := rfl
  unfold end64 at e64 ⊢
  clear e64
  simp only [k5, hab, g0, i0, Option.bind_some, bindB, if_true, d4, if_false, Bool.false_eq_true, eta_TreeExpr] at e109 ⊢
  rcases known_ok qa qo with ⟨v, v1, v2, v3, v4⟩ | ⟨u1, u2, v1⟩
  · rw [v1]
    simp only [Option.bind_some, true_and]
    by_cases a2 : a.kind = 2
    · have hv2 : v.kind = 2 := by rw [v3, a2]
      simp only [a2, decide_true, if_true] at e109
      rw [if_pos hv2, v4]
      rcases flag_num qa a2 with h | h
      · simp only [h, w0, g2, Option.bind_some, i2, eta_TreeExpr] at e109 ⊢
        exact ⟨c, e109, rfl, .inr (.inl (by rw [hab]; simp))⟩
      · simp only [h, w1, g1, Option.bind_some, i1, eta_TreeExpr] at e109 ⊢
        exact ⟨b, e109, rfl, .inr (.inl (by rw [hab]; simp))⟩
    · have hv2 : v.kind ≠ 2 := by rw [v3]; exact a2
      rw [if_neg hv2]
      simp only [a2, decide_false, Bool.false_eq_true, if_false, decide_true, true_or, if_true] at e109
      exact ⟨g, e109, rfl, .inl rfl⟩
  · rw [v1]
    simp only [Option.bind_some, Bool.false_eq_true, false_and, if_false]
    simp only [u2, decide_false, Bool.false_eq_true, if_false, decide_true, true_or, if_true] at e109
    exact ⟨g, e109, rfl, .inl rfl⟩
theorem node_else (g : TreeExpr) (k4 : g.kind ≠ 4) (k5 : g.kind ≠ 5) : n109 g = some g ∧ end64 g = some g := by
  rw [n109_eq]
  unfold end64
  simp [k4, k5, bindB]
theorem node_prim (g : TreeExpr) (k4 : g.kind = 4) (h0 : n135 g = some true) (hl : g.kids.length ≤ 1048576) (hk : ∀ k ∈ g.kids, n135 k = some true ∧ okE k) : ∃ r, n109 g = some r ∧ end64 g = some r ∧ OutP g r := by
  have har := prim_len h0 k4
  have hs : g.name ∈ P16 := by
    by_cases h : g.name ∈ P16
    · exact h
    · have e : n155 g.name = some (-1) := by rw [n155_eq, n103_ok, show primN g.name = 0 from find_no _ _ _ h, Option.bind_some, if_pos rfl]
      rw [e] at har
      simp only [Option.some.injEq] at har
      omega
  have d5 : (4 : Int) = 5 ↔ False := by decide
  have e109 := n109_eq g
  simp only [k4, d5, if_false, bindB, Option.bind_some, Bool.false_eq_true, decide_true, Bool.true_eq_false, false_or] at e109
  have e64 : end64 g = if decide (14 < primN g.name) = true then n104 g else n105 g := by
    unfold end64
    simp only [k4, if_true, n103_ok, Option.bind_some, bindB]
  by_cases n1 : g.name = ⟨#[112, 114, 105, 110, 116]⟩
  · rw [if_pos n1] at e109
    rw [e109, e64, n1, if_neg (by decide +kernel)]
    refine ⟨g, rfl, ?_, .inl rfl⟩
    rcases reck g hl hk with ⟨_, h2⟩ | ⟨vs, _, _, _, h2⟩
    · exact h2
    · rw [h2]; unfold end105; rw [if_pos n1]; simp [bindB]
  rw [if_neg n1] at e109
  have half : (g.name = ⟨#[97, 110, 100]⟩ ∨ g.name = ⟨#[111, 114]⟩) → ∃ r, n109 g = some r ∧ end64 g = some r ∧ OutP g r := by
    intro hn
    have hlen : g.kids.length = 2 := by
      have : n155 g.name = some 2 := by
        rcases hn with h | h <;> rw [h, n155_eq, n103_ok] <;> decide +kernel
      rw [this] at har
      simp only [Option.some.injEq] at har
      omega
    obtain ⟨a, b, hab⟩ := len2 hlen
    obtain ⟨qa, qo⟩ := hk a (by rw [hab]; simp)
    have hp : decide (14 < primN g.name) = true := by rcases hn with h | h <;> rw [h] <;> decide +kernel
    have g0 : ∀ x y : TreeExpr, getI [x, y] 0 = some x := fun _ _ => rfl
    have g1 : ∀ x y : TreeExpr, getI [x, y] 1 = some y := fun _ _ => rfl
    have i0 : ∀ x y : TreeExpr, [x, y][0]? = some x := fun _ _ => rfl
    have i1 : ∀ x y : TreeExpr, [x, y][1]? = some y := fun _ _ => rfl
    have hnn : ¬ (decide (g.name = ⟨#[97, 110, 100]⟩) = false ∧ decide (g.name = ⟨#[111, 114]⟩) = false) := by
      rintro ⟨x, y⟩
      rcases hn with h | h
      · simp [h] at x
      · simp [h] at y
    rw [if_neg hnn] at e109
    rw [if_pos hp] at e64
    have e104 := n104_eq g
    simp only [hab, g0, g1, i0, i1, Option.bind_some, eta_TreeExpr] at e109 e104
    rw [e64, e104]
    rcases known_ok qa qo with ⟨v, v1, v2, v3, v4⟩ | ⟨u1, u2, v1⟩
    · rw [v1]
      simp only [Option.bind_some, v3, v4, Bool.true_eq_false, false_or]
      by_cases a2 : a.kind = 2
      · simp only [a2, if_true, decide_true, Bool.true_eq_false, if_false] at e109 ⊢
        have hb : (decide (a.num = 1) == decide (g.name = ⟨#[97, 110, 100]⟩)) = (decide (g.name = ⟨#[97, 110, 100]⟩) == decide (a.num = 1)) := by
          cases decide (a.num = 1) <;> cases decide (g.name = ⟨#[97, 110, 100]⟩) <;> rfl
        rw [hb] at e109
        by_cases hc : (decide (g.name = ⟨#[97, 110, 100]⟩) == decide (a.num = 1)) = true
        · rw [if_pos hc] at e109 ⊢
          exact ⟨b, e109, rfl, .inr (.inl (by rw [hab]; simp))⟩
        · rw [if_neg hc] at e109 ⊢
          exact ⟨a, e109, rfl, .inr (.inl (by rw [hab]; simp))⟩
      · simp only [a2, if_false, decide_false, if_true] at e109 ⊢
        exact ⟨g, e109, rfl, .inl rfl⟩
    · rw [v1]
      simp only [Option.bind_some, true_or, if_true]
      simp only [u2, if_false] at e109
      exact ⟨g, e109, rfl, .inl rfl⟩
  by_cases n2 : g.name = ⟨#[97, 110, 100]⟩
  · exact half (.inl n2)
  by_cases n3 : g.name = ⟨#[111, 114]⟩
  · exact half (.inr n3)
  obtain ⟨r, r1, r2, r3⟩ := reck_ok g hl hk hs n1 n2 n3
  have hp : ¬ decide (14 < primN g.name) = true := by
    refine prim_cases (C := fun s => s ≠ ⟨#[97, 110, 100]⟩ → s ≠ ⟨#[111, 114]⟩ → ¬ decide (14 < primN s) = true) g.name ?_ ?_ ?_ ?_ ?_ ?_ ?_ ?_ ?_ ?_ ?_ ?_ ?_ ?_ ?_ ?_ (fun h => absurd hs h) n2 n3
    all_goals intro a b
    all_goals first
      | decide +kernel
      | exact absurd rfl a
      | exact absurd rfl b
  rw [if_pos ⟨by simp [n2], by simp [n3]⟩, r1] at e109
  rw [if_neg hp, r2] at e64
  exact ⟨r, e109, e64, r3⟩
theorem node_fold (g : TreeExpr) (h0 : n135 g = some true) (hl : g.kids.length ≤ 1048576) (hk : ∀ k ∈ g.kids, n135 k = some true ∧ okE k) : ∃ r, n109 g = some r ∧ end64 g = some r ∧ OutP g r := by
  by_cases k4 : g.kind = 4
  · exact node_prim g k4 h0 hl hk
  by_cases k5 : g.kind = 5
  · exact node_if g k5 h0 hk
  obtain ⟨h1, h2⟩ := node_else g k4 k5
  exact ⟨g, h1, h2, .inl rfl⟩

/-! ### folding -/
inductive F2 {α β : Type} (R : α → β → Prop) : List α → List β → Prop
  | nil : F2 R [] []
  | cons {x y xs ys} : R x y → F2 R xs ys → F2 R (x :: xs) (y :: ys)
theorem F2.of {α β : Type} {R : α → β → Prop} : ∀ {xs : List α}, (∀ x ∈ xs, ∃ y, R x y) → ∃ ys, F2 R xs ys
  | [], _ => ⟨[], .nil⟩
  | x :: xs, h => by
    obtain ⟨y, hy⟩ := h x (.head _)
    obtain ⟨ys, hys⟩ := F2.of (xs := xs) fun x hx => h x (.tail _ hx)
    exact ⟨y :: ys, .cons hy hys⟩
theorem F2.len {α β : Type} {R : α → β → Prop} : ∀ {xs : List α} {ys : List β}, F2 R xs ys → ys.length = xs.length
  | _, _, .nil => rfl
  | _, _, .cons _ h => by rw [List.length_cons, List.length_cons, h.len]
theorem F2.mem {α β : Type} {R : α → β → Prop} : ∀ {xs : List α} {ys : List β}, F2 R xs ys → ∀ y ∈ ys, ∃ x ∈ xs, R x y
  | _, _, .nil, y, h => by cases h
  | _, _, .cons hr h, y, hy => by
    cases hy with
    | head => exact ⟨_, .head _, hr⟩
    | tail _ hy => obtain ⟨x, hx, hr⟩ := h.mem y hy; exact ⟨x, .tail _ hx, hr⟩
/-- What the two foldings of a tree come to. -/
def FoldP (k r : TreeExpr) : Prop := n67 k = some r ∧ n64 k = some r ∧ okE r ∧ RightP r ∧ NE r ≤ NE k
theorem F2.nodes : ∀ {xs ys : List TreeExpr}, F2 FoldP xs ys → NL ys ≤ NL xs
  | _, _, .nil => Nat.le_refl _
  | _, _, .cons hr h => by have := h.nodes; have := hr.2.2.2.2; rw [NL_cons, NL_cons]; omega
theorem F2.oks : ∀ {xs ys : List TreeExpr}, F2 FoldP xs ys → okEs ys
  | _, _, .nil => rfl
  | _, _, .cons hr h => (okEs_cons _ _).2 ⟨hr.2.2.1, h.oks⟩
theorem fold_ok : ∀ e : TreeExpr, okE e → RightP e → W e ≤ 1048576 → ∃ r, FoldP e r := by
  intro e
  induction e using tree_ind with
  | h e ih =>
    intro hok hr hw
    obtain ⟨k1, k2, k3, k4, k5, k6⟩ := (okE_iff e).1 hok
    rw [W_eq] at hw
    obtain ⟨h0, hkr⟩ := right_inv k5 hr
    obtain ⟨rs, hrs⟩ := F2.of (R := FoldP) (xs := e.kids) fun k hk => ih k hk (okEs_mem k6 k hk) (hkr k hk) (by have := WL_mem (es := e.kids) k hk; omega)
    have hlen := hrs.len
    have loop : ∀ (ys zs : List TreeExpr) (i : Nat) (acc : List TreeExpr), F2 FoldP ys zs → e.kids.drop i = ys → acc.length = i → i ≤ e.kids.length →
        l67_3 e (i : Int) acc = n109 (TreeExpr.mk e.kind e.num e.name e.mod (acc ++ zs)) ∧ l64_3 e (i : Int) acc = end64 (TreeExpr.mk e.kind e.num e.name e.mod (acc ++ zs)) := by
      intro ys zs i acc hF
      induction hF generalizing i acc with
      | nil =>
        intro hd ha hi
        have := dropEnd hd
        rw [List.append_nil]
        refine ⟨?_, ?_⟩
        · rw [l67_3_eq, if_neg (by omega)]
        · rw [l64_3_eq, if_neg (by omega)]; rfl
      | @cons x y xs ys hr hF ihF =>
        intro hd ha hi
        obtain ⟨d1, d2, d3, d4⟩ := dropAt hd
        obtain ⟨f1, f2, _⟩ := hr
        obtain ⟨r1, r2⟩ := ihF (i + 1) (acc ++ [y]) d4 (by simp [ha]) (by omega)
        rw [l67_3_eq, l64_3_eq, if_pos (by omega), if_pos (by omega), d2, Option.bind_some, Option.bind_some, f1, f2, Option.bind_some, Option.bind_some, if_pos ⟨by omega, by omega⟩, if_pos ⟨by omega, by omega⟩, wrN (by omega)]
        rw [List.append_assoc] at r1 r2
        exact ⟨r1, r2⟩
    obtain ⟨l1, l2⟩ := loop e.kids rs 0 [] hrs rfl rfl (by omega)
    rw [List.nil_append] at l1 l2
    have hg0 : n135 (TreeExpr.mk e.kind e.num e.name e.mod rs) = some true := by
      rw [n135_eq] at h0 ⊢
      simp only [n154_eq, hlen] at h0 ⊢
      exact h0
    have hgk : ∀ k ∈ rs, n135 k = some true ∧ okE k := fun k hk => by
      obtain ⟨x, hx, f⟩ := hrs.mem k hk
      have := (okE_iff k).1 f.2.2.1
      exact ⟨(right_inv this.2.2.2.2.1 f.2.2.2.1).1, f.2.2.1⟩
    have hgok : okE (TreeExpr.mk e.kind e.num e.name e.mod rs) := (okE_iff _).2 ⟨k1, k2, k3, k4, by show rs.length ≤ _; omega, hrs.oks⟩
    have hgr : RightP (TreeExpr.mk e.kind e.num e.name e.mod rs) := right_mk (by show rs.length ≤ _; omega) hg0 fun k hk => by
      obtain ⟨x, hx, f⟩ := hrs.mem k hk
      exact f.2.2.2.1
    have hgn : NE (TreeExpr.mk e.kind e.num e.name e.mod rs) ≤ NE e := by
      rw [NE_eq, NE_eq]
      have := hrs.nodes
      show 1 + NL rs ≤ _
      omega
    obtain ⟨r, r1, r2, r3⟩ := node_fold (TreeExpr.mk e.kind e.num e.name e.mod rs) hg0 (by show rs.length ≤ _; omega) hgk
    refine ⟨r, ?_, ?_, ?_⟩
    · rw [n67_eq]; exact l1.trans r1
    · rw [n64_eq]; exact l2.trans r2
    · rcases r3 with rfl | hm | ⟨h1, h2, h3⟩
      · exact ⟨hgok, hgr, hgn⟩
      · have hm : r ∈ rs := hm
        obtain ⟨x, hx, f⟩ := hrs.mem r hm
        refine ⟨f.2.2.1, f.2.2.2.1, ?_⟩
        have := NE_mem (es := rs) r hm
        have h2 : NE (TreeExpr.mk e.kind e.num e.name e.mod rs) = 1 + NL rs := NE_eq _
        omega
      · refine ⟨h2, h3, ?_⟩
        rw [NE_eq r, h1, NL_nil, NE_eq]
        omega
end Go.Fs.Se

set_option linter.unusedVariables false
set_option linter.unusedSimpArgs false
set_option maxRecDepth 40000
set_option maxHeartbeats 4000000
open Go.RowKit
namespace Go.Fs.Se
open Cel (cel unc)
open Dat (enc dec)
open Arg (ea da)
/-! loop.example/smithy/laws.FnExactFoldExpr -/
theorem n6_eq (a0 : TreeExpr) : n6 a0 = (n27 a0 1048576).bind fun y0 => if y0 < 0 then some true else (n29 a0).bind fun y1 => (n28 y1).bind fun y2 => (n29 a0).bind fun y3 => (n30 y3).bind fun y4 => (n31 y4 y2).bind fun y5 => if y5 = false then some false else (n29 a0).bind fun y6 => (n31 y3 y6).bind fun y7 => if y7 = false then some false else (n32 y3 1).bind fun y8 => bindB (if y8.fst < 0 then some true else (n31 y4 y2).bind fun y9 => some !y9) fun y10 => if y10 = true then some false else (n32 y4 1).bind fun y11 => (n33 (TreeExpr.mk y4.kind y4.num y4.name y4.mod y11.snd.kids) 1).bind fun y12 => if y12 < 0 then some false else if decide (y12 = y11.fst) = false then some false else (n29 a0).bind fun y13 => (n30 y13).bind fun y14 => (n31 y14 y2).bind fun y15 => if y15 = false then some false else (n33 (TreeExpr.mk y4.kind y4.num y4.name y4.mod y11.snd.kids) 1).bind fun y16 => if y16 < 0 then some false else if decide (y16 = y11.fst) = false then some false else some true := by
  rw [n6, fnO_code h6 rfl Go.Proofs.Try.func6 (c := cd6) rfl (a0, ()) rfl]
  simp (maxSteps := 60000000) (disch := first | (intros; rename_i h; cases h; done) | decide +kernel) only [evS, seS, List.map_replicate, Nat.reduceDiv, Nat.reduceMod, Nat.reduceEqDiff, reduceCtorEq, ↓reduceIte, Nat.reduceLT, Nat.reduceAdd, Nat.reduceMul, Nat.reduceSub, Nat.reduceLeDiff, Nat.reduceBEq, Int.reduceEq, Int.reduceNeg, Int.reduceToNat, Int.reduceLE, Int.reduceLT, cd6, Go.Proofs.Try.f6, h6.r, m6, lv_pl, pl6, c27, c28, c29, c30, c31, c32, c33]
  all_goals try simp only [bindN_eq]
end Go.Fs.Se

set_option linter.unusedVariables false
set_option linter.unusedSimpArgs false
set_option maxRecDepth 40000
set_option maxHeartbeats 4000000
open Go.RowKit
namespace Go.Fs.Se
open Cel (cel unc)
open Dat (enc dec)
open Arg (ea da)
/-! loop.example/smithy/spec.FoldExpr -/
theorem n28_eq (a0 : TreeExpr) : n28 a0 = (n63 a0).bind fun y0 => if y0 = false then some (TreeExpr.mk 0 0 ByteArray.empty ByteArray.empty []) else n64 a0 := by
  rw [n28, fnO_code h28 rfl Go.Proofs.Try.func28 (c := cd28) rfl (a0, ()) rfl]
  simp (maxSteps := 60000000) (disch := first | (intros; rename_i h; cases h; done) | decide +kernel) only [evS, seS, List.map_replicate, Nat.reduceDiv, Nat.reduceMod, Nat.reduceEqDiff, reduceCtorEq, ↓reduceIte, Nat.reduceLT, Nat.reduceAdd, Nat.reduceMul, Nat.reduceSub, Nat.reduceLeDiff, Nat.reduceBEq, Int.reduceEq, Int.reduceNeg, Int.reduceToNat, Int.reduceLE, Int.reduceLT, cd28, Go.Proofs.Try.f28, h28.r, m28, lv_pl, pl28, c63, c64]
  all_goals try simp only [bindN_eq]
end Go.Fs.Se

set_option linter.unusedVariables false
set_option linter.unusedSimpArgs false
set_option maxRecDepth 40000
set_option maxHeartbeats 4000000
open Go.RowKit
namespace Go.Fs.Se
open Cel (cel unc)
open Dat (enc dec)
open Arg (ea da)
/-! loop.example/smithy/impl.FoldExpr -/
theorem n30_eq (a0 : TreeExpr) : n30 a0 = (n66 a0).bind fun y0 => if y0 = false then some (TreeExpr.mk 0 0 ByteArray.empty ByteArray.empty []) else n67 a0 := by
  rw [n30, fnO_code h30 rfl Go.Proofs.Try.func30 (c := cd30) rfl (a0, ()) rfl]
  simp (maxSteps := 60000000) (disch := first | (intros; rename_i h; cases h; done) | decide +kernel) only [evS, seS, List.map_replicate, Nat.reduceDiv, Nat.reduceMod, Nat.reduceEqDiff, reduceCtorEq, ↓reduceIte, Nat.reduceLT, Nat.reduceAdd, Nat.reduceMul, Nat.reduceSub, Nat.reduceLeDiff, Nat.reduceBEq, Int.reduceEq, Int.reduceNeg, Int.reduceToNat, Int.reduceLE, Int.reduceLT, cd30, Go.Proofs.Try.f30, h30.r, m30, lv_pl, pl30, c66, c67]
  all_goals try simp only [bindN_eq]
end Go.Fs.Se

set_option linter.unusedVariables false
namespace Go.Fs
open Go.RowKit

/-! ### from a claim's reading of an argument to a datum -/
mutual
/-- A type's shape. -/
inductive HS (P : Program) : TypeId → List Sh → Prop
  | b (t : TypeId) (h : P.underlying t = some .bool) : HS P t [.b]
  | i (t : TypeId) (h : P.underlying t = some (.int .i64)) : HS P t [.i]
  | s (t : TypeId) (h : P.underlying t = some .string) : HS P t [.s]
  | l (t e : TypeId) (css : List Sh) (h : P.underlying t = some (.slice e)) (hc : P.cellsOf e = css.length) (hb : 1 ≤ P.bytesOf e) (hp : 0 < css.length) (he : HS P e css) : HS P t [.l css]
  | t (t e : TypeId) (fs : Array Field) (h : P.underlying t = some (.slice e)) (hc : P.cellsOf e = 5) (hb : 1 ≤ P.bytesOf e) (hs : P.underlying e = some (.struct fs)) (hf : HSF P [t] fs.toList 0 treeS) : HS P t [.t]
  | st (t : TypeId) (fs : Array Field) (css : List Sh) (h : P.underlying t = some (.struct fs)) (hc : P.cellsOf t = css.length) (hf : HSF P [] fs.toList 0 css) : HS P t css
/-- The shape of fields; 'rec': a type whose shape is being told. -/
inductive HSF (P : Program) : List TypeId → List Field → Nat → List Sh → Prop
  | nil (rec : List TypeId) (o : Nat) : HSF P rec [] o []
  | cons (rec : List TypeId) (f : Field) (fs : List Field) (o : Nat) (c1 c2 : List Sh) (hoff : f.offset = o) (hsz : P.cellsOf f.type = c1.length) (h : HS P f.type c1) (hs : HSF P rec fs (o + c1.length) c2) : HSF P rec (f :: fs) o (c1 ++ c2)
  | self (f : Field) (fs : List Field) (o : Nat) (c2 : List Sh) (hoff : f.offset = o) (hsz : P.cellsOf f.type = 1) (hs : HSF P [f.type] fs (o + 1) c2) : HSF P [f.type] (f :: fs) o (.t :: c2)
end

section
variable {H : Type} {enc : TypeId × Value → H} {P : Program} {w : World} {spare : Nat → Bool} {held : Bool}

/-- What is read of a list of cells. -/
def RdOK (w : World) (cs : List Value) (css : List Sh) : Prop := ∃ ds S, TrL w false cs ds S ∧ (∀ v ∈ cs, v.oneCell' = true) ∧ shL css ds = true ∧ okL ds = true

theorem RdOK.append {cs cs' : List Value} {css css' : List Sh} (h : RdOK w cs css) (h' : RdOK w cs' css') : RdOK w (cs ++ cs') (css ++ css') := by
  obtain ⟨ds, S, h1, h2, h3, h4⟩ := h
  obtain ⟨ds', S', h1', h2', h3', h4'⟩ := h'
  refine ⟨ds ++ ds', S ++ S', h1.append h1', fun v hv => ?_, ?_, ?_⟩
  · rcases List.mem_append.1 hv with hv | hv
    · exact h2 v hv
    · exact h2' v hv
  · clear h1 h2 h4
    induction css generalizing ds with
    | nil => obtain rfl := shL_nil h3; exact h3'
    | cons c css ih =>
      obtain ⟨d, q, rfl, e1, e2⟩ := shL_cons h3
      simp only [List.cons_append, shL, Bool.and_eq_true]
      exact ⟨e1, ih q e2⟩
  · clear h1 h3
    induction ds with
    | nil => exact h4'
    | cons d ds ih =>
      rw [okL_cons] at h4
      simp only [List.cons_append]
      rw [okL_cons]
      exact ⟨h4.1, ih h4.2⟩

theorem wf_i64 {n : Int} (h : (Lit.int .i64 n).wf = true) : okD (.i .i64 n) = true := by
  rw [okD_i]
  simp only [Lit.wf, Bool.and_eq_true, decide_eq_true_eq] at h
  have e1 : IntKind.i64.min = -9223372036854775808 := by decide
  have e2 : IntKind.i64.max = 9223372036854775807 := by decide
  rw [e1, e2] at h
  omega

theorem weights_all {e : TypeId} : ∀ {l : List (DataW H)}, (DataW.weightsAll P e l).all (· ≤ reachBytes) = true → ∀ d ∈ l, (d.weights P e).all (· ≤ reachBytes) = true
  | [], _, d, hd => by cases hd
  | x :: l, h, d, hd => by
    simp only [DataW.weightsAll, List.all_append, Bool.and_eq_true] at h
    rcases List.mem_cons.1 hd with rfl | hd
    · exact h.1
    · exact weights_all h.2 d hd

theorem cell_addr {a : Addr} {v : Value} (h : w.cell? a = some v) : ∃ cur el fr, w.heap[a.block]? = some (.cells cur el fr) ∧ a.spot = none ∧ cur[a.off]? = some v := by
  unfold World.cell? at h
  split at h
  · rename_i c el fr hg
    split at h
    · cases h
    · rename_i hs
      exact ⟨c, el, fr, hg, by simpa using hs, h⟩
  · cases h

theorem addr_add (a : Addr) (m n : Nat) : (a.add m).add n = a.add (m + n) := by
  obtain ⟨b, o, s⟩ := a
  unfold Addr.add
  by_cases h1 : m = 0 <;> by_cases h2 : n = 0 <;> simp [h1, h2, Nat.add_assoc]

/-- A list that is read. -/
theorem rd_slice {t e : TypeId} {css : List Sh} (ht : P.underlying t = some (.slice e)) (hc : P.cellsOf e = css.length) (hb : 1 ≤ P.bytesOf e) (hp : 0 < css.length) {n : Nat}
    (ih : ∀ (m : Nat), m < n → ∀ cs (x : DataW H × List MemPlace), DataW.trod enc P w 0 spare held m e cs = some x → (x.1.weights P e).all (· ≤ reachBytes) = true → RdOK w cs css)
    {cs : List Value} {x : DataW H × List MemPlace} (h : DataW.trod enc P w 0 spare held n t cs = some x) (hw : (x.1.weights P t).all (· ≤ reachBytes) = true) :
    ∃ xs S v, cs = [v] ∧ Tr w false v (.l css.length xs) S ∧ v.oneCell' = true ∧ shLL css xs = true ∧ okLL xs = true ∧ xs.length ≤ 140737488355328 := by
  rcases DataW.trod_slice ht h with ⟨rfl, rfl⟩ | ⟨a, len, cap, elems, rest, m, rfl, rfl, rfl, hb0, hl, hm, hel, hx, _, _⟩
  · exact ⟨[], [], _, rfl, .z none 0 _ (by simp), rfl, rfl, rfl, Nat.zero_le _⟩
  · -- element by element
    simp only [DataW.weights, ht, List.all_cons, List.all_append, Bool.and_eq_true, decide_eq_true_eq] at hw
    obtain ⟨hw1, hw2, _⟩ := hw
    have hlen : len ≤ 140737488351232 := by
      have h1 : len ≤ len * P.bytesOf e := Nat.le_mul_of_pos_right _ (by omega)
      have h2 : (elems.map (·.1)).length = len := by rw [List.length_map, hel]
      rw [h2] at hw1
      have h3 : len * P.bytesOf e ≤ (len + (rest.map (·.1)).length) * P.bytesOf e := Nat.mul_le_mul_right _ (by omega)
      have h4 : reachBytes = 140737488351232 := by decide
      omega
    have step : ∀ k, k ≤ len → ∃ vs xs S, TrL w false vs xs.flatten S ∧ (∀ v ∈ vs, v.oneCell' = true) ∧ vs.length = k * css.length ∧ xs.length = k ∧ shLL css xs = true ∧ okLL xs = true ∧ ∀ j v, vs[j]? = some v → w.cell? (a.add j) = some v := by
      intro k
      induction k with
      | zero => intro _; exact ⟨[], [], [], .nil, by simp, by simp, rfl, rfl, rfl, by simp⟩
      | succ k ihk =>
        intro hk
        obtain ⟨vs, xs, S, a1, a2, a3, a4, a5, a6, a7⟩ := ihk (by omega)
        have hk' : k < elems.length := by omega
        have hxk := hx k (by omega)
        rw [List.getElem?_eq_getElem hk'] at hxk
        obtain ⟨cs', c1, c2⟩ := Option.bind_eq_some_iff.1 hxk
        obtain ⟨ds, S', b1, b2, b3, b4⟩ := ih m (Nat.lt_succ_self m) cs' _ c2 (weights_all hw2 _ (List.mem_map.2 ⟨_, List.getElem_mem hk', rfl⟩))
        obtain ⟨_, d2, d3⟩ := World.cells?_some c1
        refine ⟨vs ++ cs', xs ++ [ds], S ++ S', ?_, ?_, ?_, ?_, ?_, ?_, ?_⟩
        · rw [List.flatten_append]; simpa using a1.append b1
        · intro v hv
          rcases List.mem_append.1 hv with hv | hv
          · exact a2 v hv
          · exact b2 v hv
        · rw [List.length_append, a3, d2, hc, Nat.succ_mul]
        · simp [a4]
        · clear a1 a4 a6 a7
          induction xs with
          | nil => simp only [List.nil_append, shLL, Bool.and_eq_true]; exact ⟨b3, trivial⟩
          | cons y ys ihy => simp only [List.cons_append, shLL, Bool.and_eq_true] at a5 ⊢; exact ⟨a5.1, ihy a5.2⟩
        · clear a1 a4 a5 a7
          induction xs with
          | nil => simp only [List.nil_append, okLL, Bool.and_eq_true]; exact ⟨b4, trivial⟩
          | cons y ys ihy => simp only [List.cons_append, okLL, Bool.and_eq_true] at a6 ⊢; exact ⟨a6.1, ihy a6.2⟩
        · intro j v hj
          by_cases hjl : j < vs.length
          · rw [List.getElem?_append_left hjl] at hj; exact a7 j v hj
          · rw [List.getElem?_append_right (by omega)] at hj
            have hlt : j - vs.length < cs'.length := (List.getElem?_eq_some_iff.1 hj).1
            have := d3 (j - vs.length) (by omega)
            rw [hj] at this
            rw [← this, hc, addr_add]
            congr 2
            omega
    obtain ⟨vs, xs, S, a1, a2, a3, a4, a5, a6, a7⟩ := step len (Nat.le_refl _)
    by_cases h0 : len = 0
    · subst h0
      obtain rfl : xs = [] := List.eq_nil_of_length_eq_zero a4
      exact ⟨[], [], _, rfl, .z (some a) cap _ (by simp), rfl, rfl, rfl, Nat.zero_le _⟩
    · have hv0 : 0 < vs.length := by rw [a3]; exact Nat.mul_pos (by omega) hp
      have c0 := a7 0 vs[0] (List.getElem?_eq_getElem hv0)
      obtain ⟨cur, el, fr, g1, g2, _⟩ := cell_addr c0
      have hblk : (a.add 0).block = a.block := rfl
      have hspot : (a.add 0).spot = a.spot := rfl
      rw [hblk] at g1
      rw [hspot] at g2
      have ha : a = ⟨a.block, a.off, none⟩ := by cases a; simp at g2; simp [g2]
      have had : ∀ j, a.add j = ⟨a.block, a.off + j, none⟩ := fun j => by
        have := add_at a.block a.off j
        rw [← ha] at this; exact this
      refine ⟨xs, a.block :: S, .slice (some a) len cap, rfl, ?_, rfl, a5, a6, by omega⟩
      have := Tr.l (w := w) (own := false) a.block a.off cap css.length cur el fr vs xs S g1 (by omega) (by
        have : Go.maxLen = 2 ^ 63 - 1 := rfl
        omega) (by rw [a3, a4]) (fun j v hj => by
          have := a7 j v hj
          rw [had, cell_at g1] at this
          exact this) a2 (fun x hx => by rw [shL_length (shLL_len a5 x hx)]) (by simp) a1
      rw [a4, ← ha] at this
      exact this

/-- What a claim reads is a datum of its type's shape. -/
theorem trod_rd : ∀ (n : Nat) {t : TypeId} {css : List Sh}, HS P t css → ∀ cs (x : DataW H × List MemPlace), DataW.trod enc P w 0 spare held n t cs = some x → (x.1.weights P t).all (· ≤ reachBytes) = true → RdOK w cs css := by
  intro n
  induction n using Nat.strongRecOn with
  | _ n IH =>
    intro t css hs
    -- fields in turn
    have fields : ∀ {rec : List TypeId} {fs : List Field} {o : Nat} {css : List Sh}, HSF P rec fs o css → (∀ t ∈ rec, HS P t [.t]) → ∀ (m : Nat), m < n → ∀ (cs : List Value) (ys : List (DataW H × List MemPlace)), o + css.length ≤ cs.length → (∀ (i : Nat) (f : Field), fs[i]? = some f → DataW.trod enc P w 0 spare held m f.type ((cs.drop f.offset).take (P.cellsOf f.type)) = ys[i]?) → ys.length = fs.length →
        (DataW.weightsEach P (fs.map (·.type)) (ys.map (·.1))).all (· ≤ reachBytes) = true → RdOK w ((cs.drop o).take css.length) css := by
      intro rec fs
      induction fs with
      | nil =>
        intro o css hf _ m _ cs ys _ _ _ _
        cases hf
        exact ⟨[], [], by simpa using .nil, by simp, rfl, rfl⟩
      | cons f fs ihf =>
        intro o css hf hrec m hm cs ys hl hx hy hw
        cases ys with
        | nil => simp at hy
        | cons y ys =>
          simp only [List.map_cons, DataW.weightsEach, List.all_append, Bool.and_eq_true] at hw
          have h0 := hx 0 f rfl
          simp only [List.getElem?_cons_zero] at h0
          cases hf with
          | cons _ _ _ _ c1 c2 hoff hsz h hs' =>
            rw [hoff, hsz] at h0
            have r1 := IH m hm h _ _ h0 hw.1
            have r2 := ihf hs' hrec m hm cs ys (by rw [List.length_append] at hl; omega) (fun i g hg => by simpa using hx (i + 1) g (by simpa using hg)) (by simpa using hy) hw.2
            rw [List.length_append, List.take_add, List.drop_drop]
            exact r1.append r2
          | self _ _ _ c2 hoff hsz hs' =>
            rw [hoff, hsz] at h0
            have r1 := IH m hm (hrec f.type (by simp)) _ _ h0 hw.1
            have r2 := ihf hs' hrec m hm cs ys (by rw [List.length_cons] at hl; omega) (fun i g hg => by simpa using hx (i + 1) g (by simpa using hg)) (by simpa using hy) hw.2
            rw [List.length_cons, Nat.add_comm c2.length 1, List.take_add, List.drop_drop]
            exact r1.append (css := [.t]) r2
    have struct : ∀ {e : TypeId} {fs : Array Field} {css : List Sh} {rec : List TypeId}, P.underlying e = some (.struct fs) → P.cellsOf e = css.length → HSF P rec fs.toList 0 css → (∀ t ∈ rec, HS P t [.t]) → ∀ m, m ≤ n → ∀ cs (x : DataW H × List MemPlace), DataW.trod enc P w 0 spare held m e cs = some x → (x.1.weights P e).all (· ≤ reachBytes) = true → RdOK w cs css := by
      intro e fs css rec he hc hf hrec m hm cs x h hw
      obtain ⟨xs, k, rfl, rfl, hl, hlen, hx⟩ := DataW.trod_struct he h
      simp only [DataW.weights, he] at hw
      have := fields hf hrec k (by omega) cs xs (by omega) (fun i f hi => hx i f (by rw [← Array.getElem?_toList]; exact hi)) (by simpa using hlen) hw
      rw [List.drop_zero, ← hc, ← hl, List.take_length] at this
      exact this
    cases hs with
    | b _ h =>
      intro cs x hx hw
      obtain ⟨b, rfl, rfl⟩ := DataW.trod_bool h hx
      exact ⟨[.b b], [] ++ [], .cons _ _ _ _ _ _ (.b b) .nil, by simp [Value.oneCell'], rfl, by simp [okL, okD]⟩
    | i _ h =>
      intro cs x hx hw
      obtain ⟨k, rfl, rfl, hwf⟩ := DataW.trod_int h hx
      refine ⟨[.i .i64 k], [] ++ [], .cons _ _ _ _ _ _ (.i .i64 k) .nil, by simp [Value.oneCell'], rfl, ?_⟩
      rw [okL_cons]
      exact ⟨wf_i64 hwf, rfl⟩
    | s _ h =>
      intro cs x hx hw
      obtain ⟨s, rfl, rfl, hsz⟩ := DataW.trod_string h hx
      refine ⟨[.s s], [] ++ [], .cons _ _ _ _ _ _ (.s s) .nil, by simp [Value.oneCell'], rfl, ?_⟩
      rw [okL_cons, okD_s]
      refine ⟨?_, rfl⟩
      simp only [DataW.weights, List.all_cons, List.all_nil, Bool.and_true, decide_eq_true_eq] at hw
      have h4 : reachBytes = 140737488351232 := by decide
      have h5 : s.data.toList.length = s.size := by simp
      omega
    | l _ e css' h hc hb hp he =>
      intro cs x hx hw
      obtain ⟨xs, S, v, rfl, r1, r2, r3, r4, r5⟩ := rd_slice h hc hb hp (fun m hm cs x => IH m hm he cs x) hx hw
      refine ⟨[.l css'.length xs], S ++ [], .cons _ _ _ _ _ _ r1 .nil, by simpa using r2, ?_, ?_⟩
      · simp only [shL, shD, beq_self_eq_true, Bool.true_and, Bool.and_true]; exact r3
      · rw [okL_cons, okD_l]; exact ⟨⟨r5, r4⟩, rfl⟩
    | t _ e fs h hc hb hst hf =>
      intro cs x hx hw
      obtain ⟨xs, S, v, rfl, r1, r2, r3, r4, r5⟩ := rd_slice (css := treeS) h hc hb (by decide) (fun m hm cs x hx hw => struct (css := treeS) hst hc hf (fun t' ht' => by
        obtain rfl : t' = t := by simpa using ht'
        exact .t _ e fs h hc hb hst hf) m (Nat.le_of_lt hm) cs x hx hw) hx hw
      refine ⟨[.l 5 xs], S ++ [], .cons _ _ _ _ _ _ r1 .nil, by simpa using r2, ?_, ?_⟩
      · simp only [shL, shD, beq_self_eq_true, Bool.true_and, Bool.and_true]; exact r3
      · rw [okL_cons, okD_l]; exact ⟨⟨r5, r4⟩, rfl⟩
    | st _ fs _ h hc hf =>
      intro cs x hx hw
      exact struct h hc hf (by simp) n (Nat.le_refl _) cs x hx hw
end
end Go.Fs

set_option linter.unusedVariables false
namespace Go.Fs.Se
open Cel (cel unc)
open Dat (enc dec)
open Arg (ea da)
/-! ### the law about FoldExpr -/
theorem CL_NL : ∀ e : TreeExpr, CL e.kids = 4 * NL e.kids := by
  intro e
  induction e using tree_ind with
  | h e ih =>
    have key : ∀ es : List TreeExpr, (∀ k ∈ es, CL k.kids = 4 * NL k.kids) → CL es = 4 * NL es := by
      intro es
      induction es with
      | nil => intro _; simp [CL_nil, NL_nil]
      | cons x es ihs =>
        intro h
        have h1 := h x (.head _)
        have h2 := ihs fun k hk => h k (.tail _ hk)
        rw [CL_cons, NL_cons, NE_eq]
        omega
    exact key e.kids ih
theorem expr_ok (e : TreeExpr) (hok : okE e) (hw : W e ≤ 1048576) : ∃ r, n28 e = some r ∧ n30 e = some r ∧ okE r ∧ NE r ≤ NE e := by
  obtain ⟨t1, t2⟩ := nodes_ok e hw
  obtain ⟨b, b1, b2⟩ := right_ok e hok
  have none' : ∃ r, (some (TreeExpr.mk 0 0 ByteArray.empty ByteArray.empty []) : Option TreeExpr) = some r ∧ okE r ∧ NE r ≤ NE e := by
    refine ⟨_, rfl, (okE_iff _).2 ⟨by decide, by decide, Nat.zero_le _, Nat.zero_le _, Nat.zero_le _, rfl⟩, ?_⟩
    rw [NE_eq, NE_eq]
    have : NL (TreeExpr.mk 0 0 ByteArray.empty ByteArray.empty []).kids = 0 := NL_nil
    omega
  rw [n28_eq, n30_eq, n63_eq, n66_eq, t1, t2, Option.bind_some, Option.bind_some]
  by_cases hc : (NE e : Int) ≤ 150 ∧ (DE e : Int) ≤ 16
  · rw [if_pos hc, if_pos hc, b1, b2, Option.bind_some]
    cases b with
    | false =>
      obtain ⟨r, r1, r2⟩ := none'
      exact ⟨r, by simpa using r1, by simpa using r1, r2⟩
    | true =>
      obtain ⟨r, f1, f2, f3, f4, f5⟩ := fold_ok e hok b1 hw
      exact ⟨r, by simpa using f2, by simpa using f1, f3, f5⟩
  · rw [if_neg hc, if_neg hc, Option.bind_some]
    obtain ⟨r, r1, r2⟩ := none'
    exact ⟨r, by simpa using r1, by simpa using r1, r2⟩
theorem law_ok (e : TreeExpr) (hok : okE e) : n6 e = some true := by
  rw [n6_eq, sz_ok e hok 1048576 (by decide) (by decide), Option.bind_some]
  by_cases hneg : less 1048576 (W e) < 0
  · rw [if_pos hneg]
  rw [if_neg hneg]
  have hw : W e ≤ 1048576 := by unfold less at hneg; split at hneg <;> omega
  obtain ⟨r, s1, s2, s3, s4⟩ := expr_ok e hok hw
  have hn := NE_le e
  have c1 := CL_NL e
  have c2 := CL_NL r
  have e1 := NE_eq e
  have e2 := NE_eq r
  obtain ⟨xs, x1, _⟩ := mark_ok e hok 1 (by decide) (by omega)
  obtain ⟨gs, g1, g2⟩ := mark_ok r s3 1 (by decide) (by omega)
  have m1 : n32 e 1 = some (1 + (CL e.kids : Int), TreeExpr.mk e.kind e.num e.name e.mod xs) := by rw [n32_eq, x1]; rfl
  have m2 : n32 r 1 = some (1 + (CL r.kids : Int), TreeExpr.mk r.kind r.num r.name r.mod gs) := by rw [n32_eq, g1]; rfl
  have m3 : n33 (TreeExpr.mk r.kind r.num r.name r.mod gs) 1 = some (1 + (CL r.kids : Int)) := by
    rw [n33_eq, mk_kids, g2, Option.bind_some, if_neg (by omega)]
  have p1 : ¬ (1 + (CL e.kids : Int) < 0) := by omega
  have p2 : ¬ (1 + (CL r.kids : Int) < 0) := by omega
  simp only [to_ok e hw, s1, s2, eq_ok r s3, eq_ok e hok, m1, m2, m3, Option.bind_some, Bool.true_eq_false, if_false, p1, p2, bindB, Bool.not_true, Bool.false_eq_true, decide_true]

/-! ### from what a claim reads to trees -/
theorem cels_of : ∀ {xs : List (List D)}, (∀ x ∈ xs, ∃ e : TreeExpr, x = cel e) → ∃ es : List TreeExpr, xs = es.map cel
  | [], _ => ⟨[], rfl⟩
  | x :: xs, h => by
    obtain ⟨e, rfl⟩ := h x (.head _)
    obtain ⟨es, rfl⟩ := cels_of (xs := xs) fun y hy => h y (.tail _ hy)
    exact ⟨e :: es, rfl⟩
theorem tree_of {ds : List D} (h : shL treeS ds = true) : ∃ e : TreeExpr, ds = cel e := by
  have key : ∀ (n : Nat) (ds : List D), SizeOf.sizeOf ds < n → shL treeS ds = true → ∃ e : TreeExpr, ds = cel e := by
    intro n
    induction n with
    | zero => intro ds h; omega
    | succ n ih =>
      intro ds hn h
      obtain ⟨c1, q1, rfl, a1, h⟩ := shL_cons h
      obtain ⟨c2, q2, rfl, a2, h⟩ := shL_cons h
      obtain ⟨c3, q3, rfl, a3, h⟩ := shL_cons h
      obtain ⟨c4, q4, rfl, a4, h⟩ := shL_cons h
      obtain ⟨c5, q5, rfl, a5, h⟩ := shL_cons h
      obtain rfl := shL_nil h
      obtain ⟨k, rfl⟩ := shD_i a1
      obtain ⟨m, rfl⟩ := shD_i a2
      obtain ⟨s, rfl⟩ := shD_s a3
      obtain ⟨t, rfl⟩ := shD_s a4
      obtain ⟨xs, rfl, a6⟩ := shD_t a5
      obtain ⟨es, rfl⟩ := cels_of fun x hx => ih x (by
        have := List.sizeOf_lt_of_mem hx
        simp only [List.cons.sizeOf_spec, D.l.sizeOf_spec] at hn
        omega) (shLL_len a6 x hx)
      refine ⟨TreeExpr.mk k m s t es, ?_⟩
      rw [cel_TreeExpr]
      rfl
  exact key _ ds (Nat.lt_succ_self _) h
theorem fold_row {ds : List D} (h1 : shL treeS ds = true) (h2 : okL ds = true) : FnOK Go.Proofs.Try.prog 6 [.d (.g ds)] { ret := .b true } := by
  obtain ⟨e, rfl⟩ := tree_of h1
  have h := law_ok e h2
  unfold n6 fnO at h
  obtain ⟨r, hr, hd⟩ := Option.bind_eq_some_iff.1 h
  have e1 : r = .b true := Dat.enc_dec r true hd
  subst e1
  exact lastR_ok mok 6 (.own ((lastR M).o 6)) rfl [enc e] _ hr
end Go.Fs.Se

set_option linter.unusedVariables false
namespace Go.Fs
open Go.RowKit

/-- The last step of a law's row: from the function's contract to its calls. -/
theorem calls_of_fnOK {P : Program} {f : FuncId} {args : List Value} {ins : List In} {out : Ret} (h : FnOK P f ins out) (hc : ∀ (a : Array Value) (w : World), (callFunc f a).run P w = .ok (.enter f a) w) {w : World} {Sd : List Nat} (ha : ArgsR w args ins Sd []) :
    Calls P f args.toArray w fun e w' => ∃ v, e = .returned v ∧ Post w args Sd [] out v w' := by
  rcases h w args Sd [] ha List.nodup_nil (by simp) with ⟨_, h2⟩ | ⟨v, w', h1, _⟩
  · refine h2.mono fun e w' he => ?_
    cases e with
    | returned v => exact ⟨v, rfl, he⟩
    | panicked c => exact he.elim
    | outgrown => exact he.elim
  · rw [hc] at h1; cases h1
theorem Post.below {w w' : World} {args : List Value} {Sd : List Nat} {out : Ret} {v : Value} (h : Post w args Sd [] out v w') : Below w.heap.size w w' :=
  ⟨h.rest.os, h.rest.tape, h.rest.output, h.rest.size, fun k hk => h.keep k hk (by simp)⟩
theorem Post.bool {w w' : World} {args : List Value} {Sd : List Nat} {b : Bool} {v : Value} (h : Post w args Sd [] { ret := .b b } v w') : v = .bool b := by
  obtain ⟨S, Si, h1, _⟩ := h.res
  exact h1.inv_b.1

/-- An argument that is a slice. -/
theorem arg_slice {H : Type} {enc : TypeId × Value → H} {P : Program} {w : World} {t : TypeId} {css : List Sh} (hs : HS P t [.l css]) {v : Value} (hv : ∃ a len cap, v = .slice a len cap) {d : DataW H} {p : List MemPlace} (h : DataW.Trod enc P w 0 (fun _ => true) true t v d p) (hw : (d.weights P t).all (· ≤ reachBytes) = true) :
    ∃ xs S, Tr w false v (.l css.length xs) S ∧ Flat v ∧ shLL css xs = true ∧ okLL xs = true ∧ xs.length ≤ 140737488355328 := by
  obtain ⟨a, len, cap, rfl⟩ := hv
  obtain ⟨n, hn⟩ := h
  obtain ⟨ds, S, h1, h2, h3, h4⟩ := trod_rd n hs _ _ hn hw
  obtain ⟨c, q, rfl, e1, e2⟩ := shL_cons h3
  obtain rfl := shL_nil e2
  obtain ⟨xs, rfl, e3⟩ := shD_l e1
  rw [okL_cons, okD_l] at h4
  have hc : (Value.slice a len cap).cells.toList = [.slice a len cap] := rfl
  rw [hc] at h1 h2
  cases h1 with
  | cons _ _ S1 _ _ S2 ht hts =>
    cases hts
    exact ⟨xs, S1, ht, fun u hu => h2 u (by simpa [Value.cells] using hu), e3, h4.1.2, h4.1.1⟩

theorem SumOK.none (P : Program) : SumOK P fun _ => Option.none := fun f s h => by cases h
theorem SumOK.own {P : Program} {S : Nat → Option Summ} (h : SumOK P S) {f : FuncId} {F : List D → Option D} (hf : ∀ ds r, F ds = some r → FnOK P f (ds.map .d) { ret := r }) : SumOK P (upd S f (some (.own F))) := by
  intro g s hg
  by_cases e : g = f
  · subst e
    rw [upd_same] at hg
    cases hg
    exact hf
  · rw [upd_ne _ _ e] at hg
    exact h g s hg
theorem SumOK.io {P : Program} {S : Nat → Option Summ} (h : SumOK P S) {f : FuncId} {F : D → List D → Option (D × D)} (hf : ∀ x ds r, F x ds = some r → FnOK P f (.io x :: ds.map .d) { ret := r.1, io := some r.2 }) : SumOK P (upd S f (some (.io F))) := by
  intro g s hg
  by_cases e : g = f
  · subst e
    rw [upd_same] at hg
    cases hg
    exact hf
  · rw [upd_ne _ _ e] at hg
    exact h g s hg

/-- An argument that is a struct. -/
theorem arg_struct {H : Type} {enc : TypeId × Value → H} {P : Program} {w : World} {t : TypeId} {css : List Sh} (hs : HS P t css) {v : Value} (hv : ∃ cs, v = .agg cs ∧ cs.size = P.cellsOf t) {d : DataW H} {p : List MemPlace} (h : DataW.Trod enc P w 0 (fun _ => true) true t v d p) (hw : (d.weights P t).all (· ≤ reachBytes) = true) :
    ∃ ds S, Tr w false v (.g ds) S ∧ Flat v ∧ shL css ds = true ∧ okL ds = true := by
  obtain ⟨cs, rfl, _⟩ := hv
  obtain ⟨n, hn⟩ := h
  obtain ⟨ds, S, h1, h2, h3, h4⟩ := trod_rd n hs _ _ hn hw
  exact ⟨ds, S, .g cs ds S h1, h2, h3, h4⟩
end Go.Fs
