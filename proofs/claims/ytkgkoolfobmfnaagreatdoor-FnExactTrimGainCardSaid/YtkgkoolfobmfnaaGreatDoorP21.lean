/- A part of the proof: an evaluator of the program's code over plain data, proved sound; the equations of its functions; what they compute. No conditions beyond those in the theorems. -/
import Derived.Test.YtkgkoolfobmfnaaGreatDoorP20
set_option linter.unusedVariables false
set_option linter.unusedSimpArgs false
set_option linter.constructorNameAsVariable false
set_option linter.unusedSectionVars false
set_option linter.defProp false
namespace Go.Fs.Se
open Go.Fs Go.Fs.Pl
open Go.Lib (decDigits itoa)
structure KeepOk (r : KeepRec) : Prop where
  name : lexName r.name = true
  src : r.src.size ≤ 4000
  len : r.faces.length ≤ 4
  faces : ∀ f ∈ r.faces, FaceText f
  face : FaceText r.face
  obj : ObjText r.obj
theorem l28_p {r : KeepRec} (hx : r.faces.length < 1000000000) : ∀ (post pre : List ByteArray), r.faces = pre ++ post → ∃ b, l28_4 r (pre.length : Int) = some b ∧ (b = true ↔ (∀ f ∈ post, FaceText f) ∧ FaceText r.face ∧ ObjText r.obj)
  | [], pre, h => by
    rw [l28_4_eq, if_neg (by rw [h]; simp)]
    obtain ⟨x, h1, h2⟩ := n55_p r.face
    obtain ⟨y, h3, h4⟩ := n56_p r.obj
    rw [h1, Option.bind_some, h3, Option.bind_some]
    refine ⟨_, rfl, ?_⟩
    simp [h2, h4]
  | f :: fs, pre, h => by
    have hl : pre.length < r.faces.length := by rw [h]; simp
    have hg : getI r.faces (pre.length : Int) = some f := by rw [h]; exact getI_at _ _ _
    obtain ⟨x, h1, h2⟩ := n55_p f
    obtain ⟨b, h3, h4⟩ := l28_p hx fs (pre ++ [f]) (by rw [h]; simp)
    simp only [List.length_append, List.length_singleton] at h3
    rw [l28_4_eq, if_pos (by omega), hg, w1 (by omega), Option.bind_some, h1, Option.bind_some, h3]
    cases e : x.2 with
    | false =>
      refine ⟨false, by simp, ?_⟩
      have : ¬ FaceText f := fun hf => by rw [← h2, e] at hf; cases hf
      simp [this]
    | true =>
      refine ⟨b, by simp, ?_⟩
      rw [h4]
      have := h2.1 e
      simp [this]
theorem n28_p (r : KeepRec) : ∃ b, n28 r = some b ∧ (b = true ↔ KeepOk r) := by
  rw [n28_eq, n54_q, Option.bind_some]
  by_cases h : (lexName r.name = false ∨ (4000 : Int) < (r.src.size : Int)) ∨ (4 : Int) < (r.faces.length : Int)
  · rw [if_pos h]
    refine ⟨false, rfl, ?_⟩
    simp only [Bool.false_eq_true, false_iff]
    intro hk
    have h1 := hk.name
    have h2 := hk.src
    have h3 := hk.len
    rcases h with (h | h) | h
    · rw [h1] at h; cases h
    · omega
    · omega
  · rw [if_neg h]
    have hn : lexName r.name = true := by
      cases e : lexName r.name with
      | true => rfl
      | false => exact absurd (.inl (.inl e)) h
    obtain ⟨b, h1, h2⟩ := l28_p (r := r) (by omega) r.faces [] rfl
    refine ⟨b, h1, ?_⟩
    rw [h2]
    constructor
    · rintro ⟨k1, k2, k3⟩
      exact ⟨hn, by omega, by omega, k1, k2, k3⟩
    · intro k
      exact ⟨k.faces, k.face, k.obj⟩
theorem n63_p {a : ByteArray} (ha : a.size < 100000000) : ∃ b, n63 a = some b ∧ (b = true ↔ FaceText a) := by
  obtain ⟨r, h1, h2⟩ := n107_p ha
  exact ⟨r.2, by rw [n63_eq, h1]; rfl, h2⟩
theorem l108_p {fs : List ByteArray} (hx : fs.length < 1000000000) (hw : ∀ f ∈ fs, f.size < 100000000) : ∀ (post pre : List ByteArray), fs = pre ++ post → ∃ v, l108_65_2 fs (pre.length : Int) = some v ∧ (0 ≤ v ↔ ¬ ∀ f ∈ post, FaceText f)
  | [], pre, h => ⟨-1, by rw [l108_65_2_eq, if_neg (by rw [h]; simp)], by simp⟩
  | y :: ys, pre, h => by
    have hl : pre.length < fs.length := by rw [h]; simp
    have hg : getI fs (pre.length : Int) = some y := by rw [h]; exact getI_at _ _ _
    obtain ⟨b, h3, h4⟩ := n63_p (hw y (by rw [h]; simp))
    obtain ⟨v, h1, h2⟩ := l108_p hx hw ys (pre ++ [y]) (by rw [h]; simp)
    simp only [List.length_append, List.length_singleton] at h1
    rw [l108_65_2_eq, if_pos (by omega), hg, w1 (by omega), Option.bind_some, n65_eq, h3, Option.bind_some, Option.bind_some]
    cases e : b with
    | false =>
      have : ¬ FaceText y := fun hf => by rw [← h4, e] at hf; cases hf
      exact ⟨(pre.length : Int), by simp, by simp [this]⟩
    | true =>
      have := h4.1 e
      exact ⟨v, by simpa using h1, by rw [h2]; simp [this]⟩
theorem n64_p {fs : List ByteArray} (hx : fs.length < 1000000000) (hw : ∀ f ∈ fs, f.size < 100000000) : ∃ b, n64 fs (Fv.mk (D.f 65 [])) = some b ∧ (b = true ↔ ¬ ∀ f ∈ fs, FaceText f) := by
  obtain ⟨v, h1, h2⟩ := l108_p hx hw fs [] rfl
  have e0 : (([] : List ByteArray).length : Int) = 0 := rfl
  rw [e0] at h1
  rw [n64_65_eq, n108_65_eq, h1]
  exact ⟨_, rfl, by simp only [decide_eq_true_eq]; exact h2⟩
/-- A record of a text. -/
structure Small (r : KeepRec) : Prop where
  name : r.name.size < 100000000
  len : r.faces.length < 1000000000
  faces : ∀ f ∈ r.faces, f.size < 100000000
  face : r.face.size < 100000000
theorem n35_p {r : KeepRec} (hs : Small r) : ∃ b, n35 r = some b ∧ (b = true ↔ KeepOk r) := by
  rw [n35_eq, n62_p (by have := hs.name; omega), Option.bind_some]
  obtain ⟨b1, h1, h2⟩ := n63_p hs.face
  obtain ⟨b2, h3, h4⟩ := n64_p hs.len hs.faces
  obtain ⟨x, h5, h6⟩ := n66_p r.obj
  by_cases h : (lexName r.name = false ∨ (4000 : Int) < (r.src.size : Int)) ∨ (4 : Int) < (r.faces.length : Int)
  · rw [if_pos h, bindB_t, if_pos rfl, bindB_t, if_pos rfl]
    refine ⟨false, rfl, ?_⟩
    simp only [Bool.false_eq_true, false_iff]
    intro hk
    have h1 := hk.name
    have h2 := hk.src
    have h3 := hk.len
    rcases h with (h | h) | h
    · rw [h1] at h; cases h
    · omega
    · omega
  · have hn : lexName r.name = true := by
      cases e : lexName r.name with
      | true => rfl
      | false => exact absurd (.inl (.inl e)) h
    rw [if_neg h, h1, Option.bind_some, bindB_t, h3, h5, Option.bind_some]
    have hall : KeepOk r ↔ FaceText r.face ∧ (∀ f ∈ r.faces, FaceText f) ∧ ObjText r.obj := by
      constructor
      · intro k
        exact ⟨k.face, k.faces, k.obj⟩
      · rintro ⟨k1, k2, k3⟩
        exact ⟨hn, by omega, by omega, k2, k1, k3⟩
    cases e1 : b1 with
    | false =>
      have : ¬ FaceText r.face := fun hf => by rw [← h2, e1] at hf; cases hf
      exact ⟨false, rfl, by rw [hall]; simp [this]⟩
    | true =>
      have k1 := h2.1 e1
      cases e2 : b2 with
      | true =>
        have := h4.1 e2
        exact ⟨false, rfl, by rw [hall]; simp [this]⟩
      | false =>
        have k2 : ∀ f ∈ r.faces, FaceText f := by
          refine Classical.byContradiction fun hn => ?_
          have := h4.2 hn
          rw [e2] at this; cases this
        exact ⟨x.2, rfl, by rw [hall, h6]; simp [k1, k2]; exact fun _ => k2⟩

def packL (s : Bs) : Bs := itoa (s.length : Int) ++ 58 :: s
def packF (f : ByteArray) : Bs := packL (un f)
def bodyL (r : KeepRec) : Bs := packL (un r.name) ++ packL (un r.src) ++ packL (itoa (r.faces.length : Int)) ++ r.faces.flatMap packF ++ packL (un r.face) ++ packL (un r.obj)
def sumL : Nat → Bs → Nat
  | acc, [] => acc
  | acc, x :: xs => sumL ((acc * 263 + x.toNat) % 65521) xs
def frameL (r : KeepRec) : Bs := itoa ((bodyL r).length : Int) ++ 32 :: (itoa (sumL 1 (bodyL r) : Int) ++ 10 :: (bodyL r ++ [10]))
theorem sumL_lt : ∀ (l : Bs) (acc : Nat), acc < 65521 → sumL acc l < 65521
  | [], acc, h => h
  | x :: xs, acc, h => sumL_lt xs _ (Nat.mod_lt _ (by decide))
theorem e58 : ByteArray.mk #[58] = mk [58] := rfl
theorem sum_step {acc : Nat} (x : UInt8) (h : acc < 65521) : (IntKind.i64.wrap (IntKind.i64.wrap ((acc : Int) * 263) + IntKind.i64.wrap (x.toNat : Int))).tmod 65521 = ((((acc * 263 + x.toNat) % 65521 : Nat)) : Int) := by
  have hx := x.toNat_lt
  rw [wrap64 (n := (acc : Int) * 263) (by omega) (by omega), wrap64 (n := (x.toNat : Int)) (by omega) (by omega), wrap64 (by omega) (by omega), Int.tmod_eq_emod_of_nonneg (by omega)]
  omega
theorem l31_p {a : Bs} (ha : a.length < 4611686018427387904) : ∀ (post pre : Bs) (acc : Nat), a = pre ++ post → acc < 65521 → l31_3 (mk a) (acc : Int) (pre.length : Int) = some ((sumL acc post : Nat) : Int)
  | [], pre, acc, h, hc => by rw [l31_3_eq, mk_size, if_neg (by rw [h]; simp)]; rfl
  | x :: xs, pre, acc, h, hc => by
    have hl : pre.length < a.length := by rw [h]; simp
    have hb : byteAt (mk a) (pre.length : Int) = (x.toNat : Int) := by rw [h]; exact byteAt_at _ _ _
    have ih := l31_p ha xs (pre ++ [x]) ((acc * 263 + x.toNat) % 65521) (by rw [h]; simp) (Nat.mod_lt _ (by decide))
    simp only [List.length_append, List.length_singleton] at ih
    rw [l31_3_eq, mk_size, if_pos (by omega), if_pos ⟨by omega, by omega⟩, hb, w1 (by omega), sum_step x hc, ih]
    rfl
theorem l69_p {a : Bs} (ha : a.length < 4611686018427387904) : ∀ (post pre : Bs) (acc : Nat), a = pre ++ post → acc < 65521 → l69_3 (mk a) (acc : Int) (pre.length : Int) = some ((sumL acc post : Nat) : Int)
  | [], pre, acc, h, hc => by rw [l69_3_eq, mk_size, if_neg (by rw [h]; simp)]; rfl
  | x :: xs, pre, acc, h, hc => by
    have hl : pre.length < a.length := by rw [h]; simp
    have hb : byteAt (mk a) (pre.length : Int) = (x.toNat : Int) := by rw [h]; exact byteAt_at _ _ _
    have ih := l69_p ha xs (pre ++ [x]) ((acc * 263 + x.toNat) % 65521) (by rw [h]; simp) (Nat.mod_lt _ (by decide))
    simp only [List.length_append, List.length_singleton] at ih
    rw [l69_3_eq, mk_size, if_pos (by omega), if_pos ⟨by omega, by omega⟩, hb, w1 (by omega), Int.mul_comm 263, sum_step x hc, ih]
    rfl
theorem n31_p {a : Bs} (ha : a.length < 4611686018427387904) : n31 (mk a) = some ((sumL 1 a : Nat) : Int) := by
  rw [n31_eq]; exact l31_p ha a [] 1 rfl (by decide)
theorem n69_p {a : Bs} (ha : a.length < 4611686018427387904) : n69 (mk a) = some ((sumL 1 a : Nat) : Int) := by
  rw [n69_eq]; exact l69_p ha a [] 1 rfl (by decide)
theorem packL_len {s : Bs} (h : s.length < 1000000) : (packL s).length ≤ s.length + 8 := by
  unfold packL
  have := dd_len 6 s.length (by simpa using (by omega : s.length < 10000000))
  rw [itoa_nat (by omega)]
  simp only [List.length_append, List.length_cons, Int.toNat_natCast]
  omega
theorem n29_q {s : Bs} (h : s.length < 1000000) : n29 (mk s) = some (mk (packL s)) := by
  have h2 := packL_len h
  unfold packL at h2 ⊢
  simp only [List.length_append, List.length_cons] at h2
  rw [n29_eq, mk_size, n30_p (by omega) (by omega), Option.bind_some, e58, cat_mk (by simp; omega), Option.bind_some, cat_mk (by simp; omega)]
  simp
theorem n67_q {s : Bs} (h : s.length < 1000000) : n67 (mk s) = some (mk (packL s)) := by
  have h2 := packL_len h
  unfold packL at h2 ⊢
  simp only [List.length_append, List.length_cons] at h2
  rw [n67_eq, mk_size, lItoa_mk (by omega) (by omega), Option.bind_some, e58, cat_mk (by simp; omega), Option.bind_some, cat_mk (by simp; omega)]
  simp
theorem n29_p {a : ByteArray} (h : a.size < 1000000) : n29 a = some (mk (packF a)) := by
  have := n29_q (s := un a) (by rw [un_len]; exact h)
  rwa [mk_un] at this
theorem n67_p {a : ByteArray} (h : a.size < 1000000) : n67 a = some (mk (packF a)) := by
  have := n67_q (s := un a) (by rw [un_len]; exact h)
  rwa [mk_un] at this
theorem packF_len {a : ByteArray} (h : a.size < 1000000) : (packF a).length ≤ a.size + 8 := by
  have := packL_len (s := un a) (by rw [un_len]; exact h)
  rw [un_len] at this
  exact this
theorem KeepOk.nm {r : KeepRec} (h : KeepOk r) : r.name.size ≤ 8 := by
  have := (lexName_d h.name).1
  rw [un_len] at this
  exact this.2
theorem facesL_len {r : KeepRec} (h : KeepOk r) : (r.faces.flatMap packF).length ≤ 288 * r.faces.length := flat_len packF 288 r.faces fun f hf => by
  have h1 := (h.faces f hf).size
  have := packF_len (a := f) (by omega)
  omega
theorem bodyL_len {r : KeepRec} (h : KeepOk r) : (bodyL r).length ≤ 30000 := by
  have h1 := h.nm
  have h2 := h.src
  have h3 := h.len
  have h4 := h.face.size
  have h5 := h.obj.size
  have h6 := facesL_len h
  have p1 := packL_len (s := un r.name) (by rw [un_len]; omega)
  have p2 := packL_len (s := un r.src) (by rw [un_len]; omega)
  have p3 := itoaI_len (n := (r.faces.length : Int)) (by omega) (by omega)
  have p4 := packL_len (s := itoa (r.faces.length : Int)) (by omega)
  have p5 := packL_len (s := un r.face) (by rw [un_len]; omega)
  have p6 := packL_len (s := un r.obj) (by rw [un_len]; omega)
  rw [un_len] at p1 p2 p5 p6
  simp only [bodyL, List.length_append]
  omega
theorem frameL_len {r : KeepRec} (h : KeepOk r) : 3 ≤ (frameL r).length ∧ (frameL r).length ≤ 30100 := by
  have h1 := bodyL_len h
  have h2 := itoaI_len (n := ((bodyL r).length : Int)) (by omega) (by omega)
  have h3 := sumL_lt (bodyL r) 1 (by decide)
  have h4 := itoaI_len (n := (sumL 1 (bodyL r) : Int)) (by omega) (by omega)
  simp only [frameL, List.length_append, List.length_cons, List.length_nil]
  omega
theorem l14_p {r : KeepRec} (h : KeepOk r) : ∀ (post pre : List ByteArray) (T : Bs), r.faces = pre ++ post → T.length + (post.flatMap packF).length ≤ 1000000 → l14_5 r (mk T) (pre.length : Int) = l14_5 r (mk (T ++ post.flatMap packF)) (r.faces.length : Int)
  | [], pre, T, he, ht => by
    have hp : pre = r.faces := by rw [he]; simp
    rw [hp]; simp
  | f :: fs, pre, T, he, ht => by
    have hl : pre.length < r.faces.length := by rw [he]; simp
    have h4 := h.len
    have hg : getI r.faces (pre.length : Int) = some f := by rw [he]; exact getI_at _ _ _
    have hf := (h.faces f (by rw [he]; simp)).size
    rw [fM_cons, List.length_append] at ht
    have ih := l14_p h fs (pre ++ [f]) (T ++ packF f) (by rw [he]; simp) (by rw [List.length_append]; omega)
    simp only [List.length_append, List.length_singleton] at ih
    rw [l14_5_eq, if_pos (by omega), hg, w1 (by omega), Option.bind_some, n29_p (by omega), Option.bind_some, cat_mk (by omega), Option.bind_some, ih, fM_cons, List.append_assoc]
theorem n14_p (r : KeepRec) : (KeepOk r → n14 r = some (mk (frameL r))) ∧ (¬ KeepOk r → n14 r = some (mk [])) := by
  obtain ⟨b, h1, h2⟩ := n28_p r
  refine ⟨fun h => ?_, fun h => ?_⟩
  · have hb : b = true := h2.2 h
    subst hb
    have q1 := h.nm
    have q2 := h.src
    have q3 := h.len
    have q4 := h.face.size
    have q5 := h.obj.size
    have q6 := facesL_len h
    have q7 := bodyL_len h
    have q8 := frameL_len h
    have p1 := packF_len (a := r.name) (by omega)
    have p2 := packF_len (a := r.src) (by omega)
    have p3 := itoaI_len (n := (r.faces.length : Int)) (by omega) (by omega)
    have p4 := packL_len (s := itoa (r.faces.length : Int)) (by omega)
    have p5 := packF_len (a := r.face) (by omega)
    have p6 := packF_len (a := r.obj) (by omega)
    have hsum := sumL_lt (bodyL r) 1 (by decide)
    rw [n14_eq, h1, Option.bind_some, if_neg (by decide), n29_p (by omega), Option.bind_some, n29_p (by omega), Option.bind_some, cat_mk (by omega), Option.bind_some, n30_p (by omega) (by omega), Option.bind_some, n29_q (by omega), Option.bind_some,
      cat_mk (by rw [List.length_append]; omega), Option.bind_some]
    have e0 : (([] : List ByteArray).length : Int) = 0 := rfl
    have hl := l14_p h r.faces [] (packF r.name ++ packF r.src ++ packL (itoa (r.faces.length : Int))) rfl (by simp only [List.length_append]; omega)
    rw [e0] at hl
    have hbody : packF r.name ++ packF r.src ++ packL (itoa (r.faces.length : Int)) ++ r.faces.flatMap packF ++ packF r.face ++ packF r.obj = bodyL r := rfl
    rw [hl, l14_5_eq, if_neg (by omega), n29_p (by omega), Option.bind_some, cat_mk (by simp only [List.length_append]; omega), Option.bind_some, n29_p (by omega), Option.bind_some, cat_mk (by simp only [List.length_append]; omega), Option.bind_some, hbody]
    rw [mk_size, n30_p (by omega) (by omega), Option.bind_some, e32, e10]
    unfold frameL at q8 ⊢
    simp only [List.length_append, List.length_cons, List.length_nil] at q8
    rw [cat_mk (by simp; omega), Option.bind_some, n31_p (by omega), Option.bind_some, n30_p (by omega) (by omega), Option.bind_some]
    rw [cat_mk (by simp; omega), Option.bind_some, cat_mk (by simp; omega), Option.bind_some, cat_mk (by simp; omega), Option.bind_some, cat_mk (by simp; omega)]
    simp
  · have hb : b = false := by
      cases e : b with
      | false => rfl
      | true => exact absurd (h2.1 e) h
    rw [n14_eq, h1, hb, Option.bind_some, if_pos rfl]; rfl
theorem l36_p {r : KeepRec} (h : KeepOk r) : ∀ (post pre : List ByteArray) (T : Bs), r.faces = pre ++ post → T.length + (post.flatMap packF).length ≤ 1000000 → l36_3 r (mk T) (pre.length : Int) = l36_3 r (mk (T ++ post.flatMap packF)) (r.faces.length : Int)
  | [], pre, T, he, ht => by
    have hp : pre = r.faces := by rw [he]; simp
    rw [hp]; simp
  | f :: fs, pre, T, he, ht => by
    have hl : pre.length < r.faces.length := by rw [he]; simp
    have h4 := h.len
    have hg : getI r.faces (pre.length : Int) = some f := by rw [he]; exact getI_at _ _ _
    have hf := (h.faces f (by rw [he]; simp)).size
    rw [fM_cons, List.length_append] at ht
    have ih := l36_p h fs (pre ++ [f]) (T ++ packF f) (by rw [he]; simp) (by rw [List.length_append]; omega)
    simp only [List.length_append, List.length_singleton] at ih
    rw [l36_3_eq, if_pos (by omega), hg, w1 (by omega), Option.bind_some, n67_p (by omega), Option.bind_some, cat_mk (by omega), Option.bind_some, ih, fM_cons, List.append_assoc]
theorem n18_p {r : KeepRec} (hs : Small r) : (KeepOk r → n18 r = some (mk (frameL r))) ∧ (¬ KeepOk r → n18 r = some (mk [])) := by
  obtain ⟨b, h1, h2⟩ := n35_p hs
  refine ⟨fun h => ?_, fun h => ?_⟩
  · have hb : b = true := h2.2 h
    subst hb
    have q1 := h.nm
    have q2 := h.src
    have q3 := h.len
    have q4 := h.face.size
    have q5 := h.obj.size
    have q6 := facesL_len h
    have q7 := bodyL_len h
    have q8 := frameL_len h
    have p1 := packF_len (a := r.name) (by omega)
    have p2 := packF_len (a := r.src) (by omega)
    have p3 := itoaI_len (n := (r.faces.length : Int)) (by omega) (by omega)
    have p4 := packL_len (s := itoa (r.faces.length : Int)) (by omega)
    have p5 := packF_len (a := r.face) (by omega)
    have p6 := packF_len (a := r.obj) (by omega)
    have hsum := sumL_lt (bodyL r) 1 (by decide)
    rw [n18_eq, h1, Option.bind_some, if_neg (by decide), n36_eq, n67_p (by omega), Option.bind_some, n67_p (by omega), Option.bind_some, cat_mk (by omega), Option.bind_some, lItoa_mk (by omega) (by omega), Option.bind_some, n67_q (by omega), Option.bind_some,
      cat_mk (by rw [List.length_append]; omega), Option.bind_some]
    have e0 : (([] : List ByteArray).length : Int) = 0 := rfl
    have hl := l36_p h r.faces [] (packF r.name ++ packF r.src ++ packL (itoa (r.faces.length : Int))) rfl (by simp only [List.length_append]; omega)
    rw [e0] at hl
    have hbody : packF r.name ++ packF r.src ++ packL (itoa (r.faces.length : Int)) ++ r.faces.flatMap packF ++ (packF r.face ++ packF r.obj) = bodyL r := by rw [← List.append_assoc]; rfl
    rw [hl, l36_3_eq, if_neg (by omega), n67_p (by omega), Option.bind_some, n67_p (by omega), Option.bind_some, cat_mk (by omega), Option.bind_some, cat_mk (by simp only [List.length_append]; omega), Option.bind_some, hbody]
    rw [mk_size, lItoa_mk (by omega) (by omega), Option.bind_some, e32, e10]
    unfold frameL at q8 ⊢
    simp only [List.length_append, List.length_cons, List.length_nil] at q8
    rw [cat_mk (by simp; omega), Option.bind_some, n69_p (by omega), Option.bind_some, lItoa_mk (by omega) (by omega), Option.bind_some]
    rw [cat_mk (by simp; omega), Option.bind_some, cat_mk (by simp; omega), Option.bind_some, cat_mk (by simp; omega), Option.bind_some, cat_mk (by simp; omega)]
    simp
  · have hb : b = false := by
      cases e : b with
      | false => rfl
      | true => exact absurd (h2.1 e) h
    rw [n18_eq, h1, hb, Option.bind_some, if_pos rfl]; rfl
end Go.Fs.Se
namespace Go.Fs.Se
open Go.Fs Go.Fs.Pl
open Go.Lib (decDigits itoa)
def P (l : Bs) (at_ : Nat) (bad : Bool) : Pt L14In := Pt.mk (L14In.mk (mk l) (at_ : Int) bad)
theorem ptv (l : Bs) (at_ : Nat) (bad : Bool) : Pt.mk (P l at_ bad).v = P l at_ bad := rfl
theorem l24_at {l : Bs} {at_ : Nat} {bad : Bool} {c : UInt8} (hl : l.length < 100000000) {pre post : Bs} {x : UInt8} (h : l = pre ++ x :: post) (ha : at_ ≤ pre.length) :
    l24_2 (P l at_ bad) (U8.mk (c.toNat : Int)) (pre.length : Int) = if x ≠ c then (if pre.length < at_ + 8 then l24_2 (P l at_ bad) (U8.mk (c.toNat : Int)) ((pre.length + 1 : Nat) : Int) else some (0, P l at_ true)) else
      some ((numS ((l.take pre.length).drop at_)).1, P l (pre.length + 1) (if (numS ((l.take pre.length).drop at_)).2 = false ∨ (numS ((l.take pre.length).drop at_)).1 < 0 then true else bad)) := by
  have hll : pre.length < l.length := by rw [h]; simp
  have hb : byteAt (mk l) (pre.length : Int) = (x.toNat : Int) := by rw [h]; exact byteAt_at _ _ _
  have hw : IntKind.i64.wrap ((at_ : Int) + 8) = ((at_ + 8 : Nat) : Int) := by rw [wrap64 (by omega) (by omega)]; omega
  unfold P
  rw [l24_2_eq]
  dsimp only
  rw [mk_size]
  rw [if_pos (by omega), if_pos ⟨by omega, by omega⟩, hb, hw, w1 (by omega), if_neg (by omega), bindB_t]
  simp only [toNat_eq]
  by_cases e : x = c
  · have hd : (!decide (x = c)) = false := by simp [e]
    rw [if_neg (c := x ≠ c) (by simp [e])]
    simp only [hd, Bool.false_eq_true, false_and, if_false, bindB_t]
    rw [if_pos (by omega), if_pos (by omega)]
    simp only [Int.toNat_natCast]
    rw [if_pos ⟨by omega, by omega⟩, mk_extract, n40_p (by rw [List.length_drop, List.length_take]; omega), Option.bind_some]
    split
    · next h => rfl
    · next h => rfl
  · have hd : (!decide (x = c)) = true := by simp [e]
    rw [if_pos (c := x ≠ c) e]
    simp only [hd, true_and, if_true, bindB_t]
    by_cases h8 : pre.length < at_ + 8
    · rw [if_pos (by omega), if_pos h8]
    · rw [if_neg (by omega), if_neg h8]
theorem l24_end {l : Bs} {at_ : Nat} {bad : Bool} {n : Int} (hl : l.length < 100000000) : l24_2 (P l at_ bad) (U8.mk n) (l.length : Int) = some (0, P l at_ true) := by
  unfold P
  rw [l24_2_eq]
  dsimp only
  rw [mk_size]
  rw [if_neg (by omega), bindB_t, if_neg (by simp), if_pos (by omega), bindB_t, if_pos rfl]
theorem l24_tot {l : Bs} {at_ : Nat} {bad : Bool} {c : UInt8} (hl : l.length < 100000000) : ∀ (post pre : Bs), l = pre ++ post → at_ ≤ pre.length → ∃ v at' bad', l24_2 (P l at_ bad) (U8.mk (c.toNat : Int)) (pre.length : Int) = some (v, P l at' bad') ∧ at' ≤ l.length
  | [], pre, h, ha => by
    have hp : pre = l := by rw [h]; simp
    rw [hp] at ha ⊢
    exact ⟨0, at_, true, l24_end hl, ha⟩
  | x :: xs, pre, h, ha => by
    have hll : pre.length < l.length := by rw [h]; simp
    rw [l24_at hl h ha]
    by_cases e : x = c
    · rw [if_neg (by simp [e])]
      exact ⟨_, pre.length + 1, _, rfl, hll⟩
    · rw [if_pos e]
      by_cases h8 : pre.length < at_ + 8
      · rw [if_pos h8]
        have := l24_tot (at_ := at_) (c := c) (bad := bad) hl xs (pre ++ [x]) (by rw [h]; simp) (by simp; omega)
        simp only [List.length_append, List.length_singleton] at this
        exact this
      · rw [if_neg h8]
        exact ⟨_, at_, true, rfl, by omega⟩
theorem n24_tot {l : Bs} {at_ : Nat} (bad : Bool) (c : UInt8) (hl : l.length < 100000000) (ha : at_ ≤ l.length) : ∃ v at' bad', n24 (P l at_ bad) (U8.mk (c.toNat : Int)) = some (v, P l at' bad') ∧ at' ≤ l.length := by
  rw [n24_eq]
  have h := List.take_append_drop at_ l
  have h2 : (l.take at_).length = at_ := by rw [List.length_take]; omega
  have := l24_tot (at_ := at_) (bad := bad) (c := c) hl (l.drop at_) (l.take at_) h.symm (by omega)
  rw [h2] at this
  exact this
theorem l24_go {p0 w rest l : Bs} {bad : Bool} {c : UInt8} {n : Int} (hl : l.length < 100000000) (he : l = p0 ++ (w ++ c :: rest)) (h8 : w.length ≤ 8) (hc : c ∉ w) (hn : numS w = (n, true)) (h0 : 0 ≤ n) :
    ∀ (w2 w1 : Bs), w = w1 ++ w2 → l24_2 (P l p0.length bad) (U8.mk (c.toNat : Int)) ((p0 ++ w1).length : Int) = some (n, P l (p0.length + w.length + 1) bad)
  | [], w1, hw => by
    have hw1 : w1 = w := by rw [hw]; simp
    subst hw1
    have ht : (l.take (p0 ++ w1).length).drop p0.length = w1 := by
      rw [he, ← List.append_assoc, List.take_left, List.drop_left]
    rw [l24_at (pre := p0 ++ w1) (x := c) (post := rest) hl (by rw [he]; simp) (by simp), if_neg (by simp), ht, hn, if_neg (by simp; omega)]
    simp
  | y :: ys, w1, hw => by
    have hy : y ≠ c := fun e => hc (by rw [hw, e]; simp)
    have hlen : w1.length < w.length := by rw [hw]; simp
    have ih := l24_go (bad := bad) hl he h8 hc hn h0 ys (w1 ++ [y]) (by rw [hw]; simp)
    rw [l24_at (pre := p0 ++ w1) (x := y) (post := ys ++ c :: rest) hl (by rw [he, hw]; simp) (by simp), if_pos hy, if_pos (by rw [List.length_append]; omega)]
    rw [← List.append_assoc] at ih
    simp only [List.length_append, List.length_singleton] at ih ⊢
    exact ih
theorem n24_go {p0 w rest l : Bs} (bad : Bool) {c : UInt8} {n : Int} (hl : l.length < 100000000) (he : l = p0 ++ (w ++ c :: rest)) (h8 : w.length ≤ 8) (hc : c ∉ w) (hn : numS w = (n, true)) (h0 : 0 ≤ n) :
    n24 (P l p0.length bad) (U8.mk (c.toNat : Int)) = some (n, P l (p0.length + w.length + 1) bad) := by
  rw [n24_eq]
  have := l24_go (bad := bad) hl he h8 hc hn h0 w [] rfl
  rw [List.append_nil] at this
  exact this
theorem n26_eq2 {l : Bs} {at_ : Nat} {bad : Bool} {n : Int} (hl : l.length < 100000000) (ha : at_ ≤ l.length) :
    n26 (P l at_ bad) n = if bad = true ∨ n < 0 ∨ ((l.length - at_ : Nat) : Int) < n then some (mk [], P l at_ true) else some (mk ((l.take (at_ + n.toNat)).drop at_), P l (at_ + n.toNat) bad) := by
  have hw : IntKind.i64.wrap ((l.length : Int) - (at_ : Int)) = ((l.length - at_ : Nat) : Int) := by rw [wrap64 (by omega) (by omega)]; omega
  rw [n26_eq]
  simp only [P, mk_size]
  rw [hw]
  split
  · next h => rfl
  · next h =>
    have hb : ¬ bad = true := fun e => h (.inl e)
    have e1 : IntKind.i64.wrap ((at_ : Int) + n) = ((at_ + n.toNat : Nat) : Int) := by rw [wrap64 (by omega) (by omega)]; omega
    have e2 : IntKind.i64.wrap (((at_ + n.toNat : Nat) : Int) - n) = (at_ : Int) := by rw [wrap64 (by omega) (by omega)]; omega
    simp only [e1, e2, Int.toNat_natCast]
    rw [if_pos (by omega), if_pos (by omega), if_pos ⟨by omega, by omega⟩, mk_extract]
theorem n26_tot {l : Bs} {at_ : Nat} (bad : Bool) (n : Int) (hl : l.length < 100000000) (ha : at_ ≤ l.length) : ∃ x at' bad', n26 (P l at_ bad) n = some (mk x, P l at' bad') ∧ at' ≤ l.length ∧ x.length ≤ l.length := by
  rw [n26_eq2 hl ha]
  split
  · exact ⟨_, _, _, rfl, ha, by simp⟩
  · next h => exact ⟨_, _, _, rfl, by omega, by rw [List.length_drop, List.length_take]; omega⟩
theorem n26_go {p0 w rest l : Bs} (hl : l.length < 100000000) (he : l = p0 ++ (w ++ rest)) : n26 (P l p0.length false) (w.length : Int) = some (mk w, P l (p0.length + w.length) false) := by
  have h1 : l.length = p0.length + (w.length + rest.length) := by rw [he]; simp
  rw [n26_eq2 hl (by omega), if_neg (by simp; omega)]
  have ht : (l.take (p0.length + ((w.length : Int)).toNat)).drop p0.length = w := by
    have : ((w.length : Int)).toNat = w.length := by omega
    rw [this, he, ← List.append_assoc, ← List.length_append, List.take_left, List.drop_left]
  rw [ht]
  simp
theorem n53_tot {l : Bs} {at_ : Nat} (bad : Bool) (hl : l.length < 100000000) (ha : at_ ≤ l.length) : ∃ x at' bad', n53 (P l at_ bad) = some (mk x, P l at' bad') ∧ at' ≤ l.length ∧ x.length ≤ l.length := by
  obtain ⟨v, a1, b1, h1, h2⟩ := n24_tot bad 58 hl ha
  obtain ⟨x, a2, b2, h3, h4, h5⟩ := n26_tot b1 v hl h2
  have e : U8.mk (((58 : UInt8).toNat : Nat) : Int) = U8.mk 58 := rfl
  rw [e] at h1
  rw [n53_eq, ptv, h1, Option.bind_some, ptv, h3, Option.bind_some]
  exact ⟨x, a2, b2, rfl, h4, h5⟩
theorem itoa_no {n : Int} {c : UInt8} (h1 : c.toNat ≠ 45) (h2 : c.toNat < 48 ∨ 57 < c.toNat) : c ∉ itoa n := fun h => by
  rcases itoa_mem c h with h | h <;> omega
theorem itoa8 {n : Nat} (h : n < 100000000) : (itoa (n : Int)).length ≤ 8 := by
  rw [itoa_nat (by omega)]
  exact dd_len 7 _ (by simpa using h)
theorem n53_go {p0 w rest l : Bs} (hl : l.length < 100000000) (he : l = p0 ++ (packL w ++ rest)) : n53 (P l p0.length false) = some (mk w, P l (p0.length + (packL w).length) false) := by
  have hw : w.length < 100000000 := by
    have := congrArg List.length he
    simp [packL] at this; omega
  have e1 : l = p0 ++ (itoa (w.length : Int) ++ 58 :: (w ++ rest)) := by rw [he]; simp [packL]
  have h1 := n24_go (p0 := p0) (w := itoa (w.length : Int)) (rest := w ++ rest) (n := (w.length : Int)) false (c := 58) hl e1 (itoa8 hw) (itoa_no (by decide) (by decide)) (numS_itoa (by omega) (by omega)) (by omega)
  have e : U8.mk (((58 : UInt8).toNat : Nat) : Int) = U8.mk 58 := rfl
  rw [e] at h1
  have hp : (p0 ++ itoa (w.length : Int) ++ [58]).length = p0.length + (itoa (w.length : Int)).length + 1 := by simp; omega
  have h2 := n26_go (p0 := p0 ++ itoa (w.length : Int) ++ [58]) (w := w) (rest := rest) hl (by rw [e1]; simp)
  rw [hp] at h2
  rw [n53_eq, ptv, h1, Option.bind_some, ptv, h2, Option.bind_some]
  have h3 : (packL w).length = (itoa (w.length : Int)).length + 1 + w.length := by simp [packL]; omega
  rw [ptv, h3]
  simp only [Nat.add_assoc]
/-- Small: of a text of n bytes. -/
structure Sm (n : Nat) (r : KeepRec) : Prop where
  name : r.name.size ≤ n
  len : r.faces.length ≤ 5
  faces : ∀ f ∈ r.faces, f.size ≤ n
  face : r.face.size ≤ n
theorem noRec_sm (n : Nat) : Sm n (KeepRec.mk ByteArray.empty ByteArray.empty [] ByteArray.empty ByteArray.empty) := ⟨by simp, by simp, (fun f hf => by cases hf), by simp⟩
theorem l25_tot {a : ByteArray} {l : Bs} {m : Int} {c0 c1 : ByteArray} (hl : l.length < 100000000) (h0 : c0.size ≤ l.length) : ∀ (k : Nat) (t at_ : Nat) (bad : Bool) (r4 : List ByteArray), t + k = 5 → r4.length = t → at_ ≤ l.length → (∀ f ∈ r4, f.size ≤ l.length) →
    ∃ r, l25_5 a m (t : Int) (mk l) (at_ : Int) bad c0 c1 r4 = some r ∧ Sm l.length r := by
  intro k
  induction k with
  | zero =>
    intro t at_ bad r4 hk hr ha hf
    rw [l25_5_eq, if_neg (by omega)]
    obtain ⟨x, a1, b1, h1, h2, h3⟩ := n53_tot bad hl ha
    obtain ⟨y, a2, b2, h4, h5, h6⟩ := n53_tot b1 hl h2
    have e : Pt.mk (L14In.mk (mk l) (at_ : Int) bad) = P l at_ bad := rfl
    rw [e, h1, Option.bind_some, ptv, h4, Option.bind_some]
    cases b2 with
    | true => exact ⟨_, rfl, noRec_sm _⟩
    | false => exact ⟨_, rfl, ⟨h0, (by show r4.length ≤ 5; omega), hf, by show (mk x).size ≤ _; rw [mk_size]; exact h3⟩⟩
  | succ k ih =>
    intro t at_ bad r4 hk hr ha hf
    have e : Pt.mk (L14In.mk (mk l) (at_ : Int) bad) = P l at_ bad := rfl
    rw [l25_5_eq, e]
    obtain ⟨x, a1, b1, h1, h2, h3⟩ := n53_tot bad hl ha
    by_cases hc : ((t : Int) < m ∧ (t : Int) < 5) ∧ bad = false
    · rw [if_pos hc, h1, Option.bind_some, if_pos (cap16 (by omega)), w1 (by omega)]
      exact ih (t + 1) a1 b1 (r4 ++ [mk x]) (by omega) (by simp; omega) h2 fun f hf' => by
        simp only [List.mem_append, List.mem_singleton] at hf'
        rcases hf' with hf' | rfl
        · exact hf f hf'
        · rw [mk_size]; exact h3
    · rw [if_neg hc, h1, Option.bind_some, ptv]
      obtain ⟨y, a2, b2, h4, h5, h6⟩ := n53_tot b1 hl h2
      rw [h4, Option.bind_some]
      cases b2 with
      | true => exact ⟨_, rfl, noRec_sm _⟩
      | false => exact ⟨_, rfl, ⟨h0, (by show r4.length ≤ 5; omega), hf, by show (mk x).size ≤ _; rw [mk_size]; exact h3⟩⟩
theorem n25_tot {l : Bs} (hl : l.length < 100000000) : ∃ r, n25 (mk l) = some r ∧ Sm l.length r := by
  obtain ⟨x, a1, b1, h1, h2, h3⟩ := n53_tot (at_ := 0) false hl (by omega)
  obtain ⟨y, a2, b2, h4, h5, h6⟩ := n53_tot b1 hl h2
  obtain ⟨z, a3, b3, h7, h8, h9⟩ := n53_tot b2 hl h5
  have e : Pt.mk (L14In.mk (mk l) 0 false) = P l 0 false := rfl
  rw [n25_eq, e, h1, Option.bind_some, ptv, h4, Option.bind_some, ptv, h7, Option.bind_some, n40_p (by omega), Option.bind_some]
  exact l25_tot (t := 0) (k := 5) hl (by rw [mk_size]; exact h3) a3 b3 [] (by omega) rfl h8 (fun f hf => by cases hf)
theorem l25_go {a : ByteArray} {r : KeepRec} {l : Bs} (hl : l.length < 100000000) (hk : r.faces.length ≤ 4) : ∀ (post pre : List ByteArray) (p0 : Bs), r.faces = pre ++ post → l = p0 ++ (post.flatMap packF ++ (packF r.face ++ packF r.obj)) →
    l25_5 a (r.faces.length : Int) (pre.length : Int) (mk l) (p0.length : Int) false r.name r.src pre = some r
  | [], pre, p0, h, he => by
    have hp : pre = r.faces := by rw [h]; simp
    rw [hp, l25_5_eq, if_neg (by omega)]
    have e : Pt.mk (L14In.mk (mk l) (p0.length : Int) false) = P l p0.length false := rfl
    have h1 := n53_go (p0 := p0) (w := un r.face) (rest := packF r.obj) hl (by rw [he]; rfl)
    have h2 := n53_go (p0 := p0 ++ packF r.face) (w := un r.obj) (rest := []) hl (by rw [he]; simp [packF])
    have e2 : (p0 ++ packF r.face).length = p0.length + (packL (un r.face)).length := by simp [packF]
    rw [e2] at h2
    rw [e, h1, Option.bind_some, ptv, h2, Option.bind_some]
    simp only [mk_un]
    rfl
  | f :: fs, pre, p0, h, he => by
    have hlt : pre.length < r.faces.length := by rw [h]; simp
    have e : Pt.mk (L14In.mk (mk l) (p0.length : Int) false) = P l p0.length false := rfl
    have h1 := n53_go (p0 := p0) (w := un f) (rest := fs.flatMap packF ++ (packF r.face ++ packF r.obj)) hl (by rw [he, fM_cons]; simp [packF])
    have ih := l25_go (a := a) hl hk fs (pre ++ [f]) (p0 ++ packF f) (by rw [h]; simp) (by rw [he, fM_cons]; simp)
    have e2 : (p0 ++ packF f).length = p0.length + (packL (un f)).length := by simp [packF]
    rw [e2] at ih
    simp only [List.length_append, List.length_singleton] at ih
    rw [l25_5_eq, if_pos ⟨by omega, rfl⟩, e, h1, Option.bind_some, if_pos (cap16 (by omega)), w1 (by omega), mk_un]
    exact ih
theorem n25_go {r : KeepRec} (h : KeepOk r) : n25 (mk (bodyL r)) = some r := by
  have hb := bodyL_len h
  have hk := h.len
  have e : Pt.mk (L14In.mk (mk (bodyL r)) 0 false) = P (bodyL r) ([] : Bs).length false := rfl
  have hl : (bodyL r).length < 100000000 := by omega
  have h1 := n53_go (l := bodyL r) (p0 := []) (w := un r.name) (rest := packL (un r.src) ++ packL (itoa (r.faces.length : Int)) ++ r.faces.flatMap packF ++ packL (un r.face) ++ packL (un r.obj)) hl (by simp [bodyL])
  have h2 := n53_go (l := bodyL r) (p0 := packL (un r.name)) (w := un r.src) (rest := packL (itoa (r.faces.length : Int)) ++ r.faces.flatMap packF ++ packL (un r.face) ++ packL (un r.obj)) hl (by simp [bodyL])
  have h3 := n53_go (l := bodyL r) (p0 := packL (un r.name) ++ packL (un r.src)) (w := itoa (r.faces.length : Int)) (rest := r.faces.flatMap packF ++ packL (un r.face) ++ packL (un r.obj)) hl (by simp [bodyL])
  have h4 := l25_go (a := mk (bodyL r)) hl hk r.faces [] (packL (un r.name) ++ packL (un r.src) ++ packL (itoa (r.faces.length : Int))) rfl (by simp [bodyL, packF])
  have e1 : ([] : Bs).length + (packL (un r.name)).length = (packL (un r.name)).length := by simp
  have e2 : (packL (un r.name) ++ packL (un r.src)).length = (packL (un r.name)).length + (packL (un r.src)).length := by simp
  have e3 : (packL (un r.name) ++ packL (un r.src) ++ packL (itoa (r.faces.length : Int))).length = (packL (un r.name)).length + (packL (un r.src)).length + (packL (itoa (r.faces.length : Int))).length := by simp; omega
  rw [e1] at h1
  rw [e2] at h3
  rw [e3] at h4
  have hi := itoa8 (n := r.faces.length) (by omega)
  rw [n25_eq, e, h1, Option.bind_some, ptv, h2, Option.bind_some, ptv, h3, Option.bind_some, n40_p (by omega), Option.bind_some, numS_itoa (by omega) (by omega), mk_un, mk_un]
  exact h4
/-- What stands ahead of a text: a record's frame. -/
def Heads (s : Bs) : Prop := ∃ r rest, KeepOk r ∧ s = frameL r ++ rest
theorem spec_go {l pre rest : Bs} {r : KeepRec} {r0 : List KeepRec} (hl : l.length ≤ 400000) (he : l = pre ++ (frameL r ++ rest)) (hk : KeepOk r) (hr : r0.length ≤ pre.length) :
    l12_6 (mk l) (pre.length : Int) r0 (mk l) (pre.length : Int) false = l12_6 (mk l) ((pre ++ frameL r).length : Int) (r0 ++ [r]) (mk l) ((pre ++ frameL r).length : Int) false := by
  have hb := bodyL_len hk
  have hf := frameL_len hk
  have hs := sumL_lt (bodyL r) 1 (by decide)
  have hll : l.length = pre.length + ((frameL r).length + rest.length) := by rw [he]; simp
  have e : Pt.mk (L14In.mk (mk l) (pre.length : Int) false) = P l pre.length false := rfl
  have q1 : l = pre ++ (itoa ((bodyL r).length : Int) ++ 32 :: (itoa (sumL 1 (bodyL r) : Int) ++ 10 :: (bodyL r ++ [10]) ++ rest)) := by rw [he]; simp [frameL]
  have h1 := n24_go (p0 := pre) (w := itoa ((bodyL r).length : Int)) (n := ((bodyL r).length : Int)) false (c := 32) (by omega) q1 (itoa8 (by omega)) (itoa_no (by decide) (by decide)) (numS_itoa (by omega) (by omega)) (by omega)
  have q2 : l = (pre ++ itoa ((bodyL r).length : Int) ++ [32]) ++ (itoa (sumL 1 (bodyL r) : Int) ++ 10 :: ((bodyL r ++ [10]) ++ rest)) := by rw [q1]; simp
  have h2 := n24_go (p0 := pre ++ itoa ((bodyL r).length : Int) ++ [32]) (w := itoa (sumL 1 (bodyL r) : Int)) (n := (sumL 1 (bodyL r) : Int)) false (c := 10) (by omega) q2 (itoa8 (by omega)) (itoa_no (by decide) (by decide)) (numS_itoa (by omega) (by omega)) (by omega)
  have q3 : l = (pre ++ itoa ((bodyL r).length : Int) ++ [32] ++ itoa (sumL 1 (bodyL r) : Int) ++ [10]) ++ (bodyL r ++ ([10] ++ rest)) := by rw [q1]; simp
  have h3 := n26_go (p0 := pre ++ itoa ((bodyL r).length : Int) ++ [32] ++ itoa (sumL 1 (bodyL r) : Int) ++ [10]) (w := bodyL r) (by omega) q3
  have e1 : (pre ++ itoa ((bodyL r).length : Int) ++ [32]).length = pre.length + (itoa ((bodyL r).length : Int)).length + 1 := by simp; omega
  have e2 : (pre ++ itoa ((bodyL r).length : Int) ++ [32] ++ itoa (sumL 1 (bodyL r) : Int) ++ [10]).length = pre.length + (itoa ((bodyL r).length : Int)).length + 1 + (itoa (sumL 1 (bodyL r) : Int)).length + 1 := by simp; omega
  rw [e1] at h2
  rw [e2] at h3
  have u1 : U8.mk (((32 : UInt8).toNat : Nat) : Int) = U8.mk 32 := rfl
  have u2 : U8.mk (((10 : UInt8).toNat : Nat) : Int) = U8.mk 10 := rfl
  rw [u1] at h1
  rw [u2] at h2
  have ew : IntKind.i64.wrap ((pre.length : Int) + ((frameL r).length : Int)) = ((pre ++ frameL r).length : Int) := by rw [List.length_append, wrap64 (by omega) (by omega)]; omega
  have ew2 : IntKind.i64.wrap ((l.length : Int) - (pre.length : Int)) = (l.length : Int) - (pre.length : Int) := wrap64 (by omega) (by omega)
  have hne : ¬ mk (frameL r) = ByteArray.mk #[] := fun h => by
    have := mk_ne.1 h
    rw [this] at hf; simp at hf
  have hx : (mk l).extract pre.length (pre ++ frameL r).length = mk (frameL r) := by
    rw [he, ← List.append_assoc]; exact mid _ _ _
  rw [l12_6_eq, mk_size, if_pos (by omega), e, h1, Option.bind_some, ptv, h2, Option.bind_some, ptv, h3, Option.bind_some, n25_go hk, Option.bind_some]
  have hbad : (P l (pre.length + (itoa ((bodyL r).length : Int)).length + 1 + (itoa (sumL 1 (bodyL r) : Int)).length + 1 + (bodyL r).length) false).v.bad = false := rfl
  have hsv : (P l (pre.length + (itoa ((bodyL r).length : Int)).length + 1 + (itoa (sumL 1 (bodyL r) : Int)).length + 1 + (bodyL r).length) false).v.s = mk l := rfl
  simp only [hbad, hsv]
  rw [if_neg (by decide), (n14_p r).1 hk, Option.bind_some, mk_size, ew, ew2, if_neg (by
    intro h
    rcases h with h | h
    · exact hne h
    · omega), if_pos (by omega), if_pos (by omega)]
  simp only [Int.toNat_natCast]
  rw [if_pos ⟨by simp, by rw [List.length_append]; omega⟩]
  simp only [hx, decide_true, Bool.not_true, bindB_t, Bool.false_eq_true, if_false]
  rw [if_pos (cap88 (by omega))]
theorem spec_stop {l pre rest : Bs} {r0 : List KeepRec} (hl : l.length ≤ 400000) (he : l = pre ++ rest) (hn : ¬ Heads rest) :
    l12_6 (mk l) (pre.length : Int) r0 (mk l) (pre.length : Int) false = some (r0, (pre.length : Int)) := by
  have hll : l.length = pre.length + rest.length := by rw [he]; simp
  have e : Pt.mk (L14In.mk (mk l) (pre.length : Int) false) = P l pre.length false := rfl
  rw [l12_6_eq, mk_size]
  by_cases hlt : (pre.length : Int) < (l.length : Int)
  · rw [if_pos hlt]
    obtain ⟨v1, a1, b1, h1, k1⟩ := n24_tot (l := l) (at_ := pre.length) false 32 (by omega) (by omega)
    obtain ⟨v2, a2, b2, h2, k2⟩ := n24_tot (l := l) (at_ := a1) b1 10 (by omega) (by omega)
    obtain ⟨x, a3, b3, h3, k3, k4⟩ := n26_tot (l := l) (at_ := a2) b2 v1 (by omega) (by omega)
    obtain ⟨r, h4, k5⟩ := n25_tot (l := x) (by omega)
    have u1 : U8.mk (((32 : UInt8).toNat : Nat) : Int) = U8.mk 32 := rfl
    have u2 : U8.mk (((10 : UInt8).toNat : Nat) : Int) = U8.mk 10 := rfl
    rw [u1] at h1
    rw [u2] at h2
    rw [e, h1, Option.bind_some, ptv, h2, Option.bind_some, ptv, h3, Option.bind_some, h4, Option.bind_some]
    have hbad : (P l a3 b3).v.bad = b3 := rfl
    simp only [hbad]
    cases b3 with
    | true => rfl
    | false =>
      rw [if_neg (by decide)]
      by_cases hk : KeepOk r
      · have hf := frameL_len hk
        have ew : IntKind.i64.wrap ((pre.length : Int) + ((frameL r).length : Int)) = ((pre.length + (frameL r).length : Nat) : Int) := by rw [wrap64 (by omega) (by omega)]; omega
        have ew2 : IntKind.i64.wrap ((l.length : Int) - (pre.length : Int)) = (l.length : Int) - (pre.length : Int) := wrap64 (by omega) (by omega)
        rw [(n14_p r).1 hk, Option.bind_some, mk_size, ew, ew2]
        split
        · rw [bindB_t, if_pos rfl]
        · next hc =>
          rw [if_pos (by omega), if_pos (by omega)]
          simp only [Int.toNat_natCast]
          have hge : (frameL r).length ≤ rest.length := by
            have : ¬ ((l.length : Int) - (pre.length : Int) < ((frameL r).length : Int)) := fun h => hc (.inr h)
            omega
          rw [if_pos ⟨by omega, by omega⟩, bindB_t]
          have hne : ¬ ((l.take (pre.length + (frameL r).length)).drop pre.length = frameL r) := by
            intro h
            refine hn ⟨r, rest.drop (frameL r).length, hk, ?_⟩
            rw [List.drop_take, Nat.add_sub_cancel_left, he, List.drop_left] at h
            conv => lhs; rw [← List.take_append_drop (frameL r).length rest, h]
          have hne2 : ¬ ((mk l).extract pre.length (pre.length + (frameL r).length) = mk (frameL r)) := by rw [mk_extract, mk_inj]; exact hne
          simp only [hne2, decide_false, Bool.not_false, if_true]
      · rw [(n14_p r).2 hk, Option.bind_some, if_pos (.inl rfl), bindB_t, if_pos rfl]
  · rw [if_neg hlt]
end Go.Fs.Se
namespace Go.Fs.Se
open Go.Fs Go.Fs.Pl
open Go.Lib (decDigits itoa)
def U (l : Bs) (fail : Bool) : Pt Unpacker := Pt.mk (Unpacker.mk (mk l) fail)
theorem utv (l : Bs) (f : Bool) : Pt.mk (U l f).v = U l f := rfl
theorem n58_tot {l : Bs} (fail : Bool) (hl : l.length < 4294967281) : ∃ x l' f', n58 (U l fail) = some (mk x, U l' f') ∧ x.length ≤ l.length ∧ l'.length ≤ l.length := by
  have ha := cutA_len 58 l
  have hz := cutZ_len 58 l
  unfold U
  rw [n58_eq]
  dsimp only
  rw [e58, lCut_q 58 hl, Option.bind_some]
  dsimp only
  rw [n46_p (by omega), Option.bind_some, n57_eq, Option.bind_some, mk_size]
  generalize numI (cutA 58 l) = y
  by_cases h : (fail = true ∨ (idx 58 l).isSome = false) ∨ y.2 = false
  · rw [if_pos h, bindB_t, if_pos rfl]
    exact ⟨[], l, true, rfl, by simp, by omega⟩
  · rw [if_neg h, bindB_t]
    by_cases h2 : 0 ≤ y.1 ∧ y.1 ≤ ((cutZ 58 l).length : Int)
    · rw [if_neg (by simp [h2]), if_pos h2.1, if_pos (by omega), if_pos h2.1, if_pos (by omega), mk_extract, mk_extract]
      exact ⟨_, (cutZ 58 l |>.take (cutZ 58 l).length).drop y.1.toNat, _, rfl, by rw [List.length_drop, List.length_take]; omega, by rw [List.length_drop, List.length_take]; omega⟩
    · rw [if_pos (by simp; omega)]
      exact ⟨[], l, _, rfl, by simp, by omega⟩
theorem n58_go {w rest : Bs} (hl : (packL w ++ rest).length < 4294967281) : n58 (U (packL w ++ rest) false) = some (mk w, U rest false) := by
  have hw : w.length < 4294967281 := by
    simp [packL] at hl; omega
  have e1 : packL w ++ rest = itoa (w.length : Int) ++ 58 :: (w ++ rest) := by simp [packL]
  obtain ⟨c1, c2⟩ := cut_at (c := 58) (w ++ rest) (itoa_no (n := (w.length : Int)) (c := 58) (by decide) (by decide))
  have c3 : (idx 58 (itoa (w.length : Int) ++ 58 :: (w ++ rest))).isSome = true := by rw [idx_at _ (itoa_no (by decide) (by decide))]; rfl
  have hi : (itoa (w.length : Int)).length ≤ 18 := itoaI_len (by omega) (by omega)
  rw [e1] at hl ⊢
  unfold U
  rw [n58_eq]
  dsimp only
  rw [e58, lCut_q 58 hl, Option.bind_some]
  dsimp only
  rw [c1, c2, c3, n46_p (by omega), Option.bind_some, n57_eq, Option.bind_some, mk_size, numI_itoa (by omega) (by omega)]
  have hle : (w.length : Int) ≤ ((w ++ rest).length : Int) := by simp; omega
  have e0 : ((w.length : Int)).toNat = w.length := by omega
  rw [if_neg (by simp), bindB_t]
  have hd : (!(decide (0 ≤ (w.length : Int)) && decide ((w.length : Int) ≤ ((w ++ rest).length : Int)))) = false := by simp [-List.length_append, hle]
  rw [hd, if_neg (by decide)]
  dsimp only
  rw [if_pos (by omega), e0, if_pos (by simp), if_pos (by omega), if_pos ⟨by omega, by simp⟩, mk_extract, mk_extract, List.take_length, List.drop_left, List.take_left]
  rfl
theorem n59_p (a b : Bs) : n59 (mk a) (mk b) = some (decide (a.take b.length = b)) := by
  rw [n59_eq, n104_eq, mk_size, mk_size]
  by_cases h : b.length ≤ a.length
  · rw [if_pos (by omega), if_pos (by omega), if_pos ⟨by omega, h⟩, mk_extract]
    simp only [mk_inj, List.drop_zero]
  · rw [if_neg (by omega)]
    have : ¬ a.take b.length = b := fun e => by
      have := congrArg List.length e
      rw [List.length_take] at this; omega
    simp [this]
def noRec : KeepRec := KeepRec.mk ByteArray.empty ByteArray.empty [] ByteArray.empty ByteArray.empty
/-- What is asked of the program's reader of one record. -/
def Reads (s : Bs) (x : KeepRec × Int) : Prop := (∃ r rest, KeepOk r ∧ s = frameL r ++ rest ∧ x = (r, ((frameL r).length : Int))) ∨ x.2 = 0
theorem fin_tot {s : Bs} {r : KeepRec} (hs : Small r) : ∃ x, ((n18 r).bind fun y3 => bindB (if y3 = ByteArray.mk #[] then some true else (n59 (mk s) y3).bind fun y4 => some !y4) fun y5 => if y5 = true then some (noRec, 0) else some (r, (↑y3.size : Int))) = some x ∧ Reads s x := by
  by_cases hk : KeepOk r
  · have hf := frameL_len hk
    have hne : ¬ mk (frameL r) = ByteArray.mk #[] := fun h => by
      have := mk_ne.1 h
      rw [this] at hf; simp at hf
    rw [(n18_p hs).1 hk, Option.bind_some, if_neg hne, n59_p, Option.bind_some, bindB_t, mk_size]
    by_cases h : s.take (frameL r).length = frameL r
    · rw [if_neg (by simp [h])]
      refine ⟨_, rfl, .inl ⟨r, s.drop (frameL r).length, hk, ?_, rfl⟩⟩
      conv => lhs; rw [← List.take_append_drop (frameL r).length s, h]
    · rw [if_pos (by simp [h])]
      exact ⟨_, rfl, .inr rfl⟩
  · rw [(n18_p hs).2 hk, Option.bind_some, if_pos (mk_ne.2 rfl), bindB_t, if_pos rfl]
    exact ⟨_, rfl, .inr rfl⟩
theorem l32_tot {s : Bs} {c0 c1 : ByteArray} {N : Nat} (hN : N < 100000000) (h0 : c0.size ≤ N) : ∀ (k : Nat) (m : Int) (t : Nat) (l : Bs) (fail : Bool) (r4 : List ByteArray), m ≤ 5 → t + k = 5 → r4.length ≤ t → l.length ≤ N → (∀ f ∈ r4, f.size ≤ N) →
    ∃ x, l32_10 (mk s) m (t : Int) (mk l) fail c0 c1 r4 = some x ∧ Reads s x := by
  intro k
  induction k with
  | zero =>
    intro m t l fail r4 hm hk hr hl hf
    rw [l32_10_eq, if_neg (by omega)]
    obtain ⟨x, l1, f1, h1, h2, h3⟩ := n58_tot (l := l) fail (by omega)
    obtain ⟨y, l2, f2, h4, h5, h6⟩ := n58_tot (l := l1) f1 (by omega)
    have e : Pt.mk (Unpacker.mk (mk l) fail) = U l fail := rfl
    rw [e, h1, Option.bind_some, utv, h4, Option.bind_some]
    have hfail : (U l2 f2).v.fail = f2 := rfl
    simp only [hfail]
    cases f2 with
    | true => exact ⟨_, rfl, .inr rfl⟩
    | false =>
      rw [if_neg (by decide)]
      exact fin_tot ⟨(by show c0.size < _; omega), (by show r4.length < _; omega), (fun f hf' => by have := hf f hf'; omega), (by show (mk x).size < _; rw [mk_size]; omega)⟩
  | succ k ih =>
    intro m t l fail r4 hm hk hr hl hf
    obtain ⟨x, l1, f1, h1, h2, h3⟩ := n58_tot (l := l) fail (by omega)
    have e : Pt.mk (Unpacker.mk (mk l) fail) = U l fail := rfl
    rw [l32_10_eq, e, h1]
    by_cases hc : (t : Int) < m
    · rw [if_pos hc, Option.bind_some, if_pos (cap16 (by omega)), w1 (by omega)]
      exact ih m (t + 1) l1 f1 (r4 ++ [mk x]) hm (by omega) (by simp; omega) (by omega) fun f hf' => by
        simp only [List.mem_append, List.mem_singleton] at hf'
        rcases hf' with hf' | rfl
        · exact hf f hf'
        · rw [mk_size]; omega
    · rw [if_neg hc, Option.bind_some, utv]
      obtain ⟨y, l2, f2, h4, h5, h6⟩ := n58_tot (l := l1) f1 (by omega)
      rw [h4, Option.bind_some]
      have hfail : (U l2 f2).v.fail = f2 := rfl
      simp only [hfail]
      cases f2 with
      | true => exact ⟨_, rfl, .inr rfl⟩
      | false =>
        rw [if_neg (by decide)]
        exact fin_tot ⟨(by show c0.size < _; omega), (by show r4.length < _; omega), (fun f hf' => by have := hf f hf'; omega), (by show (mk x).size < _; rw [mk_size]; omega)⟩
theorem n32_tot {s : Bs} (hs : s.length ≤ 400000) : ∃ x, n32 (mk s) = some x ∧ Reads s x := by
  have ha := cutA_len 10 s
  have hz := cutZ_len 10 s
  have haa := cutA_len 32 (cutA 10 s)
  rw [n32_eq, e10, e32, lCut_q 10 (by omega), Option.bind_some]
  dsimp only
  rw [lCut_q 32 (by omega), Option.bind_some]
  dsimp only
  rw [n46_p (by omega), Option.bind_some, n57_eq, Option.bind_some, mk_size]
  have ew : IntKind.i64.wrap (((cutZ 10 s).length : Int) - 1) = ((cutZ 10 s).length : Int) - 1 := wrap64 (by omega) (by omega)
  rw [ew]
  generalize numI (cutA 32 (cutA 10 s)) = y
  by_cases h : y.2 = false
  · rw [if_pos h, bindB_t, if_pos rfl]
    exact ⟨_, rfl, .inr rfl⟩
  · rw [if_neg h, bindB_t]
    by_cases h2 : 0 ≤ y.1 ∧ y.1 ≤ ((cutZ 10 s).length : Int) - 1
    · rw [if_neg (by simp; omega), if_pos h2.1, if_pos (by omega), mk_extract, List.drop_zero]
      have hb : ((cutZ 10 s).take y.1.toNat).length ≤ 400000 := by rw [List.length_take]; omega
      obtain ⟨x1, l1, f1, k1, k2, k3⟩ := n58_tot (l := (cutZ 10 s).take y.1.toNat) false (by omega)
      obtain ⟨x2, l2, f2, k4, k5, k6⟩ := n58_tot (l := l1) f1 (by omega)
      obtain ⟨x3, l3, f3, k7, k8, k9⟩ := n58_tot (l := l2) f2 (by omega)
      have e : Pt.mk (Unpacker.mk (mk ((cutZ 10 s).take y.1.toNat)) false) = U ((cutZ 10 s).take y.1.toNat) false := rfl
      rw [e, k1, Option.bind_some, utv, k4, Option.bind_some, utv, k7, Option.bind_some, n46_p (by omega), Option.bind_some]
      exact l32_tot (N := 400000) (t := 0) (k := 5) (by omega) (by rw [mk_size]; omega) _ l3 f3 [] (by omega) (by omega) (by simp) (by omega) (fun f hf => by cases hf)
    · rw [if_pos (by simp; omega)]
      exact ⟨_, rfl, .inr rfl⟩
theorem l32_go {s : Bs} {r : KeepRec} (hk : KeepOk r) (rest' : Bs) (hs : s = frameL r ++ rest') : ∀ (post pre : List ByteArray) (l : Bs), r.faces = pre ++ post → l = post.flatMap packF ++ (packF r.face ++ packF r.obj) → l.length < 100000000 →
    l32_10 (mk s) (r.faces.length : Int) (pre.length : Int) (mk l) false r.name r.src pre = some (r, ((frameL r).length : Int))
  | [], pre, l, h, he, hl => by
    have hp : pre = r.faces := by rw [h]; simp
    have hsm : Small r := ⟨by have := hk.nm; omega, by have := hk.len; omega, fun f hf => by have := (hk.faces f hf).size; omega, by have := hk.face.size; omega⟩
    have hf := frameL_len hk
    have hne : ¬ mk (frameL r) = ByteArray.mk #[] := fun h => by
      have := mk_ne.1 h
      rw [this] at hf; simp at hf
    have e : Pt.mk (Unpacker.mk (mk l) false) = U (packL (un r.face) ++ packF r.obj) false := by rw [he]; rfl
    have hl2 : (packL (un r.face) ++ packF r.obj).length < 4294967281 := by
      have : l.length = (packL (un r.face) ++ packF r.obj).length := by rw [he]; rfl
      omega
    have hl3 : (packL (un r.obj) ++ []).length < 4294967281 := by
      rw [List.length_append] at hl2
      have : (packF r.obj).length = (packL (un r.obj)).length := rfl
      simp; omega
    have h1 := n58_go (w := un r.face) (rest := packF r.obj) hl2
    have h2 := n58_go (w := un r.obj) (rest := []) hl3
    have e2 : U (packF r.obj) false = U (packL (un r.obj) ++ []) false := by rw [List.append_nil]; rfl
    rw [hp, l32_10_eq, if_neg (by omega), e, h1, Option.bind_some, utv, e2, h2, Option.bind_some]
    have hfail : (U [] false).v.fail = false := rfl
    simp only [hfail, mk_un]
    rw [if_neg (by decide)]
    have hr : KeepRec.mk r.name r.src r.faces r.face r.obj = r := rfl
    have ht : s.take (frameL r).length = frameL r := by rw [hs, List.take_left]
    rw [hr, (n18_p hsm).1 hk, Option.bind_some, if_neg hne, n59_p, Option.bind_some, bindB_t, mk_size, if_neg (by simp [ht])]
  | f :: fs, pre, l, h, he, hl => by
    have hlt : pre.length < r.faces.length := by rw [h]; simp
    have hk4 := hk.len
    have e : l = packL (un f) ++ (fs.flatMap packF ++ (packF r.face ++ packF r.obj)) := by rw [he, fM_cons]; simp [packF]
    have hl2 : (packL (un f) ++ (fs.flatMap packF ++ (packF r.face ++ packF r.obj))).length < 4294967281 := by rw [← e]; omega
    have h1 := n58_go (w := un f) (rest := fs.flatMap packF ++ (packF r.face ++ packF r.obj)) hl2
    have ih := l32_go hk rest' hs fs (pre ++ [f]) (fs.flatMap packF ++ (packF r.face ++ packF r.obj)) (by rw [h]; simp) rfl (by
      rw [e, List.length_append] at hl; omega)
    simp only [List.length_append, List.length_singleton] at ih
    have e2 : Pt.mk (Unpacker.mk (mk l) false) = U (packL (un f) ++ (fs.flatMap packF ++ (packF r.face ++ packF r.obj))) false := by rw [e]; rfl
    rw [l32_10_eq, if_pos (by omega), e2, h1, Option.bind_some, if_pos (cap16 (by omega)), w1 (by omega), mk_un]
    exact ih
theorem n32_go {s rest : Bs} {r : KeepRec} (hs : s.length ≤ 400000) (hk : KeepOk r) (he : s = frameL r ++ rest) : n32 (mk s) = some (r, ((frameL r).length : Int)) := by
  have hb := bodyL_len hk
  have hk4 := hk.len
  have hsum := sumL_lt (bodyL r) 1 (by decide)
  have q1 : s = (itoa ((bodyL r).length : Int) ++ 32 :: itoa (sumL 1 (bodyL r) : Int)) ++ 10 :: (bodyL r ++ ([10] ++ rest)) := by rw [he]; simp [frameL]
  have hno : (10 : UInt8) ∉ itoa ((bodyL r).length : Int) ++ 32 :: itoa (sumL 1 (bodyL r) : Int) := by
    simp only [List.mem_append, List.mem_cons, not_or]
    exact ⟨itoa_no (by decide) (by decide), by decide, itoa_no (by decide) (by decide)⟩
  obtain ⟨c1, c2⟩ := cut_at (c := 10) (bodyL r ++ ([10] ++ rest)) hno
  obtain ⟨c3, c4⟩ := cut_at (c := 32) (itoa (sumL 1 (bodyL r) : Int)) (itoa_no (n := ((bodyL r).length : Int)) (c := 32) (by decide) (by decide))
  have hi := itoaI_len (n := ((bodyL r).length : Int)) (by omega) (by omega)
  have hi2 := itoaI_len (n := (sumL 1 (bodyL r) : Int)) (by omega) (by omega)
  have hsl : s.length = (itoa ((bodyL r).length : Int) ++ 32 :: itoa (sumL 1 (bodyL r) : Int)).length + 1 + (bodyL r ++ ([10] ++ rest)).length := by rw [q1]; simp; omega
  have ha : cutA 10 s = itoa ((bodyL r).length : Int) ++ 32 :: itoa (sumL 1 (bodyL r) : Int) := by rw [q1]; exact c1
  have hz : cutZ 10 s = bodyL r ++ ([10] ++ rest) := by rw [q1]; exact c2
  rw [n32_eq, e10, e32, lCut_q 10 (by omega), Option.bind_some]
  dsimp only
  rw [ha, hz, lCut_q 32 (by simp; omega), Option.bind_some]
  dsimp only
  rw [c3, n46_p (by omega), Option.bind_some, n57_eq, Option.bind_some, mk_size, numI_itoa (by omega) (by omega)]
  have hlen : (bodyL r ++ ([10] ++ rest)).length = (bodyL r).length + (1 + rest.length) := by simp; omega
  have ew : IntKind.i64.wrap (((bodyL r ++ ([10] ++ rest)).length : Int) - 1) = ((bodyL r ++ ([10] ++ rest)).length : Int) - 1 := wrap64 (by omega) (by omega)
  have e0 : (((bodyL r).length : Int)).toNat = (bodyL r).length := by omega
  rw [ew, if_neg (by simp), bindB_t, if_neg (by simp; omega)]
  dsimp only
  rw [if_pos (by omega), e0, if_pos ⟨by omega, by omega⟩, mk_extract, List.drop_zero, List.take_left]
  have b1 : bodyL r = packL (un r.name) ++ (packL (un r.src) ++ (packL (itoa (r.faces.length : Int)) ++ (r.faces.flatMap packF ++ (packF r.face ++ packF r.obj)))) := by simp [bodyL, packF]
  have hbl := congrArg List.length b1
  simp only [List.length_append] at hbl
  have h1 := n58_go (w := un r.name) (rest := packL (un r.src) ++ (packL (itoa (r.faces.length : Int)) ++ (r.faces.flatMap packF ++ (packF r.face ++ packF r.obj)))) (by rw [← b1]; omega)
  have h2 := n58_go (w := un r.src) (rest := packL (itoa (r.faces.length : Int)) ++ (r.faces.flatMap packF ++ (packF r.face ++ packF r.obj))) (by simp only [List.length_append]; omega)
  have h3 := n58_go (w := itoa (r.faces.length : Int)) (rest := r.faces.flatMap packF ++ (packF r.face ++ packF r.obj)) (by simp only [List.length_append]; omega)
  have e : Pt.mk (Unpacker.mk (mk (bodyL r)) false) = U (packL (un r.name) ++ (packL (un r.src) ++ (packL (itoa (r.faces.length : Int)) ++ (r.faces.flatMap packF ++ (packF r.face ++ packF r.obj))))) false := by rw [← b1]; rfl
  have hi3 := itoaI_len (n := (r.faces.length : Int)) (by omega) (by omega)
  rw [e, h1, Option.bind_some, utv, h2, Option.bind_some, utv, h3, Option.bind_some, n46_p (by omega), Option.bind_some, numI_itoa (by omega) (by omega)]
  have hm : min (r.faces.length : Int) 5 = (r.faces.length : Int) := by omega
  dsimp only
  rw [hm, mk_un, mk_un]
  exact l32_go hk rest he r.faces [] (r.faces.flatMap packF ++ (packF r.face ++ packF r.obj)) rfl rfl (by simp only [List.length_append]; omega)
end Go.Fs.Se
namespace Go.Fs.Se
open Go.Fs Go.Fs.Pl
theorem logs {l : Bs} (hl : l.length ≤ 400000) : ∀ (n : Nat) (pre rest : Bs) (r0 : List KeepRec), rest.length ≤ n → l = pre ++ rest → r0.length ≤ pre.length → (∀ r ∈ r0, KeepOk r) →
    ∃ recs t, l12_6 (mk l) (pre.length : Int) r0 (mk l) (pre.length : Int) false = some (recs, t) ∧ l15_1 (mk l) (pre.length : Int) r0 = some (recs, t) ∧ ∀ r ∈ recs, KeepOk r := by
  intro n
  induction n with
  | zero =>
    intro pre rest r0 hn he hr hk
    have hrest : rest = [] := List.length_eq_zero_iff.1 (by omega)
    subst hrest
    have hnot : ¬ Heads ([] : Bs) := by
      rintro ⟨r, rest, h1, h2⟩
      have := (frameL_len h1).1
      have h3 := congrArg List.length h2
      simp at h3; omega
    have hpl : pre.length = l.length := by rw [he]; simp
    refine ⟨r0, (pre.length : Int), spec_stop hl he hnot, ?_, hk⟩
    obtain ⟨x, h1, h2⟩ := n32_tot (s := []) (by simp)
    have h0 : x.2 = 0 := by
      rcases h2 with ⟨r, rest, h3, h4, h5⟩ | h2
      · exact absurd ⟨r, rest, h3, h4⟩ hnot
      · exact h2
    rw [l15_1_eq, mk_size, if_pos (by omega), if_pos (by omega), mk_extract, List.take_length]
    have ed : l.drop ((pre.length : Int)).toNat = [] := by rw [Int.toNat_natCast, hpl, List.drop_length]
    rw [ed, h1, Option.bind_some, if_pos h0]
  | succ n ih =>
    intro pre rest r0 hn he hr hk
    have hll : l.length = pre.length + rest.length := by rw [he]; simp
    have ed : l.drop ((pre.length : Int)).toNat = rest := by rw [Int.toNat_natCast, he, List.drop_left]
    by_cases hh : Heads rest
    · obtain ⟨r, rest', h1, h2⟩ := hh
      have hf := frameL_len h1
      have hrl : rest.length = (frameL r).length + rest'.length := by rw [h2]; simp
      have hgo := spec_go (l := l) (pre := pre) (rest := rest') (r := r) (r0 := r0) hl (by rw [he, h2]) h1 hr
      obtain ⟨recs, t, k1, k2, k3⟩ := ih (pre ++ frameL r) rest' (r0 ++ [r]) (by omega) (by rw [he, h2]; simp) (by simp; omega) (fun x hx => by
        simp only [List.mem_append, List.mem_singleton] at hx
        rcases hx with hx | rfl
        · exact hk x hx
        · exact h1)
      refine ⟨recs, t, by rw [hgo]; exact k1, ?_, k3⟩
      have h32 := n32_go (s := rest) (rest := rest') (by omega) h1 h2
      have ew : IntKind.i64.wrap ((pre.length : Int) + ((frameL r).length : Int)) = ((pre ++ frameL r).length : Int) := by rw [List.length_append, wrap64 (by omega) (by omega)]; omega
      rw [l15_1_eq, mk_size, if_pos (by omega), if_pos (by omega), mk_extract, List.take_length, ed, h32, Option.bind_some]
      dsimp only
      rw [if_neg (by omega), if_pos (cap88 (by omega)), ew]
      exact k2
    · refine ⟨r0, (pre.length : Int), spec_stop hl he hh, ?_, hk⟩
      obtain ⟨x, h1, h2⟩ := n32_tot (s := rest) (by omega)
      have h0 : x.2 = 0 := by
        rcases h2 with ⟨r, rest, h3, h4, h5⟩ | h2
        · exact absurd ⟨r, rest, h3, h4⟩ hh
        · exact h2
      rw [l15_1_eq, mk_size, if_pos (by omega), if_pos (by omega), mk_extract, List.take_length, ed, h1, Option.bind_some, if_pos h0]
theorem read_eq (a : ByteArray) : ∃ recs t, n12 a = some (recs, t) ∧ n15 a = some (recs, t) ∧ ∀ r ∈ recs, KeepOk r := by
  rw [n12_eq, n15_eq]
  by_cases h : (400000 : Int) < (a.size : Int)
  · rw [if_pos h, if_pos h]
    exact ⟨[], 0, rfl, rfl, fun r hr => by cases hr⟩
  · rw [if_neg h, if_neg h]
    have hl := un_len a
    have := logs (l := un a) (by omega) (un a).length [] (un a) [] (Nat.le_refl _) rfl (by simp) (fun r hr => by cases hr)
    rw [mk_un] at this
    exact this

def later (r : KeepRec) (xs : List KeepRec) : Bool := xs.all fun s => !decide (s.name = r.name)
def trimL : List KeepRec → List KeepRec
  | [] => []
  | r :: rs => if later r rs = true then r :: trimL rs else trimL rs
theorem trimL_mem : ∀ {xs : List KeepRec} {r : KeepRec}, r ∈ trimL xs → r ∈ xs
  | x :: xs, r, h => by
    unfold trimL at h
    split at h
    · rcases List.mem_cons.1 h with rfl | h
      · simp
      · simp [trimL_mem h]
    · simp [trimL_mem h]
theorem trimL_len : ∀ xs : List KeepRec, (trimL xs).length ≤ xs.length
  | [] => Nat.le_refl _
  | x :: xs => by
    have := trimL_len xs
    unfold trimL
    split
    · simp; omega
    · simp; omega
theorem l13_9p {xs : List KeepRec} {r : KeepRec} {pre : List KeepRec} (hx : xs.length ≤ 10000) (hk : KeepOk r) : ∀ (p2 p1 : List KeepRec) (b : Bool) (r0 : List KeepRec), xs = pre ++ r :: (p1 ++ p2) → r0.length ≤ 10000 →
    l13_9 xs (pre.length : Int) b ((pre.length + 1 + p1.length : Nat) : Int) r0 = l13_5 xs ((pre.length + 1 : Nat) : Int) (if (b && later r p2) = true then r0 ++ [r] else r0)
  | [], p1, b, r0, h, hr => by
    have hg : getI xs (pre.length : Int) = some r := by rw [h]; exact getI_at _ _ _
    have hlen : xs.length = pre.length + (p1.length + 1) := by rw [h]; simp
    rw [l13_9_eq, if_neg (by omega), hg, Option.bind_some, n27_eq, if_pos (c := r.faces.length * 16 ≤ 140737488355328 ∧ r.faces.length ≤ 140737488355328) (by have := hk.len; omega), Option.bind_some, w1 (by omega), if_pos (cap88 (by omega))]
    cases b <;> simp [later]
  | s :: p2, p1, b, r0, h, hr => by
    have hg : getI xs (pre.length : Int) = some r := by rw [h]; exact getI_at _ _ _
    have hlen : xs.length = pre.length + (p1.length + (p2.length + 1) + 1) := by rw [h]; simp
    have hg2 : getI xs ((pre.length + 1 + p1.length : Nat) : Int) = some s := by
      have e : xs = (pre ++ r :: p1) ++ s :: p2 := by rw [h]; simp
      have e2 : pre.length + 1 + p1.length = (pre ++ r :: p1).length := by simp; omega
      rw [e, e2]; exact getI_at _ _ _
    have ih := l13_9p (pre := pre) hx hk p2 (p1 ++ [s]) (b && !decide (s.name = r.name)) r0 (by rw [h]; simp) hr
    rw [l13_9_eq, if_pos (by omega), hg, hg2, Option.bind_some, w1 (by omega)]
    simp only [Option.bind_some]
    have e : (bindB (if b = true then some (!decide (s.name = r.name)) else some false) fun y2 => l13_9 xs (pre.length : Int) y2 ((pre.length + 1 + p1.length + 1 : Nat) : Int) r0) = l13_9 xs (pre.length : Int) (b && !decide (s.name = r.name)) ((pre.length + 1 + p1.length + 1 : Nat) : Int) r0 := by
      cases b
      · rfl
      · rfl
    rw [e]
    have e2 : pre.length + 1 + (p1 ++ [s]).length = pre.length + 1 + p1.length + 1 := by simp; omega
    rw [e2] at ih
    rw [ih]
    have e3 : (b && !decide (s.name = r.name) && later r p2) = (b && later r (s :: p2)) := by simp [later, Bool.and_assoc]
    rw [e3]
theorem l13_5p {xs : List KeepRec} (hx : xs.length ≤ 10000) (hk : ∀ r ∈ xs, KeepOk r) : ∀ (post pre : List KeepRec) (r0 : List KeepRec), xs = pre ++ post → r0.length ≤ pre.length →
    l13_5 xs (pre.length : Int) r0 = some (r0 ++ trimL post)
  | [], pre, r0, h, hr => by rw [l13_5_eq, if_neg (by rw [h]; simp)]; simp [trimL]
  | r :: rs, pre, r0, h, hr => by
    have hl : pre.length < xs.length := by rw [h]; simp
    have h9 := l13_9p (pre := pre) hx (hk r (by rw [h]; simp)) rs [] true r0 (by rw [h]; simp) (by omega)
    have e0 : pre.length + 1 + ([] : List KeepRec).length = pre.length + 1 := rfl
    rw [e0] at h9
    rw [l13_5_eq, if_pos (by omega), w1 (by omega), h9]
    have ih := l13_5p hx hk rs (pre ++ [r]) (if (true && later r rs) = true then r0 ++ [r] else r0) (by rw [h]; simp) (by split <;> simp <;> omega)
    simp only [List.length_append, List.length_singleton] at ih
    rw [ih]
    simp only [Bool.true_and]
    cases e : later r rs <;> simp [trimL, e]
theorem mGet_set (m : List (ByteArray × Int)) (k k' : ByteArray) (v : Int) : mGet (mSet m k v) k' = if k' = k then some v else mGet m k' := by
  induction m with
  | nil =>
    simp only [mSet, mGet]
  | cons x m ih =>
    simp only [mSet]
    by_cases h : k = x.1
    · rw [if_pos h]
      simp only [mGet]
      by_cases h2 : k' = k
      · rw [if_pos h2, if_pos h2]
      · rw [if_neg h2, if_neg h2, if_neg (fun e => h2 (by rw [e, h]))]
    · rw [if_neg h]
      simp only [mGet]
      by_cases h2 : k' = x.1
      · rw [if_pos h2, if_pos h2, if_neg (fun e => h (by rw [← e, h2]))]
      · rw [if_neg h2, if_neg h2, ih]
def Last (pre : List KeepRec) (m : List (ByteArray × Int)) : Prop := ∀ a r b, pre = a ++ r :: b → ∃ j : Nat, mGet m r.name = some (j : Int) ∧ (if later r b = true then j = a.length else a.length < j)
theorem Last.step {pre : List KeepRec} {m : List (ByteArray × Int)} (h : Last pre m) (x : KeepRec) : Last (pre ++ [x]) (mSet m x.name (pre.length : Int)) := by
  intro a r b he
  rw [mGet_set]
  rcases List.eq_nil_or_concat b with rfl | ⟨b', y, rfl⟩
  · have h2 := List.append_inj' he rfl
    obtain ⟨h3, h4⟩ := h2
    injection h4 with h4 _
    subst h3; subst h4
    rw [if_pos rfl]
    exact ⟨pre.length, rfl, by simp [later]⟩
  · rw [List.concat_eq_append] at he ⊢
    have he2 : pre ++ [x] = (a ++ r :: b') ++ [y] := by rw [he]; simp
    obtain ⟨h3, h4⟩ := List.append_inj' he2 rfl
    injection h4 with h4 _
    subst h4
    have hlen : pre.length = a.length + (b'.length + 1) := by rw [h3]; simp
    obtain ⟨j, h5, h6⟩ := h a r b' h3
    by_cases hn : x.name = r.name
    · rw [if_pos hn.symm]
      refine ⟨pre.length, rfl, ?_⟩
      have : later r (b' ++ [x]) = false := by simp [later, hn]
      rw [this]; simp; omega
    · rw [if_neg (fun e => hn e.symm)]
      refine ⟨j, h5, ?_⟩
      have : later r (b' ++ [x]) = later r b' := by simp [later, hn]
      rw [this]; exact h6
theorem l33_8p {xs : List KeepRec} {m : List (ByteArray × Int)} (hx : xs.length ≤ 10000) (hk : ∀ r ∈ xs, KeepOk r) (hm : Last xs m) : ∀ (post pre : List KeepRec) (r0 : List KeepRec), xs = pre ++ post → r0.length ≤ pre.length →
    l33_8 xs (pre.length : Int) m r0 = some (r0 ++ trimL post)
  | [], pre, r0, h, hr => by rw [l33_8_eq, if_neg (by rw [h]; simp)]; simp [trimL]
  | r :: rs, pre, r0, h, hr => by
    have hl : pre.length < xs.length := by rw [h]; simp
    have hg : getI xs (pre.length : Int) = some r := by rw [h]; exact getI_at _ _ _
    obtain ⟨j, h1, h2⟩ := hm pre r rs h
    have hkr := hk r (by rw [h]; simp)
    have h60 : n60 r = some r := by
      rw [n60_eq]
      unfold lClone
      rw [if_pos (by have := hkr.len; omega)]
      rfl
    rw [l33_8_eq, if_pos (by omega), hg, Option.bind_some, h1, w1 (by omega)]
    simp only [Option.getD_some]
    cases e : later r rs with
    | true =>
      rw [e, if_pos rfl] at h2
      have ih := l33_8p hx hk hm rs (pre ++ [r]) (r0 ++ [r]) (by rw [h]; simp) (by simp; omega)
      simp only [List.length_append, List.length_singleton] at ih
      rw [if_pos (by omega), h60, Option.bind_some, if_pos (cap88 (by omega)), ih]
      simp [trimL, e]
    | false =>
      rw [e, if_neg (by decide)] at h2
      have ih := l33_8p hx hk hm rs (pre ++ [r]) r0 (by rw [h]; simp) (by simp; omega)
      simp only [List.length_append, List.length_singleton] at ih
      rw [if_neg (by omega), ih]
      simp [trimL, e]
theorem l33_3p {xs : List KeepRec} (hx : xs.length ≤ 10000) (hk : ∀ r ∈ xs, KeepOk r) : ∀ (post pre : List KeepRec) (m : List (ByteArray × Int)), xs = pre ++ post → Last pre m → l33_3 xs (pre.length : Int) m = some (trimL xs)
  | [], pre, m, h, hm => by
    have hp : pre = xs := by rw [h]; simp
    rw [hp] at hm
    rw [l33_3_eq, if_neg (by rw [h]; simp)]
    exact l33_8p hx hk hm xs [] [] rfl (by simp)
  | r :: rs, pre, m, h, hm => by
    have hl : pre.length < xs.length := by rw [h]; simp
    have hg : getI xs (pre.length : Int) = some r := by rw [h]; exact getI_at _ _ _
    have ih := l33_3p hx hk rs (pre ++ [r]) (mSet m r.name (pre.length : Int)) (by rw [h]; simp) (hm.step r)
    simp only [List.length_append, List.length_singleton] at ih
    rw [l33_3_eq, if_pos (by omega), hg, Option.bind_some, w1 (by omega)]
    exact ih
theorem trim_eq {xs : List KeepRec} (hk : ∀ r ∈ xs, KeepOk r) : ∃ ys, n13 xs = some ys ∧ n16 xs = some ys ∧ (∀ r ∈ ys, KeepOk r) ∧ ys.length ≤ 10000 := by
  rw [n13_eq, n16_eq]
  by_cases h : (10000 : Int) < (xs.length : Int)
  · rw [if_pos h, if_pos h]
    exact ⟨[], rfl, rfl, (fun r hr => by cases hr), by simp⟩
  · rw [if_neg h, if_neg h, n33_eq]
    have hx : xs.length ≤ 10000 := by omega
    have h1 := l13_5p hx hk xs [] [] rfl (by simp)
    have h2 := l33_3p hx hk xs [] [] rfl (fun a r b he => by simp at he)
    exact ⟨trimL xs, h1, h2, fun r hr => hk r (trimL_mem hr), Nat.le_trans (trimL_len xs) hx⟩

theorem l6_p {a : ByteArray} {ys : List KeepRec} (hx : ys.length ≤ 10000) (hk : ∀ r ∈ ys, KeepOk r) : ∀ (post pre : List KeepRec) (T : Bs), ys = pre ++ post → T.length ≤ 40000 * pre.length → l6_5 a (mk T) (pre.length : Int) ys = some (mk (T ++ post.flatMap frameL))
  | [], pre, T, h, ht => by rw [l6_5_eq, if_neg (by rw [h]; simp)]; simp
  | r :: rs, pre, T, h, ht => by
    have hl : pre.length < ys.length := by rw [h]; simp
    have hg : getI ys (pre.length : Int) = some r := by rw [h]; exact getI_at _ _ _
    have hg2 : ys[((pre.length : Int)).toNat]? = some r := by rw [h]; simp
    have hkr := hk r (by rw [h]; simp)
    have hf := frameL_len hkr
    have ih := l6_p (a := a) hx hk rs (pre ++ [r]) (T ++ frameL r) (by rw [h]; simp) (by simp; omega)
    simp only [List.length_append, List.length_singleton] at ih
    have e : KeepRec.mk r.name r.src r.faces r.face r.obj = r := rfl
    rw [l6_5_eq, if_pos (by omega), hg, hg2, w1 (by omega)]
    simp only [Option.bind_some]
    rw [e, (n14_p r).1 hkr, Option.bind_some, cat_mk (by omega), Option.bind_some, ih, fM_cons, List.append_assoc]
theorem l7_p {a : ByteArray} {ys : List KeepRec} (hx : ys.length ≤ 10000) (hk : ∀ r ∈ ys, KeepOk r) : ∀ (post pre : List KeepRec) (T : Bs), ys = pre ++ post → T.length ≤ 40000 * pre.length → l7_4 a (ys.length : Int) (pre.length : Int) (mk T) ys = some (mk (T ++ post.flatMap frameL))
  | [], pre, T, h, ht => by rw [l7_4_eq, if_neg (by rw [h]; simp)]; simp
  | r :: rs, pre, T, h, ht => by
    have hl : pre.length < ys.length := by rw [h]; simp
    have hg : getI ys (pre.length : Int) = some r := by rw [h]; exact getI_at _ _ _
    have hg2 : ys[((pre.length : Int)).toNat]? = some r := by rw [h]; simp
    have hkr := hk r (by rw [h]; simp)
    have hf := frameL_len hkr
    have hsm : Small r := ⟨by have := hkr.nm; omega, by have := hkr.len; omega, fun f hf => by have := (hkr.faces f hf).size; omega, by have := hkr.face.size; omega⟩
    have ih := l7_p (a := a) hx hk rs (pre ++ [r]) (T ++ frameL r) (by rw [h]; simp) (by simp; omega)
    simp only [List.length_append, List.length_singleton] at ih
    have e : KeepRec.mk r.name r.src r.faces r.face r.obj = r := rfl
    rw [l7_4_eq, if_pos (by omega), hg, hg2, w1 (by omega)]
    simp only [Option.bind_some]
    rw [e, (n18_p hsm).1 hkr, Option.bind_some, if_pos (by rw [mk_size, mk_size]; omega), mk_append, ih, fM_cons, List.append_assoc]
/-- The two answer alike. -/
theorem trim_same (a : ByteArray) : ∃ r, n6 a = some r ∧ n7 a = some r := by
  obtain ⟨recs, t, h1, h2, h3⟩ := read_eq a
  obtain ⟨ys, h4, h5, h6, h7⟩ := trim_eq h3
  have h8 := l6_p (a := a) h7 h6 ys [] [] rfl (by simp)
  have h9 := l7_p (a := a) h7 h6 ys [] [] rfl (by simp)
  rw [n6_eq, n7_eq, h1, h2, Option.bind_some, Option.bind_some]
  dsimp only
  rw [h4, h5, Option.bind_some, Option.bind_some]
  exact ⟨_, h8, h9⟩
theorem n3_true (a : ByteArray) : n3 a = some true := by
  rw [n3_eq]
  by_cases h : (1048576 : Int) < (a.size : Int)
  · rw [if_pos h]
  · obtain ⟨r, h1, h2⟩ := trim_same a
    rw [if_neg h, h1, h2, Option.bind_some, Option.bind_some]
    simp
theorem n4_true (a : ByteArray) : n4 a = some true := by
  rw [n4_eq]
  by_cases h : (1048576 : Int) < (a.size : Int)
  · rw [if_pos h]
  · obtain ⟨r, h1, h2⟩ := trim_same a
    rw [if_neg h, n8_eq, n9_eq, h1, h2]
    simp
end Go.Fs.Se
