/- A part of the proof: an evaluator of the program's code over plain data, proved sound, or a function's walk by it. No conditions beyond those in the theorems. -/
import Derived.Maps.AppendAt
import Derived.Laws.MakeOwn
import Derived.Below
set_option linter.unusedVariables false
namespace Go.Fs
open Go.RowKit

/-- Plain data: what a value of the program reads as. -/
inductive D where
  | b (v : Bool)
  | i (k : IntKind) (n : Int)
  | s (v : ByteArray)
  | l (sz : Nat) (xs : List (List D))
  | g (cs : List D)
  | f (fn : FuncId) (caps : List D)
  | p (cs : List D)
  | n
  | t (vs : List D)
  | u
  deriving Inhabited

mutual
/-- A value reads as a datum; 'own': its slices may be written and grown. The list: the blocks that it comes to. -/
inductive Tr (w : World) (own : Bool) : Value → D → List Nat → Prop
  | b (x : Bool) : Tr w own (.bool x) (.b x) []
  | i (k : IntKind) (n : Int) : Tr w own (.int k n) (.i k n) []
  | s (x : ByteArray) : Tr w own (.string x) (.s x) []
  | np : Tr w own (.pointer none) .n []
  | nf : Tr w own .nilFunc .n []
  | ni : Tr w own .nilIface .n []
  | z (a : Option Addr) (c sz : Nat) (h : own = true → c = 0) : Tr w own (.slice a 0 c) (.l sz []) []
  | l (g o c sz : Nat) (cur : Array Value) (e : TypeId) (fr : Nat × Nat) (vs : List Value) (xs : List (List D)) (S : List Nat)
      (hg : w.heap[g]? = some (.cells cur e fr)) (hc : xs.length ≤ c) (hm : c ≤ maxLen) (hl : vs.length = xs.length * sz)
      (hv : ∀ j v, vs[j]? = some v → cur[o + j]? = some v) (h1 : ∀ v ∈ vs, v.oneCell' = true) (hx : ∀ x ∈ xs, x.length = sz)
      (ho : own = true → fr = (0, 0) ∧ o + c * sz ≤ cur.size) (hs : TrL w own vs xs.flatten S) : Tr w own (.slice (some ⟨g, o, none⟩) xs.length c) (.l sz xs) (g :: S)
  | g (cs : Array Value) (ds : List D) (S : List Nat) (h : TrL w own cs.toList ds S) : Tr w own (.agg cs) (.g ds) S
  | f (fn : FuncId) (cs : Array Value) (ds : List D) (S : List Nat) (h : TrL w own cs.toList ds S) : Tr w own (.func (.func fn) #[] cs) (.f fn ds) S
  | p (g o : Nat) (cur : Array Value) (e : TypeId) (fr : Nat × Nat) (vs : List Value) (ds : List D) (S : List Nat)
      (hg : w.heap[g]? = some (.cells cur e fr)) (hv : ∀ j v, vs[j]? = some v → cur[o + j]? = some v) (h1 : ∀ v ∈ vs, v.oneCell' = true)
      (ho : own = true → fr = (0, 0) ∧ o = 0 ∧ cur.size = vs.length) (hs : TrL w own vs ds S) : Tr w own (.pointer (some ⟨g, o, none⟩)) (.p ds) (g :: S)
  | t (vs : Array Value) (ds : List D) (S : List Nat) (h : TrL w own vs.toList ds S) : Tr w own (.tuple vs) (.t ds) S
inductive TrL (w : World) (own : Bool) : List Value → List D → List Nat → Prop
  | nil : TrL w own [] [] []
  | cons (v : Value) (d : D) (S : List Nat) (vs : List Value) (ds : List D) (Ss : List Nat) (h : Tr w own v d S) (hs : TrL w own vs ds Ss) : TrL w own (v :: vs) (d :: ds) (S ++ Ss)
end

/-- What is read lies in blocks that are there. -/
theorem Tr.lt {w : World} {own : Bool} {v : Value} {d : D} {S : List Nat} (h : Tr w own v d S) : ∀ b ∈ S, b < w.heap.size := by
  have lt : ∀ {g : Nat} {o : Obj}, w.heap[g]? = some o → g < w.heap.size := fun h => (Array.getElem?_eq_some_iff.1 h).1
  refine Tr.rec (w := w) (own := own) (motive_1 := fun v d S _ => ∀ b ∈ S, b < w.heap.size) (motive_2 := fun vs ds S _ => ∀ b ∈ S, b < w.heap.size)
    ?_ ?_ ?_ ?_ ?_ ?_ ?_ ?_ ?_ ?_ ?_ ?_ ?_ ?_ h
  all_goals intros
  all_goals simp_all
  all_goals first
    | (intro b hb; rcases hb with rfl | hb; first | exact lt (by assumption) | (rename_i ih; exact ih _ hb); done)
    | skip
  all_goals grind

theorem TrL.lt {w : World} {own : Bool} {vs : List Value} {ds : List D} {S : List Nat} (h : TrL w own vs ds S) : ∀ b ∈ S, b < w.heap.size := by
  have := Tr.lt (Tr.t vs.toArray ds S (by simpa using h))
  exact this

/-- What is read reads so in another world, if these blocks are as they were. -/
theorem Tr.keep {w w' : World} {own : Bool} {v : Value} {d : D} {S : List Nat} (h : Tr w own v d S) : (∀ b ∈ S, w'.heap[b]? = w.heap[b]?) → Tr w' own v d S := by
  refine Tr.rec (w := w) (own := own) (motive_1 := fun v d S _ => (∀ b ∈ S, w'.heap[b]? = w.heap[b]?) → Tr w' own v d S) (motive_2 := fun vs ds S _ => (∀ b ∈ S, w'.heap[b]? = w.heap[b]?) → TrL w' own vs ds S)
    ?_ ?_ ?_ ?_ ?_ ?_ ?_ ?_ ?_ ?_ ?_ ?_ ?_ ?_ h
  · intro x _; exact .b x
  · intro k n _; exact .i k n
  · intro x _; exact .s x
  · intro _; exact .np
  · intro _; exact .nf
  · intro _; exact .ni
  · intro a c sz h _; exact .z a c sz h
  · intro g o c sz cur e fr vs xs S hg hc hm hl hv h1 hx ho hs ih hk
    exact .l g o c sz cur e fr vs xs S ((hk g (by simp)).trans hg) hc hm hl hv h1 hx ho (ih fun b hb => hk b (by simp [hb]))
  · intro cs ds S hs ih hk; exact .g cs ds S (ih hk)
  · intro fn cs ds S hs ih hk; exact .f fn cs ds S (ih hk)
  · intro g o cur e fr vs ds S hg hv h1 ho hs ih hk
    exact .p g o cur e fr vs ds S ((hk g (by simp)).trans hg) hv h1 ho (ih fun b hb => hk b (by simp [hb]))
  · intro cs ds S hs ih hk; exact .t cs ds S (ih hk)
  · intro _; exact .nil
  · intro v d S vs ds Ss h hs ih ihs hk
    exact .cons v d S vs ds Ss (ih fun b hb => hk b (by simp [hb])) (ihs fun b hb => hk b (by simp [hb]))

theorem TrL.keep {w w' : World} {own : Bool} {vs : List Value} {ds : List D} {S : List Nat} (h : TrL w own vs ds S) (hk : ∀ b ∈ S, w'.heap[b]? = w.heap[b]?) : TrL w' own vs ds S := by
  have := Tr.keep (Tr.t vs.toArray ds S (by simpa using h)) hk
  cases this with
  | t _ _ _ h => simpa using h

/-- What is owned may be read. -/
theorem Tr.shared {w : World} {own : Bool} {v : Value} {d : D} {S : List Nat} (h : Tr w own v d S) : Tr w false v d S := by
  refine Tr.rec (w := w) (own := own) (motive_1 := fun v d S _ => Tr w false v d S) (motive_2 := fun vs ds S _ => TrL w false vs ds S)
    ?_ ?_ ?_ ?_ ?_ ?_ ?_ ?_ ?_ ?_ ?_ ?_ ?_ ?_ h
  · intro x; exact .b x
  · intro k n; exact .i k n
  · intro x; exact .s x
  · exact .np
  · exact .nf
  · exact .ni
  · intro a c sz h; exact .z a c sz (by simp)
  · intro g o c sz cur e fr vs xs S hg hc hm hl hv h1 hx ho hs ih
    exact .l g o c sz cur e fr vs xs S hg hc hm hl hv h1 hx (by simp) ih
  · intro cs ds S hs ih; exact .g cs ds S ih
  · intro fn cs ds S hs ih; exact .f fn cs ds S ih
  · intro g o cur e fr vs ds S hg hv h1 ho hs ih
    exact .p g o cur e fr vs ds S hg hv h1 (by simp) ih
  · intro cs ds S hs ih; exact .t cs ds S ih
  · exact .nil
  · intro v d S vs ds Ss h hs ih ihs
    exact .cons v d S vs ds Ss ih ihs

theorem TrL.shared {w : World} {own : Bool} {vs : List Value} {ds : List D} {S : List Nat} (h : TrL w own vs ds S) : TrL w false vs ds S := by
  have := Tr.shared (Tr.t vs.toArray ds S (by simpa using h))
  cases this with
  | t _ _ _ h => simpa using h

theorem TrL.length {w : World} {own : Bool} : ∀ {vs : List Value} {ds : List D} {S : List Nat}, TrL w own vs ds S → vs.length = ds.length
  | _, _, _, .nil => rfl
  | _, _, _, .cons _ _ _ _ _ _ _ hs => by simp [hs.length]

theorem TrL.append {w : World} {own : Bool} : ∀ {vs : List Value} {ds : List D} {S : List Nat} {vs' : List Value} {ds' : List D} {S' : List Nat}, TrL w own vs ds S → TrL w own vs' ds' S' → TrL w own (vs ++ vs') (ds ++ ds') (S ++ S')
  | _, _, _, _, _, _, .nil, h => h
  | _, _, _, _, _, _, .cons v d S vs ds Ss h hs, h' => by
    rw [List.cons_append, List.cons_append, List.append_assoc]
    exact .cons v d S _ _ _ h (hs.append h')

/-- A cell out of a row of cells. -/
theorem TrL.get {w : World} {own : Bool} : ∀ {vs : List Value} {ds : List D} {S : List Nat}, TrL w own vs ds S → ∀ {j : Nat} {d : D}, ds[j]? = some d → ∃ v S1, vs[j]? = some v ∧ Tr w own v d S1 ∧ (∀ b ∈ S1, b ∈ S) ∧ (S.Nodup → S1.Nodup)
  | _, _, _, .nil, j, d, h => by simp at h
  | _, _, _, .cons v d S vs ds Ss h hs, 0, d', h' => by
    simp at h'
    subst h'
    exact ⟨v, S, rfl, h, fun b hb => by simp [hb], fun hn => (List.nodup_append.1 hn).1⟩
  | _, _, _, .cons v d S vs ds Ss h hs, j + 1, d', h' => by
    obtain ⟨v', S1, hv, ht, hS, hn⟩ := hs.get (j := j) (by simpa using h')
    exact ⟨v', S1, by simpa using hv, ht, fun b hb => by simp [hS b hb], fun h => hn (List.nodup_append.1 h).2.1⟩

theorem TrL.take {w : World} {own : Bool} : ∀ {vs : List Value} {ds : List D} {S : List Nat}, TrL w own vs ds S → ∀ n, ∃ S1, TrL w own (vs.take n) (ds.take n) S1 ∧ (∀ b ∈ S1, b ∈ S) ∧ (S.Nodup → S1.Nodup)
  | _, _, _, .nil, n => ⟨[], by simpa using .nil, by simp, by simp⟩
  | _, _, _, .cons v d S vs ds Ss h hs, 0 => ⟨[], .nil, by simp, by simp⟩
  | _, _, _, .cons v d S vs ds Ss h hs, n + 1 => by
    obtain ⟨S1, h1, h2, h3⟩ := hs.take n
    refine ⟨S ++ S1, .cons v d S _ _ S1 h h1, ?_, ?_⟩
    · intro b hb
      rcases List.mem_append.1 hb with hb | hb
      · simp [hb]
      · simp [h2 b hb]
    · intro hn
      obtain ⟨ha, hb, hc⟩ := List.nodup_append.1 hn
      exact List.nodup_append.2 ⟨ha, h3 hb, fun x hx y hy => hc x hx y (h2 y hy)⟩

theorem TrL.drop {w : World} {own : Bool} : ∀ {vs : List Value} {ds : List D} {S : List Nat}, TrL w own vs ds S → ∀ n, ∃ S1, TrL w own (vs.drop n) (ds.drop n) S1 ∧ (∀ b ∈ S1, b ∈ S) ∧ (S.Nodup → S1.Nodup)
  | _, _, _, .nil, n => ⟨[], by simpa using .nil, by simp, by simp⟩
  | _, _, _, .cons v d S0 vs ds Ss h hs, 0 => ⟨S0 ++ Ss, .cons v d S0 vs ds Ss h hs, fun _ h => h, fun h => h⟩
  | _, _, _, .cons v d S vs ds Ss h hs, n + 1 => by
    obtain ⟨S1, h1, h2, h3⟩ := hs.drop n
    exact ⟨S1, h1, fun b hb => by simp [h2 b hb], fun hn => h3 (List.nodup_append.1 hn).2.1⟩

theorem flat_length {α : Type} {xs : List (List α)} {sz : Nat} (h : ∀ x ∈ xs, x.length = sz) : xs.flatten.length = xs.length * sz := by
  induction xs with
  | nil => simp
  | cons x xs ih =>
    simp only [List.flatten_cons, List.length_append, List.length_cons]
    rw [h x (by simp), ih fun y hy => h y (by simp [hy]), Nat.succ_mul]
    omega

theorem flat_get {α : Type} {xs : List (List α)} {sz : Nat} (h : ∀ x ∈ xs, x.length = sz) : ∀ {i j : Nat} {x : List α}, xs[i]? = some x → j < sz → xs.flatten[i * sz + j]? = x[j]? := by
  induction xs with
  | nil => intro i j x hx; simp at hx
  | cons y ys ih =>
    intro i j x hx hj
    have hy : y.length = sz := h y (by simp)
    rw [List.flatten_cons]
    cases i with
    | zero =>
      simp at hx
      subst hx
      rw [Nat.zero_mul, Nat.zero_add, List.getElem?_append_left (by omega)]
    | succ i =>
      rw [List.getElem?_append_right (by rw [hy, Nat.succ_mul]; omega), hy, show (i + 1) * sz + j - sz = i * sz + j by rw [Nat.succ_mul]; omega]
      exact ih (fun z hz => h z (by simp [hz])) (by simpa using hx) hj

theorem flat_take {α : Type} {xs : List (List α)} {sz : Nat} (h : ∀ x ∈ xs, x.length = sz) (n : Nat) : (xs.take n).flatten = xs.flatten.take (n * sz) := by
  induction xs generalizing n with
  | nil => simp
  | cons y ys ih =>
    cases n with
    | zero => simp
    | succ n =>
      have hy : y.length = sz := h y (by simp)
      rw [List.take_succ_cons, List.flatten_cons, List.flatten_cons, ih (fun z hz => h z (by simp [hz])), List.take_append, hy, Nat.succ_mul, List.take_of_length_le (l := y) (by rw [hy]; omega), show n * sz + sz - sz = n * sz by omega]

theorem flat_drop {α : Type} {xs : List (List α)} {sz : Nat} (h : ∀ x ∈ xs, x.length = sz) (n : Nat) : (xs.drop n).flatten = xs.flatten.drop (n * sz) := by
  induction xs generalizing n with
  | nil => simp
  | cons y ys ih =>
    cases n with
    | zero => simp
    | succ n =>
      have hy : y.length = sz := h y (by simp)
      rw [List.drop_succ_cons, List.flatten_cons, ih (fun z hz => h z (by simp [hz])), List.drop_append, hy, Nat.succ_mul, List.drop_of_length_le (l := y) (by rw [hy]; omega), show n * sz + sz - sz = n * sz by omega, List.nil_append]

end Go.Fs
