/- A part of the proof: an evaluator of the program's code over plain data, proved sound, or a function's walk by it. No conditions beyond those in the theorems. -/
import Derived.Test.YtbgbnmghhmfihaaFsT2
import Derived.SizedLaws
import Derived.ChangeArms
import Derived.DataReads
set_option linter.unusedVariables false
namespace Go.Fs
open Go.RowKit

/-! ### from a claim's reading of an argument to a datum -/
mutual
/-- A type's shape. -/
inductive HS (P : Program) : TypeId → List Sh → Prop
  | b (t : TypeId) (h : P.underlying t = some .bool) : HS P t [.b]
  | i (t : TypeId) (h : P.underlying t = some (.int .i64)) : HS P t [.i]
  | s (t : TypeId) (h : P.underlying t = some .string) : HS P t [.s]
  | l (t e : TypeId) (css : List Sh) (h : P.underlying t = some (.slice e)) (hc : P.cellsOf e = css.length) (hb : 1 ≤ P.bytesOf e) (hp : 0 < css.length) (he : HS P e css) : HS P t [.l css]
  | t (t e : TypeId) (fs : Array Field) (h : P.underlying t = some (.slice e)) (hc : P.cellsOf e = 5) (hb : 1 ≤ P.bytesOf e) (hs : P.underlying e = some (.struct fs)) (hf : HSF P [t] fs.toList 0 treeS) : HS P t [.t]
  | st (t : TypeId) (fs : Array Field) (css : List Sh) (h : P.underlying t = some (.struct fs)) (hc : P.cellsOf t = css.length) (hf : HSF P [] fs.toList 0 css) : HS P t css
/-- The shape of fields; 'rec': a type whose shape is being told. -/
inductive HSF (P : Program) : List TypeId → List Field → Nat → List Sh → Prop
  | nil (rec : List TypeId) (o : Nat) : HSF P rec [] o []
  | cons (rec : List TypeId) (f : Field) (fs : List Field) (o : Nat) (c1 c2 : List Sh) (hoff : f.offset = o) (hsz : P.cellsOf f.type = c1.length) (h : HS P f.type c1) (hs : HSF P rec fs (o + c1.length) c2) : HSF P rec (f :: fs) o (c1 ++ c2)
  | self (f : Field) (fs : List Field) (o : Nat) (c2 : List Sh) (hoff : f.offset = o) (hsz : P.cellsOf f.type = 1) (hs : HSF P [f.type] fs (o + 1) c2) : HSF P [f.type] (f :: fs) o (.t :: c2)
end

section
variable {H : Type} {enc : TypeId × Value → H} {P : Program} {w : World} {spare : Nat → Bool} {held : Bool}

/-- What is read of a list of cells. -/
def RdOK (w : World) (cs : List Value) (css : List Sh) : Prop := ∃ ds S, TrL w false cs ds S ∧ (∀ v ∈ cs, v.oneCell' = true) ∧ shL css ds = true ∧ okL ds = true

theorem RdOK.append {cs cs' : List Value} {css css' : List Sh} (h : RdOK w cs css) (h' : RdOK w cs' css') : RdOK w (cs ++ cs') (css ++ css') := by
  obtain ⟨ds, S, h1, h2, h3, h4⟩ := h
  obtain ⟨ds', S', h1', h2', h3', h4'⟩ := h'
  refine ⟨ds ++ ds', S ++ S', h1.append h1', fun v hv => ?_, ?_, ?_⟩
  · rcases List.mem_append.1 hv with hv | hv
    · exact h2 v hv
    · exact h2' v hv
  · clear h1 h2 h4
    induction css generalizing ds with
    | nil => obtain rfl := shL_nil h3; exact h3'
    | cons c css ih =>
      obtain ⟨d, q, rfl, e1, e2⟩ := shL_cons h3
      simp only [List.cons_append, shL, Bool.and_eq_true]
      exact ⟨e1, ih q e2⟩
  · clear h1 h3
    induction ds with
    | nil => exact h4'
    | cons d ds ih =>
      rw [okL_cons] at h4
      simp only [List.cons_append]
      rw [okL_cons]
      exact ⟨h4.1, ih h4.2⟩

theorem wf_i64 {n : Int} (h : (Lit.int .i64 n).wf = true) : okD (.i .i64 n) = true := by
  rw [okD_i]
  simp only [Lit.wf, Bool.and_eq_true, decide_eq_true_eq] at h
  have e1 : IntKind.i64.min = -9223372036854775808 := by decide
  have e2 : IntKind.i64.max = 9223372036854775807 := by decide
  rw [e1, e2] at h
  omega

theorem weights_all {e : TypeId} : ∀ {l : List (DataW H)}, (DataW.weightsAll P e l).all (· ≤ reachBytes) = true → ∀ d ∈ l, (d.weights P e).all (· ≤ reachBytes) = true
  | [], _, d, hd => by cases hd
  | x :: l, h, d, hd => by
    simp only [DataW.weightsAll, List.all_append, Bool.and_eq_true] at h
    rcases List.mem_cons.1 hd with rfl | hd
    · exact h.1
    · exact weights_all h.2 d hd

theorem cell_addr {a : Addr} {v : Value} (h : w.cell? a = some v) : ∃ cur el fr, w.heap[a.block]? = some (.cells cur el fr) ∧ a.spot = none ∧ cur[a.off]? = some v := by
  unfold World.cell? at h
  split at h
  · rename_i c el fr hg
    split at h
    · cases h
    · rename_i hs
      exact ⟨c, el, fr, hg, by simpa using hs, h⟩
  · cases h

theorem addr_add (a : Addr) (m n : Nat) : (a.add m).add n = a.add (m + n) := by
  obtain ⟨b, o, s⟩ := a
  unfold Addr.add
  by_cases h1 : m = 0 <;> by_cases h2 : n = 0 <;> simp [h1, h2, Nat.add_assoc]

/-- A list that is read. -/
theorem rd_slice {t e : TypeId} {css : List Sh} (ht : P.underlying t = some (.slice e)) (hc : P.cellsOf e = css.length) (hb : 1 ≤ P.bytesOf e) (hp : 0 < css.length) {n : Nat}
    (ih : ∀ (m : Nat), m < n → ∀ cs (x : DataW H × List MemPlace), DataW.trod enc P w 0 spare held m e cs = some x → (x.1.weights P e).all (· ≤ reachBytes) = true → RdOK w cs css)
    {cs : List Value} {x : DataW H × List MemPlace} (h : DataW.trod enc P w 0 spare held n t cs = some x) (hw : (x.1.weights P t).all (· ≤ reachBytes) = true) :
    ∃ xs S v, cs = [v] ∧ Tr w false v (.l css.length xs) S ∧ v.oneCell' = true ∧ shLL css xs = true ∧ okLL xs = true ∧ xs.length ≤ 140737488355328 := by
  rcases DataW.trod_slice ht h with ⟨rfl, rfl⟩ | ⟨a, len, cap, elems, rest, m, rfl, rfl, rfl, hb0, hl, hm, hel, hx, _, _⟩
  · exact ⟨[], [], _, rfl, .z none 0 _ (by simp), rfl, rfl, rfl, Nat.zero_le _⟩
  · -- element by element
    simp only [DataW.weights, ht, List.all_cons, List.all_append, Bool.and_eq_true, decide_eq_true_eq] at hw
    obtain ⟨hw1, hw2, _⟩ := hw
    have hlen : len ≤ 140737488351232 := by
      have h1 : len ≤ len * P.bytesOf e := Nat.le_mul_of_pos_right _ (by omega)
      have h2 : (elems.map (·.1)).length = len := by rw [List.length_map, hel]
      rw [h2] at hw1
      have h3 : len * P.bytesOf e ≤ (len + (rest.map (·.1)).length) * P.bytesOf e := Nat.mul_le_mul_right _ (by omega)
      have h4 : reachBytes = 140737488351232 := by decide
      omega
    have step : ∀ k, k ≤ len → ∃ vs xs S, TrL w false vs xs.flatten S ∧ (∀ v ∈ vs, v.oneCell' = true) ∧ vs.length = k * css.length ∧ xs.length = k ∧ shLL css xs = true ∧ okLL xs = true ∧ ∀ j v, vs[j]? = some v → w.cell? (a.add j) = some v := by
      intro k
      induction k with
      | zero => intro _; exact ⟨[], [], [], .nil, by simp, by simp, rfl, rfl, rfl, by simp⟩
      | succ k ihk =>
        intro hk
        obtain ⟨vs, xs, S, a1, a2, a3, a4, a5, a6, a7⟩ := ihk (by omega)
        have hk' : k < elems.length := by omega
        have hxk := hx k (by omega)
        rw [List.getElem?_eq_getElem hk'] at hxk
        obtain ⟨cs', c1, c2⟩ := Option.bind_eq_some_iff.1 hxk
        obtain ⟨ds, S', b1, b2, b3, b4⟩ := ih m (Nat.lt_succ_self m) cs' _ c2 (weights_all hw2 _ (List.mem_map.2 ⟨_, List.getElem_mem hk', rfl⟩))
        obtain ⟨_, d2, d3⟩ := World.cells?_some c1
        refine ⟨vs ++ cs', xs ++ [ds], S ++ S', ?_, ?_, ?_, ?_, ?_, ?_, ?_⟩
        · rw [List.flatten_append]; simpa using a1.append b1
        · intro v hv
          rcases List.mem_append.1 hv with hv | hv
          · exact a2 v hv
          · exact b2 v hv
        · rw [List.length_append, a3, d2, hc, Nat.succ_mul]
        · simp [a4]
        · clear a1 a4 a6 a7
          induction xs with
          | nil => simp only [List.nil_append, shLL, Bool.and_eq_true]; exact ⟨b3, trivial⟩
          | cons y ys ihy => simp only [List.cons_append, shLL, Bool.and_eq_true] at a5 ⊢; exact ⟨a5.1, ihy a5.2⟩
        · clear a1 a4 a5 a7
          induction xs with
          | nil => simp only [List.nil_append, okLL, Bool.and_eq_true]; exact ⟨b4, trivial⟩
          | cons y ys ihy => simp only [List.cons_append, okLL, Bool.and_eq_true] at a6 ⊢; exact ⟨a6.1, ihy a6.2⟩
        · intro j v hj
          by_cases hjl : j < vs.length
          · rw [List.getElem?_append_left hjl] at hj; exact a7 j v hj
          · rw [List.getElem?_append_right (by omega)] at hj
            have hlt : j - vs.length < cs'.length := (List.getElem?_eq_some_iff.1 hj).1
            have := d3 (j - vs.length) (by omega)
            rw [hj] at this
            rw [← this, hc, addr_add]
            congr 2
            omega
    obtain ⟨vs, xs, S, a1, a2, a3, a4, a5, a6, a7⟩ := step len (Nat.le_refl _)
    by_cases h0 : len = 0
    · subst h0
      obtain rfl : xs = [] := List.eq_nil_of_length_eq_zero a4
      exact ⟨[], [], _, rfl, .z (some a) cap _ (by simp), rfl, rfl, rfl, Nat.zero_le _⟩
    · have hv0 : 0 < vs.length := by rw [a3]; exact Nat.mul_pos (by omega) hp
      have c0 := a7 0 vs[0] (List.getElem?_eq_getElem hv0)
      obtain ⟨cur, el, fr, g1, g2, _⟩ := cell_addr c0
      have hblk : (a.add 0).block = a.block := rfl
      have hspot : (a.add 0).spot = a.spot := rfl
      rw [hblk] at g1
      rw [hspot] at g2
      have ha : a = ⟨a.block, a.off, none⟩ := by cases a; simp at g2; simp [g2]
      have had : ∀ j, a.add j = ⟨a.block, a.off + j, none⟩ := fun j => by
        have := add_at a.block a.off j
        rw [← ha] at this; exact this
      refine ⟨xs, a.block :: S, .slice (some a) len cap, rfl, ?_, rfl, a5, a6, by omega⟩
      have := Tr.l (w := w) (own := false) a.block a.off cap css.length cur el fr vs xs S g1 (by omega) (by
        have : Go.maxLen = 2 ^ 63 - 1 := rfl
        omega) (by rw [a3, a4]) (fun j v hj => by
          have := a7 j v hj
          rw [had, cell_at g1] at this
          exact this) a2 (fun x hx => by rw [shL_length (shLL_len a5 x hx)]) (by simp) a1
      rw [a4, ← ha] at this
      exact this

/-- What a claim reads is a datum of its type's shape. -/
theorem trod_rd : ∀ (n : Nat) {t : TypeId} {css : List Sh}, HS P t css → ∀ cs (x : DataW H × List MemPlace), DataW.trod enc P w 0 spare held n t cs = some x → (x.1.weights P t).all (· ≤ reachBytes) = true → RdOK w cs css := by
  intro n
  induction n using Nat.strongRecOn with
  | _ n IH =>
    intro t css hs
    -- fields in turn
    have fields : ∀ {rec : List TypeId} {fs : List Field} {o : Nat} {css : List Sh}, HSF P rec fs o css → (∀ t ∈ rec, HS P t [.t]) → ∀ (m : Nat), m < n → ∀ (cs : List Value) (ys : List (DataW H × List MemPlace)), o + css.length ≤ cs.length → (∀ (i : Nat) (f : Field), fs[i]? = some f → DataW.trod enc P w 0 spare held m f.type ((cs.drop f.offset).take (P.cellsOf f.type)) = ys[i]?) → ys.length = fs.length →
        (DataW.weightsEach P (fs.map (·.type)) (ys.map (·.1))).all (· ≤ reachBytes) = true → RdOK w ((cs.drop o).take css.length) css := by
      intro rec fs
      induction fs with
      | nil =>
        intro o css hf _ m _ cs ys _ _ _ _
        cases hf
        exact ⟨[], [], by simpa using .nil, by simp, rfl, rfl⟩
      | cons f fs ihf =>
        intro o css hf hrec m hm cs ys hl hx hy hw
        cases ys with
        | nil => simp at hy
        | cons y ys =>
          simp only [List.map_cons, DataW.weightsEach, List.all_append, Bool.and_eq_true] at hw
          have h0 := hx 0 f rfl
          simp only [List.getElem?_cons_zero] at h0
          cases hf with
          | cons _ _ _ _ c1 c2 hoff hsz h hs' =>
            rw [hoff, hsz] at h0
            have r1 := IH m hm h _ _ h0 hw.1
            have r2 := ihf hs' hrec m hm cs ys (by rw [List.length_append] at hl; omega) (fun i g hg => by simpa using hx (i + 1) g (by simpa using hg)) (by simpa using hy) hw.2
            rw [List.length_append, List.take_add, List.drop_drop]
            exact r1.append r2
          | self _ _ _ c2 hoff hsz hs' =>
            rw [hoff, hsz] at h0
            have r1 := IH m hm (hrec f.type (by simp)) _ _ h0 hw.1
            have r2 := ihf hs' hrec m hm cs ys (by rw [List.length_cons] at hl; omega) (fun i g hg => by simpa using hx (i + 1) g (by simpa using hg)) (by simpa using hy) hw.2
            rw [List.length_cons, Nat.add_comm c2.length 1, List.take_add, List.drop_drop]
            exact r1.append (css := [.t]) r2
    have struct : ∀ {e : TypeId} {fs : Array Field} {css : List Sh} {rec : List TypeId}, P.underlying e = some (.struct fs) → P.cellsOf e = css.length → HSF P rec fs.toList 0 css → (∀ t ∈ rec, HS P t [.t]) → ∀ m, m ≤ n → ∀ cs (x : DataW H × List MemPlace), DataW.trod enc P w 0 spare held m e cs = some x → (x.1.weights P e).all (· ≤ reachBytes) = true → RdOK w cs css := by
      intro e fs css rec he hc hf hrec m hm cs x h hw
      obtain ⟨xs, k, rfl, rfl, hl, hlen, hx⟩ := DataW.trod_struct he h
      simp only [DataW.weights, he] at hw
      have := fields hf hrec k (by omega) cs xs (by omega) (fun i f hi => hx i f (by rw [← Array.getElem?_toList]; exact hi)) (by simpa using hlen) hw
      rw [List.drop_zero, ← hc, ← hl, List.take_length] at this
      exact this
    cases hs with
    | b _ h =>
      intro cs x hx hw
      obtain ⟨b, rfl, rfl⟩ := DataW.trod_bool h hx
      exact ⟨[.b b], [] ++ [], .cons _ _ _ _ _ _ (.b b) .nil, by simp [Value.oneCell'], rfl, by simp [okL, okD]⟩
    | i _ h =>
      intro cs x hx hw
      obtain ⟨k, rfl, rfl, hwf⟩ := DataW.trod_int h hx
      refine ⟨[.i .i64 k], [] ++ [], .cons _ _ _ _ _ _ (.i .i64 k) .nil, by simp [Value.oneCell'], rfl, ?_⟩
      rw [okL_cons]
      exact ⟨wf_i64 hwf, rfl⟩
    | s _ h =>
      intro cs x hx hw
      obtain ⟨s, rfl, rfl, hsz⟩ := DataW.trod_string h hx
      refine ⟨[.s s], [] ++ [], .cons _ _ _ _ _ _ (.s s) .nil, by simp [Value.oneCell'], rfl, ?_⟩
      rw [okL_cons, okD_s]
      refine ⟨?_, rfl⟩
      simp only [DataW.weights, List.all_cons, List.all_nil, Bool.and_true, decide_eq_true_eq] at hw
      have h4 : reachBytes = 140737488351232 := by decide
      have h5 : s.data.toList.length = s.size := by simp
      omega
    | l _ e css' h hc hb hp he =>
      intro cs x hx hw
      obtain ⟨xs, S, v, rfl, r1, r2, r3, r4, r5⟩ := rd_slice h hc hb hp (fun m hm cs x => IH m hm he cs x) hx hw
      refine ⟨[.l css'.length xs], S ++ [], .cons _ _ _ _ _ _ r1 .nil, by simpa using r2, ?_, ?_⟩
      · simp only [shL, shD, beq_self_eq_true, Bool.true_and, Bool.and_true]; exact r3
      · rw [okL_cons, okD_l]; exact ⟨⟨r5, r4⟩, rfl⟩
    | t _ e fs h hc hb hst hf =>
      intro cs x hx hw
      obtain ⟨xs, S, v, rfl, r1, r2, r3, r4, r5⟩ := rd_slice (css := treeS) h hc hb (by decide) (fun m hm cs x hx hw => struct (css := treeS) hst hc hf (fun t' ht' => by
        obtain rfl : t' = t := by simpa using ht'
        exact .t _ e fs h hc hb hst hf) m (Nat.le_of_lt hm) cs x hx hw) hx hw
      refine ⟨[.l 5 xs], S ++ [], .cons _ _ _ _ _ _ r1 .nil, by simpa using r2, ?_, ?_⟩
      · simp only [shL, shD, beq_self_eq_true, Bool.true_and, Bool.and_true]; exact r3
      · rw [okL_cons, okD_l]; exact ⟨⟨r5, r4⟩, rfl⟩
    | st _ fs _ h hc hf =>
      intro cs x hx hw
      exact struct h hc hf (by simp) n (Nat.le_refl _) cs x hx hw
end
end Go.Fs
