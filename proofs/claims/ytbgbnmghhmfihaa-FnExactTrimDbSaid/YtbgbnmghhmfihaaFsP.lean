/- A part of the proof: an evaluator of the program's code over plain data, proved sound, or a function's walk by it. No conditions beyond those in the theorems. -/
import Derived.Test.YtbgbnmghhmfihaaFsO
set_option linter.unusedVariables false
set_option linter.constructorNameAsVariable false
namespace Go.Fs
open Go.RowKit

/-! ### what a function is handed, and what it gives -/
inductive In where
  | d (x : D)
  | io (x : D)

/-- The cells of a value, be it a tuple of values. -/
def Value.parts : Value → List Value
  | .tuple vs => vs.toList.flatMap fun v => v.cells.toList
  | v => v.cells.toList

def Flat (v : Value) : Prop := ∀ u ∈ v.cells.toList, u.oneCell' = true

inductive ArgsR (w : World) : List Value → List In → List Nat → List Nat → Prop
  | nil : ArgsR w [] [] [] []
  | d (v : Value) (x : D) (S : List Nat) (vs : List Value) (ins : List In) (Sd M : List Nat) (h : Tr w false v x S) (hf : Flat v) (hs : ArgsR w vs ins Sd M) : ArgsR w (v :: vs) (.d x :: ins) (S ++ Sd) M
  | io (v : Value) (x : D) (S : List Nat) (vs : List Value) (ins : List In) (Sd M : List Nat) (h : Tr w true v x S) (hf : Flat v) (hs : ArgsR w vs ins Sd M) : ArgsR w (v :: vs) (.io x :: ins) Sd (S ++ M)

/-- What is left of what was handed over, as the first argument. -/
def IoR (w : World) (args : List Value) (io : Option D) (S : List Nat) : Prop :=
  match io with
  | none => S = []
  | some x => ∃ v vs, args = v :: vs ∧ Tr w true v x S

/-- What a function gives; 'deep': of one's own; 'io': what its first argument has become. -/
structure Ret where
  ret : D
  deep : Bool := true
  io : Option D := none

/-- Every part of a result has one cell. -/
def RetFlat (v : Value) : Prop := Flat v ∨ ∃ vs, v = .tuple vs ∧ ∀ u ∈ vs.toList, Flat u

structure Post (w : World) (args : List Value) (Sd M : List Nat) (out : Ret) (v : Value) (w' : World) : Prop where
  rest : Rest w w'
  keep : ∀ b, b < w.heap.size → b ∉ M → w'.heap[b]? = w.heap[b]?
  res : ∃ S Si, Tr w' out.deep v out.ret S ∧ RetFlat v ∧ IoR w' args out.io Si ∧ Si.Nodup ∧ (∀ b ∈ Si, w.heap.size ≤ b ∨ b ∈ M) ∧ (∀ b ∈ S, b ∉ Si) ∧
    (out.deep = true → S.Nodup ∧ ∀ b ∈ S, w.heap.size ≤ b ∨ b ∈ M) ∧ ∀ b ∈ S, w.heap.size ≤ b ∨ b ∈ Sd ∨ b ∈ M

/-- A call of a function comes to an end and gives this. -/
def Does (P : Program) (f : FuncId) (args : Array Value) (w : World) (R : Value → World → Prop) : Prop :=
  ((callFunc f args).run P w = .ok (.enter f args) w ∧ Calls P f args w fun | .returned v, w' => R v w' | _, _ => False) ∨
  ∃ v w', (callFunc f args).run P w = .ok (.value v) w' ∧ R v w'

def FnOK (P : Program) (f : FuncId) (ins : List In) (out : Ret) : Prop :=
  ∀ (w : World) (args : List Value) (Sd M : List Nat), ArgsR w args ins Sd M → M.Nodup → (∀ b ∈ M, b ∉ Sd) → Does P f args.toArray w (Post w args Sd M out)

/-! ### results, cell by cell -/
def cellsD : D → List D
  | .g ds => ds
  | d => [d]
def partsD : D → List D
  | .t vs => vs.flatMap cellsD
  | d => cellsD d
def oneAV (d : D) (avs : List AV) : AV :=
  match d with
  | .g ds => .g (avs.take ds.length)
  | _ => avs.headD .x
def tupAV : List D → List AV → List AV
  | [], _ => []
  | d :: ds, avs => oneAV d avs :: tupAV ds (avs.drop (cellsD d).length)
/-- A result, out of its cells. -/
def retAV (d : D) (avs : List AV) : AV :=
  match d with
  | .t vs => .t (tupAV vs avs)
  | d => oneAV d avs

/-- The cells of a datum of one's own: lists get keys of their own. -/
def adCells : Nat → List D → List AV
  | _, [] => []
  | k, .l _ _ :: ds => .r k :: adCells (k + 1) ds
  | k, d :: ds => .d d :: adCells (k + 1) ds
def adObs : Nat → List D → List (Nat × Ob)
  | _, [] => []
  | k, .l sz xs :: ds => (k, .row sz xs true false 0) :: adObs (k + 1) ds
  | k, _ :: ds => adObs (k + 1) ds

/-- Objects that take the place of others. -/
def ovr (L : List (Nat × Ob)) (H : Nat → Option Ob) : Nat → Option Ob := fun k => match L.lookup k with | some o => some o | none => H k
def ovG (L : List (Nat × GI)) (G : Nat → GI) : Nat → GI := fun k => match L.lookup k with | some g => g | none => G k

section rel
variable {P : Program} {T : Tab} {B : Ctx} {G : Nat → GI} {s : St} {a : Act} {w w' : World}

theorem lookup_mem {α : Type} {L : List (Nat × α)} {k : Nat} {x : α} (h : L.lookup k = some x) : (k, x) ∈ L := by
  induction L with
  | nil => simp at h
  | cons y L ih =>
    rw [List.lookup_cons] at h
    by_cases e : k == y.1
    · simp [e] at h
      have : k = y.1 := by simpa using e
      subst this; subst h
      simp
    · simp [e] at h
      simp [ih h]

theorem lookup_of_mem {α : Type} {L : List (Nat × α)} (hn : (L.map (·.1)).Nodup) {k : Nat} {x : α} (h : (k, x) ∈ L) : L.lookup k = some x := by
  induction L with
  | nil => simp at h
  | cons y L ih =>
    rw [List.lookup_cons]
    simp only [List.map_cons, List.nodup_cons] at hn
    rcases List.mem_cons.1 h with rfl | h
    · simp
    · have hne : (k == y.1) = false := by
        simp only [beq_eq_false_iff_ne, ne_eq]
        rintro rfl
        exact hn.1 (List.mem_map.2 ⟨_, h, rfl⟩)
      rw [hne]
      exact ih hn.2 h

theorem lookup_none {α : Type} {L : List (Nat × α)} {k : Nat} (h : k ∉ L.map (·.1)) : L.lookup k = none := by
  cases e : L.lookup k with
  | none => rfl
  | some x => exact absurd (List.mem_map.2 ⟨_, lookup_mem e, rfl⟩) h

/-- New objects, and such as have turned. -/
theorem RelG.steps (h : RelG B G s a w) (L : List (Nat × GI × Ob)) (hk : (L.map (·.1)).Nodup) (hr : Rest w w')
    (hw : ∀ b, b < w.heap.size → (∀ x ∈ L, b ∉ ownOf (G x.1) (s.heap x.1)) → w'.heap[b]? = w.heap[b]?)
    (hT : ∀ x ∈ L, ∀ o, s.heap x.1 = some o → Ob.to (G x.1) x.2.1 o x.2.2)
    (hsub : ∀ x ∈ L, ∀ b ∈ ownOf x.2.1 (some x.2.2), (∃ y ∈ L, b ∈ ownOf (G y.1) (s.heap y.1)) ∨ w.heap.size ≤ b)
    (hnd : ∀ x ∈ L, (ownOf x.2.1 (some x.2.2)).Nodup) (hdis : ∀ x ∈ L, ∀ y ∈ L, ∀ b, b ∈ ownOf x.2.1 (some x.2.2) → b ∈ ownOf y.2.1 (some y.2.2) → x.1 = y.1)
    (hobj : ∀ x ∈ L, ObR w' (ovG (L.map fun x => (x.1, x.2.1)) G) (ovr (L.map fun x => (x.1, x.2.2)) s.heap) (Ban B.F (ovG (L.map fun x => (x.1, x.2.1)) G) (ovr (L.map fun x => (x.1, x.2.2)) s.heap)) x.2.1 x.2.2) :
    RelG B (ovG (L.map fun x => (x.1, x.2.1)) G) { s with heap := ovr (L.map fun x => (x.1, x.2.2)) s.heap } a w' ∧
      ∀ {v : Value} {av : AV}, AVR w G s.heap (Ban B.F G s.heap) v av → AVR w' (ovG (L.map fun x => (x.1, x.2.1)) G) (ovr (L.map fun x => (x.1, x.2.2)) s.heap) (Ban B.F (ovG (L.map fun x => (x.1, x.2.1)) G) (ovr (L.map fun x => (x.1, x.2.2)) s.heap)) v av := by
  have hk1 : ((L.map fun x => (x.1, x.2.1)).map (·.1)).Nodup := by rw [List.map_map]; exact hk
  have hk2 : ((L.map fun x => (x.1, x.2.2)).map (·.1)).Nodup := by rw [List.map_map]; exact hk
  have inG : ∀ x ∈ L, ovG (L.map fun x => (x.1, x.2.1)) G x.1 = x.2.1 := fun x hx => by
    simp only [ovG, lookup_of_mem hk1 (List.mem_map.2 ⟨x, hx, rfl⟩)]
  have inH : ∀ x ∈ L, ovr (L.map fun x => (x.1, x.2.2)) s.heap x.1 = some x.2.2 := fun x hx => by
    simp only [ovr, lookup_of_mem hk2 (List.mem_map.2 ⟨x, hx, rfl⟩)]
  have outG : ∀ k, k ∉ L.map (·.1) → ovG (L.map fun x => (x.1, x.2.1)) G k = G k := fun k hn => by
    simp only [ovG]; rw [lookup_none (by rw [List.map_map]; exact hn)]
  have outH : ∀ k, k ∉ L.map (·.1) → ovr (L.map fun x => (x.1, x.2.2)) s.heap k = s.heap k := fun k hn => by
    simp only [ovr]; rw [lookup_none (by rw [List.map_map]; exact hn)]
  have mem : ∀ k, k ∈ L.map (·.1) → ∃ x ∈ L, x.1 = k := fun k hm => by simpa using hm
  have hto : ∀ k o, s.heap k = some o → ∃ o', ovr (L.map fun x => (x.1, x.2.2)) s.heap k = some o' ∧ Ob.to (G k) (ovG (L.map fun x => (x.1, x.2.1)) G k) o o' := by
    intro k o ho
    by_cases hm : k ∈ L.map (·.1)
    · obtain ⟨x, hx, rfl⟩ := mem k hm
      exact ⟨_, inH x hx, by rw [inG x hx]; exact hT x hx o ho⟩
    · exact ⟨o, by rw [outH k hm]; exact ho, by rw [outG k hm]; exact .refl _ _⟩
  have hban : ∀ b, b < w.heap.size → Ban B.F (ovG (L.map fun x => (x.1, x.2.1)) G) (ovr (L.map fun x => (x.1, x.2.2)) s.heap) b → Ban B.F G s.heap b := by
    rintro b hb (⟨k, hm⟩ | hf)
    case inr => exact .inr hf
    by_cases hkm : k ∈ L.map (·.1)
    · obtain ⟨x, hx, rfl⟩ := mem k hkm
      rw [inG x hx, inH x hx] at hm
      rcases hsub x hx b hm with ⟨y, _, hy⟩ | hge
      · exact .inl ⟨y.1, hy⟩
      · omega
    · rw [outG k hkm, outH k hkm] at hm
      exact .inl ⟨k, hm⟩
  refine ⟨?_, fun hv => (AVR.mono_both (fun b hb hn => hw b hb fun x _ hm => hn (.inl ⟨x.1, hm⟩)) hban hto).1 hv⟩
  refine h.step (w' := w') (G' := ovG (L.map fun x => (x.1, x.2.1)) G) _ (fun k => k ∈ L.map (·.1)) hr ?_ (fun k hn => ⟨outH k hn, outG k hn⟩) (fun k o _ ho => hto k o ho) ?_ ?_ ?_ ?_
  · intro b hb hn
    exact hw b hb fun x hx => hn x.1 (List.mem_map.2 ⟨x, hx, rfl⟩)
  · intro k hkm b hb
    obtain ⟨x, hx, rfl⟩ := mem k hkm
    rw [inG x hx, inH x hx] at hb
    rcases hsub x hx b hb with ⟨y, hy, hm⟩ | hge
    · exact .inl ⟨y.1, List.mem_map.2 ⟨y, hy, rfl⟩, hm⟩
    · exact .inr hge
  · intro k hkm
    obtain ⟨x, hx, rfl⟩ := mem k hkm
    rw [inG x hx, inH x hx]
    exact hnd x hx
  · intro k k' hkm hkm' b hb hb'
    obtain ⟨x, hx, rfl⟩ := mem k hkm
    obtain ⟨y, hy, rfl⟩ := mem k' hkm'
    rw [inG x hx, inH x hx] at hb
    rw [inG y hy, inH y hy] at hb'
    exact hdis x hx y hy b hb hb'
  · intro k o hkm ho
    obtain ⟨x, hx, rfl⟩ := mem k hkm
    rw [inH x hx] at ho
    cases ho
    rw [inG x hx]
    exact hobj x hx

/-- A row out of a list of one's own. -/
theorem deepRow (b0 o0 : Nat) {v : Value} {sz : Nat} {xs : List (List D)} {S : List Nat} (h : Tr w true v (.l sz xs) S) (hn : S.Nodup) :
    ∃ gi ad, (∀ Av, RowR w Av gi sz xs true false) ∧ v = .slice ad xs.length gi.cap ∧ (0 < gi.cap → ad = some ⟨gi.blk, gi.off, none⟩) ∧ (gi.cap = 0 → gi.blk = b0 ∧ gi.off = o0) ∧
      (∀ ve, ∀ b ∈ ownOf gi (some (.row sz xs true false ve)), b ∈ S) ∧ ∀ ve, (ownOf gi (some (.row sz xs true false ve))).Nodup := by
  cases h with
  | z ad c _ ho =>
    obtain rfl := ho rfl
    exact ⟨{ blk := b0, off := o0, cap := 0, vs := [], sub := [] }, ad, fun Av => RowR.mkVoid .., rfl, fun h => absurd h (Nat.lt_irrefl 0), fun _ => ⟨rfl, rfl⟩, by simp [ownOf], by simp [ownOf]⟩
  | l g o c _ cur e fr vs _ S2 hg hc hm hl hv h1 hx ho hs =>
    obtain ⟨rfl, hcap⟩ := ho rfl
    obtain ⟨n1, n2⟩ := List.nodup_cons.1 hn
    by_cases hc0 : c = 0
    · subst hc0
      obtain rfl : xs = [] := List.eq_nil_of_length_eq_zero (by omega)
      exact ⟨{ blk := b0, off := o0, cap := 0, vs := [], sub := [] }, _, fun Av => RowR.mkVoid .., rfl, fun h => absurd h (Nat.lt_irrefl 0), fun _ => ⟨rfl, rfl⟩, by simp [ownOf], by simp [ownOf]⟩
    exact ⟨{ blk := g, off := o, cap := c, vs := vs, sub := S2 }, _, fun Av => ⟨fun _ => ⟨cur, e, hg, hcap, hv⟩, hc, hm, hl, h1, hx, hs, fun _ => n2, by simp, by simp⟩, rfl, fun _ => rfl, fun h => absurd h hc0,
      fun ve b hb => by
        rcases (mem_ownRow hb).2 with rfl | ⟨_, hb⟩
        · simp
        · simp [hb], fun ve => nodup_ownRow fun _ => ⟨n1, n2⟩⟩

/-- Entries that are rows of one's own, out of these blocks. -/
structure Ents (w : World) (S : List Nat) (L : List (Nat × GI × Ob)) : Prop where
  keys : (L.map (·.1)).Nodup
  row : ∀ x ∈ L, ∃ sz xs ve, x.2.2 = .row sz xs true false ve ∧ ∀ Av, RowR w Av x.2.1 sz xs true false
  sub : ∀ x ∈ L, ∀ b ∈ ownOf x.2.1 (some x.2.2), b ∈ S
  nd : ∀ x ∈ L, (ownOf x.2.1 (some x.2.2)).Nodup
  dis : ∀ x ∈ L, ∀ y ∈ L, ∀ b, b ∈ ownOf x.2.1 (some x.2.2) → b ∈ ownOf y.2.1 (some y.2.2) → x.1 = y.1

theorem Ents.cons {S S' : List Nat} {L : List (Nat × GI × Ob)} (h : Ents w S' L) {k : Nat} {gi : GI} {sz : Nat} {xs : List (List D)} {ve : Nat} (hk : k ∉ L.map (·.1)) (hr : ∀ Av, RowR w Av gi sz xs true false)
    (hs : ∀ b ∈ ownOf gi (some (.row sz xs true false ve)), b ∈ S) (hn : (ownOf gi (some (.row sz xs true false ve))).Nodup) (hd : ∀ b ∈ S, b ∉ S') : Ents w (S ++ S') ((k, gi, .row sz xs true false ve) :: L) := by
  refine ⟨?_, ?_, ?_, ?_, ?_⟩
  · simp only [List.map_cons]; exact List.nodup_cons.2 ⟨hk, h.keys⟩
  · intro x hx
    rcases List.mem_cons.1 hx with rfl | hx
    · exact ⟨sz, xs, ve, rfl, hr⟩
    · exact h.row x hx
  · intro x hx b hb
    rcases List.mem_cons.1 hx with rfl | hx
    · exact List.mem_append.2 (.inl (hs b hb))
    · exact List.mem_append.2 (.inr (h.sub x hx b hb))
  · intro x hx
    rcases List.mem_cons.1 hx with rfl | hx
    · exact hn
    · exact h.nd x hx
  · intro x hx y hy b hb hb'
    rcases List.mem_cons.1 hx with rfl | hx <;> rcases List.mem_cons.1 hy with rfl | hy
    · rfl
    · exact absurd (h.sub y hy b hb') (hd b (hs b hb))
    · exact absurd (h.sub x hx b hb) (hd b (hs b hb'))
    · exact h.dis x hx y hy b hb hb'

theorem Ents.mono {S S' : List Nat} {L : List (Nat × GI × Ob)} (h : Ents w S L) (hs : ∀ b ∈ S, b ∈ S') : Ents w S' L :=
  ⟨h.keys, h.row, fun x hx b hb => hs b (h.sub x hx b hb), h.nd, h.dis⟩

theorem Ents.append {S S' : List Nat} {L L' : List (Nat × GI × Ob)} (h : Ents w S L) (h' : Ents w S' L') (hk : ∀ x ∈ L, ∀ y ∈ L', x.1 ≠ y.1) (hd : ∀ b ∈ S, b ∉ S') : Ents w (S ++ S') (L ++ L') := by
  refine ⟨?_, ?_, ?_, ?_, ?_⟩
  · rw [List.map_append]
    refine List.nodup_append.2 ⟨h.keys, h'.keys, fun a ha b hb e => ?_⟩
    obtain ⟨x, hx, rfl⟩ := List.mem_map.1 ha
    obtain ⟨y, hy, rfl⟩ := List.mem_map.1 hb
    exact hk x hx y hy e
  · intro x hx
    rcases List.mem_append.1 hx with hx | hx
    · exact h.row x hx
    · exact h'.row x hx
  · intro x hx b hb
    rcases List.mem_append.1 hx with hx | hx
    · exact List.mem_append.2 (.inl (h.sub x hx b hb))
    · exact List.mem_append.2 (.inr (h'.sub x hx b hb))
  · intro x hx
    rcases List.mem_append.1 hx with hx | hx
    · exact h.nd x hx
    · exact h'.nd x hx
  · intro x hx y hy b hb hb'
    rcases List.mem_append.1 hx with hx | hx <;> rcases List.mem_append.1 hy with hy | hy
    · exact h.dis x hx y hy b hb hb'
    · exact absurd (h'.sub y hy b hb') (hd b (h.sub x hx b hb))
    · exact absurd (h'.sub x hx b hb) (hd b (h.sub y hy b hb'))
    · exact h'.dis x hx y hy b hb hb'

theorem Ents.nil (S : List Nat) : Ents w S [] := ⟨List.nodup_nil, by simp, by simp, by simp, by simp⟩

/-- The entries of what a call has given. -/
theorem adEnts : ∀ {vs : List Value} {ds : List D} {S : List Nat} (h : TrL w true vs ds S), S.Nodup → (∀ v ∈ vs, v.oneCell' = true) → ∀ k, ∃ L : List (Nat × GI × Ob),
    L.map (fun x => (x.1, x.2.2)) = adObs k ds ∧ (∀ x ∈ L, k ≤ x.1) ∧ Ents w S L ∧
    ∀ (G' : Nat → GI) (H' : Nat → Option Ob) (Av : Nat → Prop), (∀ x ∈ L, G' x.1 = x.2.1 ∧ H' x.1 = some x.2.2) → (∀ b ∈ S, Av b → ∃ x ∈ L, b ∈ ownOf x.2.1 (some x.2.2)) → AVRL w G' H' Av vs (adCells k ds)
  | _, _, _, .nil, _, _, k => ⟨[], rfl, by simp, .nil _, fun _ _ _ _ _ => .nil⟩
  | _, _, _, .cons v d S vs ds Ss h hs, hn, h1, k => by
    obtain ⟨n1, n2, n3⟩ := List.nodup_append.1 hn
    obtain ⟨L, e1, e2, e3, e4⟩ := adEnts hs n2 (fun u hu => h1 u (by simp [hu])) (k + 1)
    have other : (∀ sz xs, d ≠ .l sz xs) → adObs k (d :: ds) = adObs (k + 1) ds ∧ adCells k (d :: ds) = .d d :: adCells (k + 1) ds := by
      intro hd
      cases d <;> first | exact ⟨rfl, rfl⟩ | exact absurd rfl (hd _ _)
    by_cases hd : ∃ sz xs, d = .l sz xs
    · obtain ⟨sz, xs, rfl⟩ := hd
      obtain ⟨gi, ad, r1, r2, r3, _, r4, r5⟩ := deepRow 0 0 h n1
      refine ⟨(k, gi, .row sz xs true false 0) :: L, by simp [adObs, e1], ?_, e3.cons (fun hm => ?_) r1 (r4 0) (r5 0) (fun b hb hb' => n3 b hb b hb' rfl), ?_⟩
      · intro x hx
        rcases List.mem_cons.1 hx with rfl | hx
        · exact Nat.le_refl _
        · have := e2 x hx; omega
      · obtain ⟨x, hx, rfl⟩ := List.mem_map.1 hm
        have := e2 x hx
        omega
      · intro G' H' Av hL hAv
        obtain ⟨g1, g2⟩ := hL (k, gi, .row sz xs true false 0) (by simp)
        have g1 : G' k = gi := g1
        have g2 : H' k = some (.row sz xs true false 0) := g2
        refine .cons _ _ _ _ ?_ (e4 G' H' Av (fun x hx => hL x (by simp [hx])) fun b hb ha => ?_)
        · subst r2
          have := AVR.r (w := w) (G := G') (H := H') (Av := Av) k sz xs true false 0 ad g2 (by rw [g1]; exact r3)
          rw [g1] at this
          exact this
        · obtain ⟨x, hx, hm⟩ := hAv b (by simp [hb]) ha
          rcases List.mem_cons.1 hx with rfl | hx
          · exact absurd rfl (n3 b (r4 0 b hm) b hb)
          · exact ⟨x, hx, hm⟩
    · obtain ⟨o1, o2⟩ := other fun sz xs e => hd ⟨sz, xs, e⟩
      refine ⟨L, by rw [o1, e1], fun x hx => by have := e2 x hx; omega, e3.mono fun b hb => by simp [hb], ?_⟩
      intro G' H' Av hL hAv
      rw [o2]
      refine .cons _ _ _ _ (.d v d S (h1 v (by simp)) h.shared fun b hb ha => ?_) (e4 G' H' Av hL fun b hb ha => hAv b (by simp [hb]) ha)
      obtain ⟨x, hx, hm⟩ := hAv b (by simp [hb]) ha
      exact n3 b hb b (e3.sub x hx b hm) rfl
end rel
end Go.Fs
