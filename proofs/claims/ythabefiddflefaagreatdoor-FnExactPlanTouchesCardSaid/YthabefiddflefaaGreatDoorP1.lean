/- A part of the proof: an evaluator of the program's code over plain data, proved sound; the equations of its functions; what they compute. No conditions beyond those in the theorems. -/
import Derived.Laws.BytesString
import Derived.Laws.Cover3
import Derived.Test.YthabefiddflefaaGreatDoorP0
set_option linter.unusedVariables false
set_option linter.unusedSimpArgs false
set_option linter.constructorNameAsVariable false
set_option linter.unusedSectionVars false
set_option linter.defProp false
namespace Go.Fs
open Go.RowKit
inductive In where
 | d (x : D)
 | io (x : D)
def Flat (v : Value) : Prop := ∀ u ∈ v.cells.toList, u.oneCell' = true
inductive ArgsR (w : World) : List Value → List In → List Nat → List Nat → Prop
 | nil : ArgsR w [] [] [] []
 | d (v : Value) (x : D) (S : List Nat) (vs : List Value) (ins : List In) (Sd M : List Nat) (h : Tr w false v x S) (hf : Flat v) (hs : ArgsR w vs ins Sd M) : ArgsR w (v :: vs) (.d x :: ins) (S ++ Sd) M
 | io (v : Value) (x : D) (S : List Nat) (vs : List Value) (ins : List In) (Sd M : List Nat) (h : Tr w true v x S) (hf : Flat v) (hs : ArgsR w vs ins Sd M) : ArgsR w (v :: vs) (.io x :: ins) Sd (S ++ M)
def IoR (w : World) (args : List Value) (io : Option D) (S : List Nat) : Prop :=
 match io with
 | none => S = []
 | some x => ∃ v vs, args = v :: vs ∧ Tr w true v x S
structure Ret where
 ret : D
 deep : Bool := true
 io : Option D := none
def RetFlat (v : Value) : Prop := Flat v ∨ ∃ vs, v = .tuple vs ∧ ∀ u ∈ vs.toList, Flat u
structure Post (w : World) (args : List Value) (Sd M : List Nat) (out : Ret) (v : Value) (w' : World) : Prop where
 rest : Rest w w'
 keep : ∀ b, b < w.heap.size → b ∉ M → w'.heap[b]? = w.heap[b]?
 res : ∃ S Si, Tr w' out.deep v out.ret S ∧ RetFlat v ∧ IoR w' args out.io Si ∧ Si.Nodup ∧ (∀ b ∈ Si, w.heap.size ≤ b ∨ b ∈ M) ∧ (∀ b ∈ S, b ∉ Si) ∧
  (out.deep = true → S.Nodup ∧ ∀ b ∈ S, w.heap.size ≤ b ∨ b ∈ M) ∧ ∀ b ∈ S, w.heap.size ≤ b ∨ b ∈ Sd ∨ b ∈ M ∨ b < nG
def Does (P : Program) (f : FuncId) (args : Array Value) (w : World) (R : Value → World → Prop) : Prop :=
 ((callFunc f args).run P w = .ok (.enter f args) w ∧ Calls P f args w fun | .returned v, w' => R v w' | _, _ => False) ∨
 ∃ v w', (callFunc f args).run P w = .ok (.value v) w' ∧ R v w'
def FnOK (P : Program) (f : FuncId) (ins : List In) (out : Ret) : Prop :=
 ∀ (w : World) (args : List Value) (Sd M : List Nat), KnW w (· ∈ M) → ArgsR w args ins Sd M → M.Nodup → (∀ b ∈ M, b ∉ Sd) → Does P f args.toArray w (Post w args Sd M out)
def cellsD : D → List D
 | .g ds => ds
 | d => [d]
def partsD : D → List D
 | .t vs => vs.flatMap cellsD
 | d => cellsD d
def oneAV (d : D) (avs : List AV) : AV :=
 match d with
 | .g ds => .g (avs.take ds.length)
 | _ => avs.headD .x
def tupAV : List D → List AV → List AV
 | [], _ => []
 | d :: ds, avs => oneAV d avs :: tupAV ds (avs.drop (cellsD d).length)
def retAV (d : D) (avs : List AV) : AV :=
 match d with
 | .t vs => .t (tupAV vs avs)
 | d => oneAV d avs
def adCells : Nat → List D → List AV
 | _, [] => []
 | k, .l _ _ :: ds => .r k :: adCells (k + 1) ds
 | k, d :: ds => .d d :: adCells (k + 1) ds
def adObs : Nat → List D → List (Nat × Ob)
 | _, [] => []
 | k, .l sz xs :: ds => (k, .row sz xs true false 0) :: adObs (k + 1) ds
 | k, _ :: ds => adObs (k + 1) ds
def ovr (L : List (Nat × Ob)) (H : Nat → Option Ob) : Nat → Option Ob := fun k => match L.lookup k with | some o => some o | none => H k
def ovG (L : List (Nat × GI)) (G : Nat → GI) : Nat → GI := fun k => match L.lookup k with | some g => g | none => G k
section rel
variable {P : Program} {T : Tab} {B : Ctx} {G : Nat → GI} {s : St} {a : Act} {w w' : World}
theorem lookup_mem {α : Type} {L : List (Nat × α)} {k : Nat} {x : α} (h : L.lookup k = some x) : (k, x) ∈ L := by
 induction L with
 | nil => simp at h
 | cons y L ih =>
  rw [List.lookup_cons] at h
  by_cases e : k == y.1
  ·simp [e] at h
   have : k = y.1 := by simpa using e
   subst this; subst h
   simp
  ·simp [e] at h
   simp [ih h]
theorem lookup_of_mem {α : Type} {L : List (Nat × α)} (hn : (L.map (·.1)).Nodup) {k : Nat} {x : α} (h : (k, x) ∈ L) : L.lookup k = some x := by
 induction L with
 | nil => simp at h
 | cons y L ih =>
  rw [List.lookup_cons]
  simp only [List.map_cons, List.nodup_cons] at hn
  rcases List.mem_cons.1 h with rfl | h
  ·simp
  ·have hne : (k == y.1) = false := by
    simp only [beq_eq_false_iff_ne, ne_eq]
    rintro rfl
    exact hn.1 (List.mem_map.2 ⟨_, h, rfl⟩)
   rw [hne]
   exact ih hn.2 h
theorem lookup_none {α : Type} {L : List (Nat × α)} {k : Nat} (h : k ∉ L.map (·.1)) : L.lookup k = none := by
 cases e : L.lookup k with
 | none => rfl
 | some x => exact absurd (List.mem_map.2 ⟨_, lookup_mem e, rfl⟩) h
theorem RelG.steps (h : RelG B G s a w) (L : List (Nat × GI × Ob)) (hk : (L.map (·.1)).Nodup) (hr : Rest w w')
 (hw : ∀ b, b < w.heap.size → (∀ x ∈ L, b ∉ ownOf (G x.1) (s.heap x.1)) → w'.heap[b]? = w.heap[b]?)
 (hT : ∀ x ∈ L, ∀ o, s.heap x.1 = some o → Ob.to (G x.1) x.2.1 o x.2.2)
 (hsub : ∀ x ∈ L, ∀ b ∈ ownOf x.2.1 (some x.2.2), (∃ y ∈ L, b ∈ ownOf (G y.1) (s.heap y.1)) ∨ w.heap.size ≤ b)
 (hnd : ∀ x ∈ L, (ownOf x.2.1 (some x.2.2)).Nodup) (hdis : ∀ x ∈ L, ∀ y ∈ L, ∀ b, b ∈ ownOf x.2.1 (some x.2.2) → b ∈ ownOf y.2.1 (some y.2.2) → x.1 = y.1)
 (hobj : ∀ x ∈ L, ObR w' (ovG (L.map fun x => (x.1, x.2.1)) G) (ovr (L.map fun x => (x.1, x.2.2)) s.heap) (Ban B.F (ovG (L.map fun x => (x.1, x.2.1)) G) (ovr (L.map fun x => (x.1, x.2.2)) s.heap)) x.2.1 x.2.2) :
 RelG B (ovG (L.map fun x => (x.1, x.2.1)) G) { s with heap := ovr (L.map fun x => (x.1, x.2.2)) s.heap } a w' ∧
  ∀ {v : Value} {av : AV}, AVR w G s.heap (Ban B.F G s.heap) v av → AVR w' (ovG (L.map fun x => (x.1, x.2.1)) G) (ovr (L.map fun x => (x.1, x.2.2)) s.heap) (Ban B.F (ovG (L.map fun x => (x.1, x.2.1)) G) (ovr (L.map fun x => (x.1, x.2.2)) s.heap)) v av := by
 have hk1 : ((L.map fun x => (x.1, x.2.1)).map (·.1)).Nodup := by rw [List.map_map]; exact hk
 have hk2 : ((L.map fun x => (x.1, x.2.2)).map (·.1)).Nodup := by rw [List.map_map]; exact hk
 have inG : ∀ x ∈ L, ovG (L.map fun x => (x.1, x.2.1)) G x.1 = x.2.1 := fun x hx => by
  simp only [ovG, lookup_of_mem hk1 (List.mem_map.2 ⟨x, hx, rfl⟩)]
 have inH : ∀ x ∈ L, ovr (L.map fun x => (x.1, x.2.2)) s.heap x.1 = some x.2.2 := fun x hx => by
  simp only [ovr, lookup_of_mem hk2 (List.mem_map.2 ⟨x, hx, rfl⟩)]
 have outG : ∀ k, k ∉ L.map (·.1) → ovG (L.map fun x => (x.1, x.2.1)) G k = G k := fun k hn => by
  simp only [ovG]; rw [lookup_none (by rw [List.map_map]; exact hn)]
 have outH : ∀ k, k ∉ L.map (·.1) → ovr (L.map fun x => (x.1, x.2.2)) s.heap k = s.heap k := fun k hn => by
  simp only [ovr]; rw [lookup_none (by rw [List.map_map]; exact hn)]
 have mem : ∀ k, k ∈ L.map (·.1) → ∃ x ∈ L, x.1 = k := fun k hm => by simpa using hm
 have hto : ∀ k o, s.heap k = some o → ∃ o', ovr (L.map fun x => (x.1, x.2.2)) s.heap k = some o' ∧ Ob.to (G k) (ovG (L.map fun x => (x.1, x.2.1)) G k) o o' := by
  intro k o ho
  by_cases hm : k ∈ L.map (·.1)
  ·obtain ⟨x, hx, rfl⟩ := mem k hm
   exact ⟨_, inH x hx, by rw [inG x hx]; exact hT x hx o ho⟩
  ·exact ⟨o, by rw [outH k hm]; exact ho, by rw [outG k hm]; exact .refl _ _⟩
 have hban : ∀ b, b < w.heap.size → Ban B.F (ovG (L.map fun x => (x.1, x.2.1)) G) (ovr (L.map fun x => (x.1, x.2.2)) s.heap) b → Ban B.F G s.heap b := by
  rintro b hb (⟨k, hm⟩ | hf)
  case inr => exact .inr hf
  by_cases hkm : k ∈ L.map (·.1)
  ·obtain ⟨x, hx, rfl⟩ := mem k hkm
   rw [inG x hx, inH x hx] at hm
   rcases hsub x hx b hm with ⟨y, _, hy⟩ | hge
   ·exact .inl ⟨y.1, hy⟩
   ·omega
  ·rw [outG k hkm, outH k hkm] at hm
   exact .inl ⟨k, hm⟩
 refine ⟨?_, fun hv => (AVR.mono_both (fun b hb hn => hw b hb fun x _ hm => hn (.inl ⟨x.1, hm⟩)) hban hto).1 hv⟩
 refine h.step (w' := w') (G' := ovG (L.map fun x => (x.1, x.2.1)) G) _ (fun k => k ∈ L.map (·.1)) hr ?_ (fun k hn => ⟨outH k hn, outG k hn⟩) (fun k o _ ho => hto k o ho) ?_ ?_ ?_ ?_
 ·intro b hb hn
  exact hw b hb fun x hx => hn x.1 (List.mem_map.2 ⟨x, hx, rfl⟩)
 ·intro k hkm b hb
  obtain ⟨x, hx, rfl⟩ := mem k hkm
  rw [inG x hx, inH x hx] at hb
  rcases hsub x hx b hb with ⟨y, hy, hm⟩ | hge
  ·exact .inl ⟨y.1, List.mem_map.2 ⟨y, hy, rfl⟩, hm⟩
  ·exact .inr hge
 ·intro k hkm
  obtain ⟨x, hx, rfl⟩ := mem k hkm
  rw [inG x hx, inH x hx]
  exact hnd x hx
 ·intro k k' hkm hkm' b hb hb'
  obtain ⟨x, hx, rfl⟩ := mem k hkm
  obtain ⟨y, hy, rfl⟩ := mem k' hkm'
  rw [inG x hx, inH x hx] at hb
  rw [inG y hy, inH y hy] at hb'
  exact hdis x hx y hy b hb hb'
 ·intro k o hkm ho
  obtain ⟨x, hx, rfl⟩ := mem k hkm
  rw [inH x hx] at ho
  cases ho
  rw [inG x hx]
  exact hobj x hx
theorem deepRow (b0 o0 : Nat) {v : Value} {sz : Nat} {xs : List (List D)} {S : List Nat} (h : Tr w true v (.l sz xs) S) (hn : S.Nodup) :
 ∃ gi ad, (∀ Av, RowR w Av gi sz xs true false) ∧ v = .slice ad xs.length gi.cap ∧ (0 < gi.cap → ad = some ⟨gi.blk, gi.off, none⟩) ∧ (gi.cap = 0 → gi.blk = b0 ∧ gi.off = o0) ∧
  (∀ ve, ∀ b ∈ ownOf gi (some (.row sz xs true false ve)), b ∈ S) ∧ ∀ ve, (ownOf gi (some (.row sz xs true false ve))).Nodup := by
 cases h with
 | z ad c _ ho =>
  obtain rfl := ho rfl
  exact ⟨{ blk := b0, off := o0, cap := 0, vs := [], sub := [] }, ad, fun Av => RowR.mkVoid .., rfl, fun h => absurd h (Nat.lt_irrefl 0), fun _ => ⟨rfl, rfl⟩, by simp [ownOf], by simp [ownOf]⟩
 | l g o c _ cur e fr vs _ S2 hg hc hm hl hv h1 hx ho hs =>
  obtain ⟨rfl, hcap⟩ := ho rfl
  obtain ⟨n1, n2⟩ := List.nodup_cons.1 hn
  by_cases hc0 : c = 0
  ·subst hc0
   obtain rfl : xs = [] := List.eq_nil_of_length_eq_zero (by omega)
   exact ⟨{ blk := b0, off := o0, cap := 0, vs := [], sub := [] }, _, fun Av => RowR.mkVoid .., rfl, fun h => absurd h (Nat.lt_irrefl 0), fun _ => ⟨rfl, rfl⟩, by simp [ownOf], by simp [ownOf]⟩
  exact ⟨{ blk := g, off := o, cap := c, vs := vs, sub := S2 }, _, fun Av => ⟨fun _ => ⟨cur, e, hg, hcap, hv⟩, hc, hm, hl, h1, hx, hs, fun _ => n2, by simp, by simp⟩, rfl, fun _ => rfl, fun h => absurd h hc0,
   fun ve b hb => by
    rcases (mem_ownRow hb).2 with rfl | ⟨_, hb⟩
    ·simp
    ·simp [hb], fun ve => nodup_ownRow fun _ => ⟨n1, n2⟩⟩
structure Ents (w : World) (S : List Nat) (L : List (Nat × GI × Ob)) : Prop where
 keys : (L.map (·.1)).Nodup
 row : ∀ x ∈ L, ∃ sz xs ve, x.2.2 = .row sz xs true false ve ∧ ∀ Av, RowR w Av x.2.1 sz xs true false
 sub : ∀ x ∈ L, ∀ b ∈ ownOf x.2.1 (some x.2.2), b ∈ S
 nd : ∀ x ∈ L, (ownOf x.2.1 (some x.2.2)).Nodup
 dis : ∀ x ∈ L, ∀ y ∈ L, ∀ b, b ∈ ownOf x.2.1 (some x.2.2) → b ∈ ownOf y.2.1 (some y.2.2) → x.1 = y.1
theorem Ents.cons {S S' : List Nat} {L : List (Nat × GI × Ob)} (h : Ents w S' L) {k : Nat} {gi : GI} {sz : Nat} {xs : List (List D)} {ve : Nat} (hk : k ∉ L.map (·.1)) (hr : ∀ Av, RowR w Av gi sz xs true false)
 (hs : ∀ b ∈ ownOf gi (some (.row sz xs true false ve)), b ∈ S) (hn : (ownOf gi (some (.row sz xs true false ve))).Nodup) (hd : ∀ b ∈ S, b ∉ S') : Ents w (S ++ S') ((k, gi, .row sz xs true false ve) :: L) := by
 refine ⟨?_, ?_, ?_, ?_, ?_⟩
 ·simp only [List.map_cons]; exact List.nodup_cons.2 ⟨hk, h.keys⟩
 ·intro x hx
  rcases List.mem_cons.1 hx with rfl | hx
  ·exact ⟨sz, xs, ve, rfl, hr⟩
  ·exact h.row x hx
 ·intro x hx b hb
  rcases List.mem_cons.1 hx with rfl | hx
  ·exact List.mem_append.2 (.inl (hs b hb))
  ·exact List.mem_append.2 (.inr (h.sub x hx b hb))
 ·intro x hx
  rcases List.mem_cons.1 hx with rfl | hx
  ·exact hn
  ·exact h.nd x hx
 ·intro x hx y hy b hb hb'
  rcases List.mem_cons.1 hx with rfl | hx <;> rcases List.mem_cons.1 hy with rfl | hy
  ·rfl
  ·exact absurd (h.sub y hy b hb') (hd b (hs b hb))
  ·exact absurd (h.sub x hx b hb) (hd b (hs b hb'))
  ·exact h.dis x hx y hy b hb hb'
theorem Ents.mono {S S' : List Nat} {L : List (Nat × GI × Ob)} (h : Ents w S L) (hs : ∀ b ∈ S, b ∈ S') : Ents w S' L :=
 ⟨h.keys, h.row, fun x hx b hb => hs b (h.sub x hx b hb), h.nd, h.dis⟩
theorem Ents.append {S S' : List Nat} {L L' : List (Nat × GI × Ob)} (h : Ents w S L) (h' : Ents w S' L') (hk : ∀ x ∈ L, ∀ y ∈ L', x.1 ≠ y.1) (hd : ∀ b ∈ S, b ∉ S') : Ents w (S ++ S') (L ++ L') := by
 refine ⟨?_, ?_, ?_, ?_, ?_⟩
 ·rw [List.map_append]
  refine List.nodup_append.2 ⟨h.keys, h'.keys, fun a ha b hb e => ?_⟩
  obtain ⟨x, hx, rfl⟩ := List.mem_map.1 ha
  obtain ⟨y, hy, rfl⟩ := List.mem_map.1 hb
  exact hk x hx y hy e
 ·intro x hx
  rcases List.mem_append.1 hx with hx | hx
  ·exact h.row x hx
  ·exact h'.row x hx
 ·intro x hx b hb
  rcases List.mem_append.1 hx with hx | hx
  ·exact List.mem_append.2 (.inl (h.sub x hx b hb))
  ·exact List.mem_append.2 (.inr (h'.sub x hx b hb))
 ·intro x hx
  rcases List.mem_append.1 hx with hx | hx
  ·exact h.nd x hx
  ·exact h'.nd x hx
 ·intro x hx y hy b hb hb'
  rcases List.mem_append.1 hx with hx | hx <;> rcases List.mem_append.1 hy with hy | hy
  ·exact h.dis x hx y hy b hb hb'
  ·exact absurd (h'.sub y hy b hb') (hd b (h.sub x hx b hb))
  ·exact absurd (h'.sub x hx b hb) (hd b (h.sub y hy b hb'))
  ·exact h'.dis x hx y hy b hb hb'
theorem Ents.nil (S : List Nat) : Ents w S [] := ⟨List.nodup_nil, by simp, by simp, by simp, by simp⟩
theorem adEnts : ∀ {vs : List Value} {ds : List D} {S : List Nat} (h : TrL w true vs ds S), S.Nodup → (∀ v ∈ vs, v.oneCell' = true) → ∀ k, ∃ L : List (Nat × GI × Ob),
 L.map (fun x => (x.1, x.2.2)) = adObs k ds ∧ (∀ x ∈ L, k ≤ x.1) ∧ Ents w S L ∧
 ∀ (G' : Nat → GI) (H' : Nat → Option Ob) (Av : Nat → Prop), (∀ x ∈ L, G' x.1 = x.2.1 ∧ H' x.1 = some x.2.2) → (∀ b ∈ S, Av b → ∃ x ∈ L, b ∈ ownOf x.2.1 (some x.2.2)) → AVRL w G' H' Av vs (adCells k ds)
 | _, _, _, .nil, _, _, k => ⟨[], rfl, by simp, .nil _, fun _ _ _ _ _ => .nil⟩
 | _, _, _, .cons v d S vs ds Ss h hs, hn, h1, k => by
  obtain ⟨n1, n2, n3⟩ := List.nodup_append.1 hn
  obtain ⟨L, e1, e2, e3, e4⟩ := adEnts hs n2 (fun u hu => h1 u (by simp [hu])) (k + 1)
  have other : (∀ sz xs, d ≠ .l sz xs) → adObs k (d :: ds) = adObs (k + 1) ds ∧ adCells k (d :: ds) = .d d :: adCells (k + 1) ds := by
   intro hd
   cases d <;> first | exact ⟨rfl, rfl⟩ | exact absurd rfl (hd _ _)
  by_cases hd : ∃ sz xs, d = .l sz xs
  ·obtain ⟨sz, xs, rfl⟩ := hd
   obtain ⟨gi, ad, r1, r2, r3, _, r4, r5⟩ := deepRow 0 0 h n1
   refine ⟨(k, gi, .row sz xs true false 0) :: L, by simp [adObs, e1], ?_, e3.cons (fun hm => ?_) r1 (r4 0) (r5 0) (fun b hb hb' => n3 b hb b hb' rfl), ?_⟩
   ·intro x hx
    rcases List.mem_cons.1 hx with rfl | hx
    ·exact Nat.le_refl _
    ·have := e2 x hx; omega
   ·obtain ⟨x, hx, rfl⟩ := List.mem_map.1 hm
    have := e2 x hx
    omega
   ·intro G' H' Av hL hAv
    obtain ⟨g1, g2⟩ := hL (k, gi, .row sz xs true false 0) (by simp)
    have g1 : G' k = gi := g1
    have g2 : H' k = some (.row sz xs true false 0) := g2
    refine .cons _ _ _ _ ?_ (e4 G' H' Av (fun x hx => hL x (by simp [hx])) fun b hb ha => ?_)
    ·subst r2
     have := AVR.r (w := w) (G := G') (H := H') (Av := Av) k sz xs true false 0 ad g2 (by rw [g1]; exact r3)
     rw [g1] at this
     exact this
    ·obtain ⟨x, hx, hm⟩ := hAv b (by simp [hb]) ha
     rcases List.mem_cons.1 hx with rfl | hx
     ·exact absurd rfl (n3 b (r4 0 b hm) b hb)
     ·exact ⟨x, hx, hm⟩
  ·obtain ⟨o1, o2⟩ := other fun sz xs e => hd ⟨sz, xs, e⟩
   refine ⟨L, by rw [o1, e1], fun x hx => by have := e2 x hx; omega, e3.mono fun b hb => by simp [hb], ?_⟩
   intro G' H' Av hL hAv
   rw [o2]
   refine .cons _ _ _ _ (.d v d S (h1 v (by simp)) h.shared fun b hb ha => ?_) (e4 G' H' Av hL fun b hb ha => hAv b (by simp [hb]) ha)
   obtain ⟨x, hx, hm⟩ := hAv b (by simp [hb]) ha
   exact n3 b hb b (e3.sub x hx b hm) rfl
end rel
end Go.Fs
namespace Go.Fs
open Go.RowKit
def borC (H : Nat → Option Ob) : AV → Option D
 | .d x => some x
 | .z sz => some (.l sz [])
 | .r k => match H k with
  | some (.row sz xs _ _ _) => some (.l sz xs)
  | _ => none
 | .m k ve i o => match H k with
  | some (.row sz xs _ _ ve') => if ve = ve' ∧ i < xs.length ∧ o < sz then some ((xs.getD i []).getD o .u) else none
  | _ => none
 | _ => none
def borCs (H : Nat → Option Ob) : List AV → Option (List D)
 | [] => some []
 | av :: avs => (borC H av).bind fun x => (borCs H avs).map (x :: ·)
def borB (H : Nat → Option Ob) : AV → Option D
 | .a k 0 => match H k with
  | some (.box cs) => (borCs H cs).map .p
  | _ => none
 | av => borC H av
def borBs (H : Nat → Option Ob) : List AV → Option (List D)
 | [] => some []
 | av :: avs => (borB H av).bind fun x => (borBs H avs).map (x :: ·)
def bor (H : Nat → Option Ob) : AV → Option D
 | .g cs => (borCs H cs).map .g
 | .f fn caps => (borBs H caps).map (.f fn)
 | av => borB H av
def borL (H : Nat → Option Ob) : List AV → Option (List D)
 | [] => some []
 | av :: avs => (bor H av).bind fun x => (borL H avs).map (x :: ·)
def keyC (H : Nat → Option Ob) : AV → List Nat
 | .r k => [k]
 | .m k _ _ _ => [k]
 | _ => []
def keyB (H : Nat → Option Ob) : AV → List Nat
 | .a k _ => match H k with
  | some (.box cs) => k :: cs.flatMap (keyC H)
  | _ => [k]
 | av => keyC H av
def keyA (H : Nat → Option Ob) : AV → List Nat
 | .g cs => cs.flatMap (keyC H)
 | .f _ caps => caps.flatMap (keyB H)
 | av => keyB H av
def ioCs (H : Nat → Option Ob) : List AV → Option (List D × List Nat)
 | [] => some ([], [])
 | .r k :: avs => match H k with
  | some (.row sz xs true false _) => (ioCs H avs).map fun y => (.l sz xs :: y.1, k :: y.2)
  | _ => none
 | .d x :: avs => if scal x then (ioCs H avs).map fun y => (x :: y.1, y.2) else none
 | .z sz :: avs => (ioCs H avs).map fun y => (.l sz [] :: y.1, y.2)
 | _ => none
def ioObs (H : Nat → Option Ob) : List AV → List D → Option (List (Nat × Ob))
 | [], [] => some []
 | .r k :: avs, .l sz' xs' :: ds => match H k with
  | some (.row sz xs true false ve) => if sz' = sz then (ioObs H avs ds).map ((k, .row sz xs' true false (ve + 1)) :: ·) else none
  | _ => none
 | .d x :: avs, d :: ds => ioObs H avs ds
 | _, _ => none
section rel
variable {P : Program} {T : Tab} {B : Ctx} {G : Nat → GI} {s : St} {a : Act} {w w' : World}
def Lent (B : Ctx) (G : Nat → GI) (H : Nat → Option Ob) (ks : List Nat) (S : List Nat) : Prop := ∀ b ∈ S, ¬ B.F b ∧ ∀ k, b ∈ ownOf (G k) (H k) → k ∈ ks
theorem Lent.append {H : Nat → Option Ob} {ks ks' S S' : List Nat} (h : Lent B G H ks S) (h' : Lent B G H ks' S') : Lent B G H (ks ++ ks') (S ++ S') := by
 intro b hb
 rcases List.mem_append.1 hb with hb | hb
 ·exact ⟨(h b hb).1, fun k hk => List.mem_append.2 (.inl ((h b hb).2 k hk))⟩
 ·exact ⟨(h' b hb).1, fun k hk => List.mem_append.2 (.inr ((h' b hb).2 k hk))⟩
theorem Lent.of {H : Nat → Option Ob} {ks S : List Nat} (h : ∀ b ∈ S, ¬ Ban B.F G H b) : Lent B G H ks S := fun b hb => ⟨fun hf => h b hb (.inr hf), fun k hk => absurd (.inl ⟨k, hk⟩) (h b hb)⟩
theorem borC_ok (h : RelG B G s a w) {v : Value} {av : AV} (hv : AVR w G s.heap (Ban B.F G s.heap) v av) {x : D} (hb : borC s.heap av = some x) :
 ∃ S, Tr w false v x S ∧ v.oneCell' = true ∧ Lent B G s.heap (keyC s.heap av) S := by
 have own : ∀ {k b : Nat}, b ∈ ownOf (G k) (s.heap k) → ¬ B.F b ∧ ∀ k', b ∈ ownOf (G k') (s.heap k') → k' ∈ [k] := fun {k b} hb => ⟨h.noF hb, fun k' hk' => by rw [h.disj k' k b hk' hb]; simp⟩
 cases hv with
 | d v x S h1 ht hS =>
  simp only [borC, Option.some.injEq] at hb
  subst hb
  exact ⟨S, ht, h1, .of hS⟩
 | z sz =>
  simp only [borC, Option.some.injEq] at hb
  subst hb
  exact ⟨[], .z _ _ _ (by simp), rfl, .of (by simp)⟩
 | r k sz xs dp fz ve ad hk ha =>
  simp only [borC, hk, Option.some.injEq] at hb
  subst hb
  have hR : RowR w (Ban B.F G s.heap) (G k) sz xs dp fz := h.obj k _ hk
  obtain ⟨S, t1, t2, _⟩ := hR.whole ha
  refine ⟨S, t1.shared, rfl, fun b hb => ?_⟩
  obtain ⟨hc, hb⟩ := t2 b hb
  have free : ¬ Ban B.F G s.heap b → ¬ B.F b ∧ ∀ k', b ∈ ownOf (G k') (s.heap k') → k' ∈ [k] := fun hn => ⟨fun hf => hn (.inr hf), fun k' hk' => absurd (.inl ⟨k', hk'⟩) hn⟩
  cases fz with
  | true =>
   rcases List.mem_cons.1 hb with rfl | hb
   ·exact free (hR.frz rfl (by omega))
   ·exact free (hR.sub (.inr rfl) b hb)
  | false =>
   rcases List.mem_cons.1 hb with rfl | hb
   ·exact own (by rw [hk]; simp [ownOf, hc])
   ·cases dp with
    | true => exact own (by rw [hk]; simp [ownOf, hc, hb])
    | false => exact free (hR.sub (.inl rfl) b hb)
 | m k i o sz xs dp fz ve v z ys hk hj hvj h1 =>
  simp only [borC, hk] at hb
  split at hb
  case isFalse => cases hb
  rename_i hc
  simp only [Option.some.injEq] at hb
  subst hb
  have hR : RowR w (Ban B.F G s.heap) (G k) sz xs dp fz := h.obj k _ hk
  obtain ⟨x, hx⟩ : ∃ x, xs[i]? = some x := ⟨_, List.getElem?_eq_getElem hc.2.1⟩
  have hgd : xs.getD i [] = x := by rw [List.getD_eq_getElem?_getD, hx]; rfl
  have hfx := flat_get hR.uni hx hc.2.2
  rw [hfx] at hj
  have hgo : x.getD o .u = .l z ys := by rw [List.getD_eq_getElem?_getD, hj]; rfl
  rw [hgd, hgo]
  obtain ⟨u, S1, hu, ht, hS, _⟩ := hR.tr.get (hfx.trans hj)
  rw [hvj] at hu
  cases hu
  refine ⟨S1, ht.shared, h1, fun b hb => ?_⟩
  have hb := hS b hb
  have hc0 : (G k).cap ≠ 0 := fun hc => by rw [(hR.void hc).2.2] at hb; simp at hb
  have free : ¬ Ban B.F G s.heap b → ¬ B.F b ∧ ∀ k', b ∈ ownOf (G k') (s.heap k') → k' ∈ [k] := fun hn => ⟨fun hf => hn (.inr hf), fun k' hk' => absurd (.inl ⟨k', hk'⟩) hn⟩
  cases fz with
  | true => exact free (hR.sub (.inr rfl) b hb)
  | false =>
   cases dp with
   | true => exact own (by rw [hk]; simp [ownOf, hc0, hb])
   | false => exact free (hR.sub (.inl rfl) b hb)
 | mo k i o sz xs dp fz ve ve' v hk hlt =>
  simp only [borC, hk] at hb
  split at hb
  ·rename_i hc; omega
  ·cases hb
 | rd k v hk => simp [borC, hk] at hb
 | md k ve i o v hk => simp [borC, hk] at hb
 | _ => simp [borC] at hb
theorem borCs_ok (h : RelG B G s a w) : ∀ {vs : List Value} {avs : List AV} (hv : AVRL w G s.heap (Ban B.F G s.heap) vs avs) {ds : List D} (hb : borCs s.heap avs = some ds),
 ∃ S, TrL w false vs ds S ∧ (∀ v ∈ vs, v.oneCell' = true) ∧ Lent B G s.heap (avs.flatMap (keyC s.heap)) S
 | _, _, .nil, ds, hb => by
  simp only [borCs, Option.some.injEq] at hb
  subst hb
  exact ⟨[], .nil, by simp, .of (by simp)⟩
 | _, _, .cons v av vs avs hv hvs, ds, hb => by
  simp only [borCs, Option.bind_eq_some_iff, Option.map_eq_some_iff] at hb
  obtain ⟨x, hx, ds', hd, rfl⟩ := hb
  obtain ⟨S, t, o, l⟩ := borC_ok h hv hx
  obtain ⟨S', t', o', l'⟩ := borCs_ok h hvs hd
  refine ⟨S ++ S', .cons _ _ _ _ _ _ t t', ?_, l.append l'⟩
  intro u hu
  rcases List.mem_cons.1 hu with rfl | hu
  ·exact o
  ·exact o' u hu
theorem borB_ok (h : RelG B G s a w) {v : Value} {av : AV} (hv : AVR w G s.heap (Ban B.F G s.heap) v av) {x : D} (hb : borB s.heap av = some x) :
 ∃ S, Tr w false v x S ∧ v.oneCell' = true ∧ Lent B G s.heap (keyB s.heap av) S := by
 unfold borB at hb
 split at hb
 ·rename_i k
  split at hb
  case h_2 => cases hb
  rename_i cs hk
  simp only [Option.map_eq_some_iff] at hb
  obtain ⟨ds, hd, rfl⟩ := hb
  cases hv with
  | a _ _ cs' hk' =>
   obtain ⟨cur, e, hg, hr, h1⟩ := (h.obj k _ hk : BoxR w G s.heap _ (G k) cs).cells
   obtain ⟨S, t, _, l⟩ := borCs_ok h hr hd
   refine ⟨(G k).blk :: S, .p _ 0 cur e (0, 0) cur.toList ds S hg (fun j v hj => by simpa using hj) h1 (by simp) t, rfl, ?_⟩
   simp only [keyB, hk]
   have hown : (G k).blk ∈ ownOf (G k) (s.heap k) := by rw [hk]; simp [ownOf]
   exact Lent.append (ks := [k]) (S := [(G k).blk]) (fun b hb => by
    obtain rfl : b = (G k).blk := by simpa using hb
    exact ⟨h.noF hown, fun k' hk' => by rw [h.disj k' k _ hk' hown]; simp⟩) l
  | ad _ _ _ hk' => rw [hk] at hk'; cases hk'
 ·have := borC_ok h hv hb
  obtain ⟨S, t, o, l⟩ := this
  refine ⟨S, t, o, ?_⟩
  unfold keyB
  split
  ·simp [borC] at hb
  ·exact l
theorem borBs_ok (h : RelG B G s a w) : ∀ {vs : List Value} {avs : List AV} (hv : AVRL w G s.heap (Ban B.F G s.heap) vs avs) {ds : List D} (hb : borBs s.heap avs = some ds),
 ∃ S, TrL w false vs ds S ∧ (∀ v ∈ vs, v.oneCell' = true) ∧ Lent B G s.heap (avs.flatMap (keyB s.heap)) S
 | _, _, .nil, ds, hb => by
  simp only [borBs, Option.some.injEq] at hb
  subst hb
  exact ⟨[], .nil, by simp, .of (by simp)⟩
 | _, _, .cons v av vs avs hv hvs, ds, hb => by
  simp only [borBs, Option.bind_eq_some_iff, Option.map_eq_some_iff] at hb
  obtain ⟨x, hx, ds', hd, rfl⟩ := hb
  obtain ⟨S, t, o, l⟩ := borB_ok h hv hx
  obtain ⟨S', t', o', l'⟩ := borBs_ok h hvs hd
  refine ⟨S ++ S', .cons _ _ _ _ _ _ t t', ?_, l.append l'⟩
  intro u hu
  rcases List.mem_cons.1 hu with rfl | hu
  ·exact o
  ·exact o' u hu
theorem flat_one {v : Value} (h : v.oneCell' = true) : Flat v := by
 intro u hu
 have hc : v.cells = #[v] := by cases v <;> simp_all [Value.cells, Value.oneCell']
 rw [hc] at hu
 obtain rfl : u = v := by simpa using hu
 exact h
theorem bor_ok (h : RelG B G s a w) {v : Value} {av : AV} (hv : AVR w G s.heap (Ban B.F G s.heap) v av) {x : D} (hb : bor s.heap av = some x) :
 ∃ S, Tr w false v x S ∧ Flat v ∧ Lent B G s.heap (keyA s.heap av) S := by
 unfold bor at hb
 split at hb
 ·simp only [Option.map_eq_some_iff] at hb
  obtain ⟨ds, hd, rfl⟩ := hb
  cases hv with
  | g cs _ hcs =>
   obtain ⟨S, t, o, l⟩ := borCs_ok h hcs hd
   exact ⟨S, .g _ _ _ t, o, l⟩
 ·simp only [Option.map_eq_some_iff] at hb
  obtain ⟨ds, hd, rfl⟩ := hb
  cases hv with
  | f fn cs _ hcs =>
   obtain ⟨S, t, o, l⟩ := borBs_ok h hcs hd
   exact ⟨S, .f _ _ _ _ t, flat_one rfl, l⟩
 ·obtain ⟨S, t, o, l⟩ := borB_ok h hv hb
  refine ⟨S, t, flat_one o, ?_⟩
  unfold keyA
  split
  ·simp [borB, borC] at hb
  ·simp [borB, borC] at hb
  ·exact l
theorem borL_ok (h : RelG B G s a w) : ∀ {vs : List Value} {avs : List AV} (hv : AVRL w G s.heap (Ban B.F G s.heap) vs avs) {ds : List D} (hb : borL s.heap avs = some ds),
 ∃ S, ArgsR w vs (ds.map .d) S [] ∧ Lent B G s.heap (avs.flatMap (keyA s.heap)) S
 | _, _, .nil, ds, hb => by
  simp only [borL, Option.some.injEq] at hb
  subst hb
  exact ⟨[], .nil, .of (by simp)⟩
 | _, _, .cons v av vs avs hv hvs, ds, hb => by
  simp only [borL, Option.bind_eq_some_iff, Option.map_eq_some_iff] at hb
  obtain ⟨x, hx, ds', hd, rfl⟩ := hb
  obtain ⟨S, t, o, l⟩ := bor_ok h hv hx
  obtain ⟨S', t', l'⟩ := borL_ok h hvs hd
  exact ⟨S ++ S', .d _ _ _ _ _ _ _ t o t', l.append l'⟩
theorem ioCs_ok (h : RelG B G s a w) : ∀ {vs : List Value} {avs : List AV} (hv : AVRL w G s.heap (Ban B.F G s.heap) vs avs) {ds : List D} {ks : List Nat} (hb : ioCs s.heap avs = some (ds, ks)),
 ∃ S, TrL w true vs ds S ∧ (∀ v ∈ vs, v.oneCell' = true) ∧ (∀ b ∈ S, ∃ k ∈ ks, b ∈ ownOf (G k) (s.heap k)) ∧ (ks.Nodup → S.Nodup) ∧ ∀ k ∈ ks, s.heap k ≠ none
 | _, _, .nil, ds, ks, hb => by
  simp only [ioCs, Option.some.injEq, Prod.mk.injEq] at hb
  obtain ⟨rfl, rfl⟩ := hb
  exact ⟨[], .nil, by simp, by simp, fun _ => List.nodup_nil, by simp⟩
 | _, _, .cons v av vs avs hv hvs, ds, ks, hb => by
  cases av with
  | r k =>
   simp only [ioCs] at hb
   split at hb
   case h_2 => cases hb
   rename_i sz xs ve hk
   simp only [Option.map_eq_some_iff, Prod.mk.injEq] at hb
   obtain ⟨⟨ds', ks'⟩, hd, rfl, rfl⟩ := hb
   obtain ⟨S', t', o', w', n', k'⟩ := ioCs_ok h hvs hd
   cases hv with
   | r _ sz0 xs0 dp0 fz0 ve0 ad hk0 ha =>
    rw [hk] at hk0
    cases hk0
    have hR : RowR w (Ban B.F G s.heap) (G k) sz xs true false := h.obj k _ hk
    obtain ⟨S, t1, t2, t3⟩ := hR.whole ha
    have hin : ∀ b ∈ S, b ∈ ownOf (G k) (s.heap k) := fun b hb => by
     obtain ⟨hc, hb⟩ := t2 b hb
     rw [hk]
     simpa [ownOf, hc] using hb
    refine ⟨S ++ S', .cons _ _ _ _ _ _ t1 t', ?_, ?_, ?_, ?_⟩
    ·intro u hu
     rcases List.mem_cons.1 hu with rfl | hu
     ·rfl
     ·exact o' u hu
    ·intro b hb
     rcases List.mem_append.1 hb with hb | hb
     ·exact ⟨k, by simp, hin b hb⟩
     ·obtain ⟨i, hi, hm⟩ := w' b hb
      exact ⟨i, by simp [hi], hm⟩
    ·intro hn
     obtain ⟨h1, h2⟩ := List.nodup_cons.1 hn
     refine List.nodup_append.2 ⟨?_, n' h2, ?_⟩
     ·by_cases hc : (G k).cap = 0
      ·have : S = [] := List.eq_nil_iff_forall_not_mem.2 fun b hb => (t2 b hb).1 hc
       rw [this]; exact List.nodup_nil
      ·have hnd := h.nodup k
       rw [hk] at hnd
       simp only [ownOf, if_true, hc, if_false] at hnd
       exact t3 rfl (List.nodup_cons.1 hnd).1
     ·intro b hb c hc e
      subst e
      obtain ⟨i, hi, hm⟩ := w' b hc
      have := h.disj i k b hm (hin b hb)
      subst this
      exact h1 hi
    ·intro i hi
     rcases List.mem_cons.1 hi with rfl | hi
     ·rw [hk]; simp
     ·exact k' i hi
   | rd _ _ hk0 => rw [hk] at hk0; cases hk0
  | d x =>
   simp only [ioCs] at hb
   split at hb
   case isFalse => cases hb
   rename_i hsc
   simp only [Option.map_eq_some_iff, Prod.mk.injEq] at hb
   obtain ⟨⟨ds', ks'⟩, hd, rfl, rfl⟩ := hb
   obtain ⟨S', t', o', w', n', k'⟩ := ioCs_ok h hvs hd
   cases hv with
   | d _ _ S h1 ht hS =>
    obtain ⟨_, hany, _⟩ := scal_tr ht hsc
    refine ⟨[] ++ S', .cons _ _ _ _ _ _ (hany w true) t', ?_, by simpa using w', by simpa using n', k'⟩
    intro u hu
    rcases List.mem_cons.1 hu with rfl | hu
    ·exact h1
    ·exact o' u hu
  | z sz =>
   simp only [ioCs, Option.map_eq_some_iff, Prod.mk.injEq] at hb
   obtain ⟨⟨ds', ks'⟩, hd, rfl, rfl⟩ := hb
   obtain ⟨S', t', o', w', n', k'⟩ := ioCs_ok h hvs hd
   cases hv with
   | z =>
    refine ⟨[] ++ S', .cons _ _ _ _ _ _ (.z none 0 sz (fun _ => rfl)) t', ?_, by simpa using w', by simpa using n', k'⟩
    intro u hu
    rcases List.mem_cons.1 hu with rfl | hu
    ·rfl
    ·exact o' u hu
  | _ => simp [ioCs] at hb
theorem ioEnts (h : RelG B G s a w) : ∀ {vs : List Value} {avs : List AV} (hv : AVRL w G s.heap (Ban B.F G s.heap) vs avs) {ds : List D} {ks : List Nat} (hb : ioCs s.heap avs = some (ds, ks)) (hks : ks.Nodup)
 {ds' : List D} {S : List Nat} (ht : TrL w' true vs ds' S) (hn : S.Nodup) {os : List (Nat × Ob)} (ho : ioObs s.heap avs ds' = some os),
 ∃ L : List (Nat × GI × Ob), L.map (fun x => (x.1, x.2.2)) = os ∧ L.map (·.1) = ks ∧ Ents w' S L ∧ ∀ x ∈ L, ∀ o, s.heap x.1 = some o → Ob.to (G x.1) x.2.1 o x.2.2
 | _, _, .nil, ds, ks, hb, hks, ds', S, ht, hn, os, ho => by
  simp only [ioCs, Option.some.injEq, Prod.mk.injEq] at hb
  obtain ⟨rfl, rfl⟩ := hb
  cases ht
  simp only [ioObs, Option.some.injEq] at ho
  subst ho
  exact ⟨[], rfl, rfl, .nil _, by simp⟩
 | _, _, .cons v av vs avs hv hvs, ds, ks, hb, hks, ds', S, ht, hn, os, ho => by
  cases ht with
  | cons _ d S1 _ ds1 S2 ht hts =>
  obtain ⟨n1, n2, n3⟩ := List.nodup_append.1 hn
  cases av with
  | r k =>
   simp only [ioCs] at hb
   split at hb
   case h_2 => cases hb
   rename_i sz xs ve hk
   simp only [Option.map_eq_some_iff, Prod.mk.injEq] at hb
   obtain ⟨⟨ds0, ks0⟩, hd, rfl, rfl⟩ := hb
   obtain ⟨k1, k2⟩ := List.nodup_cons.1 hks
   cases d with
   | l sz' xs' =>
    simp only [ioObs, hk] at ho
    split at ho
    case isFalse => cases ho
    rename_i e
    subst e
    simp only [Option.map_eq_some_iff] at ho
    obtain ⟨os', ho', rfl⟩ := ho
    obtain ⟨L, e1, e2, e3, e4⟩ := ioEnts h hvs hd k2 hts n2 ho'
    cases hv with
    | r _ sz0 xs0 dp0 fz0 ve0 ad hk0 ha =>
     rw [hk] at hk0
     cases hk0
     obtain ⟨gi, ad', r1, r2, r3, r6, r4, r5⟩ := deepRow (G k).blk (G k).off ht n1
     simp only [Value.slice.injEq] at r2
     obtain ⟨rfl, r7, r8⟩ := r2
     refine ⟨(k, gi, .row sz' xs' true false (ve + 1)) :: L, by simp [e1], by simp [e2], e3.cons (by rw [e2]; exact k1) r1 (r4 _) (r5 _) (fun b hb hb' => n3 b hb b hb' rfl), ?_⟩
     intro x hx o hxo
     rcases List.mem_cons.1 hx with rfl | hx
     ·simp only at hxo ⊢
      rw [hk] at hxo
      cases hxo
      by_cases hc : (G k).cap = 0
      ·obtain ⟨q1, q2⟩ := r6 (by omega)
       exact .row _ _ _ _ _ _ _ _ _ r7.symm q1 q2 r8.symm (.inl (Nat.lt_succ_self _))
      ·have h1 := ha (by omega)
       have h2 := r3 (by omega)
       rw [h1] at h2
       simp only [Option.some.injEq, Addr.mk.injEq] at h2
       exact .row _ _ _ _ _ _ _ _ _ r7.symm h2.1.symm h2.2.1.symm r8.symm (.inl (Nat.lt_succ_self _))
     ·exact e4 x hx o hxo
    | rd _ _ hk0 => rw [hk] at hk0; cases hk0
   | _ => simp [ioObs] at ho
  | d x =>
   simp only [ioCs] at hb
   split at hb
   case isFalse => cases hb
   simp only [Option.map_eq_some_iff, Prod.mk.injEq] at hb
   obtain ⟨⟨ds0, ks0⟩, hd, rfl, rfl⟩ := hb
   simp only [ioObs] at ho
   obtain ⟨L, e1, e2, e3, e4⟩ := ioEnts h hvs hd hks hts n2 ho
   exact ⟨L, e1, e2, e3.mono fun b hb => by simp [hb], e4⟩
  | z sz => simp [ioObs] at ho
  | _ => simp [ioCs] at hb
end rel
end Go.Fs
namespace Go.Fs
open Go.RowKit
def ioD (av : AV) (ds : List D) : D :=
 match av with
 | .g _ => .g ds
 | _ => ds.headD .u
def ioIn (io : Option AV) (ds : List D) : List In :=
 match io with
 | some av => [.io (ioD av ds)]
 | none => []
def ioCells (io : Option AV) : List AV :=
 match io with
 | some av => cellsA av
 | none => []
def ioOut (io : Option D) : List D :=
 match io with
 | some x => cellsD x
 | none => []
section rel
variable {P : Program} {T : Tab} {B : Ctx} {G : Nat → GI} {s : St} {a : Act} {w w' : World}
theorem ovG_in {L : List (Nat × GI × Ob)} (hk : (L.map (·.1)).Nodup) {x : Nat × GI × Ob} (hx : x ∈ L) : ovG (L.map fun x => (x.1, x.2.1)) G x.1 = x.2.1 := by
 have hk1 : ((L.map fun x => (x.1, x.2.1)).map (·.1)).Nodup := by rw [List.map_map]; exact hk
 simp only [ovG, lookup_of_mem hk1 (List.mem_map.2 ⟨x, hx, rfl⟩)]
theorem ovr_in {H : Nat → Option Ob} {L : List (Nat × GI × Ob)} (hk : (L.map (·.1)).Nodup) {x : Nat × GI × Ob} (hx : x ∈ L) : ovr (L.map fun x => (x.1, x.2.2)) H x.1 = some x.2.2 := by
 have hk1 : ((L.map fun x => (x.1, x.2.2)).map (·.1)).Nodup := by rw [List.map_map]; exact hk
 simp only [ovr, lookup_of_mem hk1 (List.mem_map.2 ⟨x, hx, rfl⟩)]
theorem ovG_out {L : List (Nat × GI × Ob)} {k : Nat} (hk : k ∉ L.map (·.1)) : ovG (L.map fun x => (x.1, x.2.1)) G k = G k := by
 simp only [ovG]; rw [lookup_none (by rw [List.map_map]; exact hk)]
theorem ovr_out {H : Nat → Option Ob} {L : List (Nat × GI × Ob)} {k : Nat} (hk : k ∉ L.map (·.1)) : ovr (L.map fun x => (x.1, x.2.2)) H k = H k := by
 simp only [ovr]; rw [lookup_none (by rw [List.map_map]; exact hk)]
theorem Does.mono {f : FuncId} {args : Array Value} {R R' : Value → World → Prop} (h : Does P f args w R) (hr : ∀ v w', R v w' → R' v w') : Does P f args w R' := by
 rcases h with ⟨h1, h2⟩ | ⟨v, w', h1, h2⟩
 ·refine .inl ⟨h1, h2.mono fun e w' he => ?_⟩
  cases e with
  | returned v => exact hr _ _ he
  | panicked c => exact he
  | outgrown => exact he
 ·exact .inr ⟨v, w', h1, hr _ _ h2⟩
theorem cells_tr {own : Bool} {v : Value} {x : D} {S : List Nat} (h : Tr w own v x S) (hf : Flat v) : TrL w own v.cells.toList (cellsD x) S := by
 have one : (∀ cs, v ≠ .agg cs) → (∀ ds, x ≠ .g ds) → TrL w own v.cells.toList (cellsD x) S := by
  intro h1 h2
  have e1 : v.cells = #[v] := by cases v <;> first | rfl | exact absurd rfl (h1 _)
  have e2 : cellsD x = [x] := by cases x <;> first | rfl | exact absurd rfl (h2 _)
  rw [e1, e2]
  have := TrL.cons v x S [] [] [] h .nil
  simpa using this
 cases h with
 | g cs ds S h => exact h
 | _ => exact one (by intros; simp) (by intros; simp)
theorem parts_tr {own : Bool} {v : Value} {x : D} {S : List Nat} (h : Tr w own v x S) (hf : RetFlat v) : ∃ vs, TrL w own vs (partsD x) S ∧ (∀ u ∈ vs, u.oneCell' = true) ∧
 ∀ {G : Nat → GI} {H : Nat → Option Ob} {Av : Nat → Prop} {avs : List AV}, AVRL w G H Av vs avs → AVR w G H Av v (retAV x avs) := by
 have one : ∀ {v : Value} {x : D} {S : List Nat}, Tr w own v x S → Flat v → (∀ vs, x ≠ .t vs) → ∀ {G : Nat → GI} {H : Nat → Option Ob} {Av : Nat → Prop} {avs : List AV} {us : List Value} {bs : List AV}, AVRL w G H Av (v.cells.toList ++ us) avs → AVR w G H Av v (oneAV x avs) ∧ AVRL w G H Av us (avs.drop (cellsD x).length) := by
  intro v x S h hf hx G H Av avs us bs ha
  have hl := (cells_tr h hf).length
  have h1 := ha.take v.cells.toList.length
  have h2 := ha.drop v.cells.toList.length
  rw [List.take_left] at h1
  rw [List.drop_left] at h2
  rw [hl] at h1 h2
  refine ⟨?_, h2⟩
  cases h with
  | g cs ds S h => exact .g _ _ h1
  | t vs ds S h => exact absurd rfl (hx _)
  | _ =>
   simp only [cellsD, List.length_singleton] at h1
   simp only [oneAV]
   cases avs with
   | nil => cases h1
   | cons a as =>
    simp only [List.take_succ_cons, List.take_zero] at h1
    cases h1 with
    | cons _ _ _ _ h _ => exact h
 by_cases hx : ∃ vs, x = .t vs
 ·obtain ⟨ds, rfl⟩ := hx
  cases h with
  | t vs _ _ hs =>
   have hfl : ∀ u ∈ vs.toList, Flat u := by
    rcases hf with hf | ⟨us, e, hf⟩
    ·have := hf (.tuple vs) (by simp [Value.cells])
     simp [Value.oneCell'] at this
    ·cases e; exact hf
   have key : ∀ {us : List Value} {ds : List D} {S : List Nat}, TrL w own us ds S → (∀ u ∈ us, Flat u) → (∀ d ∈ ds, ∀ vs, d ≠ .t vs) →
    TrL w own (us.flatMap fun u => u.cells.toList) (ds.flatMap cellsD) S ∧
    ∀ {G : Nat → GI} {H : Nat → Option Ob} {Av : Nat → Prop} {avs : List AV}, AVRL w G H Av (us.flatMap fun u => u.cells.toList) avs → AVRL w G H Av us (tupAV ds avs) := by
    intro us ds S h
    induction h using TrL.rec (motive_1 := fun _ _ _ _ => True) with
    | nil => intro _ _; exact ⟨.nil, fun _ => .nil⟩
    | cons v d S us ds Ss h hs _ ih =>
     intro hf hd
     obtain ⟨i1, i2⟩ := ih (fun u hu => hf u (by simp [hu])) fun d' hd' => hd d' (by simp [hd'])
     refine ⟨by simpa using (cells_tr h (hf v (by simp))).append i1, fun {G H Av avs} ha => ?_⟩
     rw [List.flatMap_cons] at ha
     obtain ⟨o1, o2⟩ := one h (hf v (by simp)) (hd d (by simp)) (bs := []) ha
     exact .cons _ _ _ _ o1 (i2 o2)
    | _ => trivial
   have hnt : ∀ d ∈ ds, ∀ vs, d ≠ .t vs := by
    intro d hd vs' e
    subst e
    obtain ⟨j, hj, hjd⟩ := List.mem_iff_getElem.1 hd
    obtain ⟨u, S1, hu, ht, _⟩ := hs.get (j := j) (d := .t vs') (by rw [List.getElem?_eq_getElem hj, hjd])
    cases ht with
    | t us _ _ _ =>
     have := hfl _ (List.mem_of_getElem? hu) (.tuple us) (by simp [Value.cells])
     simp [Value.oneCell'] at this
   obtain ⟨k1, k2⟩ := key hs hfl hnt
   exact ⟨_, k1, fun u hu => by
    obtain ⟨v, hv, hu⟩ := List.mem_flatMap.1 hu
    exact hfl v hv u hu, fun ha => .t _ _ (k2 ha)⟩
 ·have hnx : ∀ vs, x ≠ .t vs := fun vs e => hx ⟨vs, e⟩
  have hfl : Flat v := by
   rcases hf with hf | ⟨us, rfl, hf⟩
   ·exact hf
   ·cases h; exact absurd rfl (hnx _)
  have hp : partsD x = cellsD x := by cases x <;> first | rfl | exact absurd rfl (hnx _)
  have hr : ∀ avs, retAV x avs = oneAV x avs := by intro avs; cases x <;> first | rfl | exact absurd rfl (hnx _)
  rw [hp]
  refine ⟨_, cells_tr h hfl, hfl, fun {G H Av avs} ha => ?_⟩
  rw [hr]
  exact (one h hfl hnx (us := []) (bs := []) (by simpa using ha)).1
theorem call_own (h : RelG B G s a w) {f : FuncId} {io : Option AV} {iov : Option Value} (hio : ∀ av, io = some av → ∃ v, iov = some v ∧ AVR w G s.heap (Ban B.F G s.heap) v av) (hio0 : io = none → iov = none)
 {rest : List AV} {vs : List Value} (hrest : AVRL w G s.heap (Ban B.F G s.heap) vs rest) {ds0 : List D} {ks : List Nat} (hic : ioCs s.heap (ioCells io) = some (ds0, ks)) {ds : List D} (hb : borL s.heap rest = some ds)
 (hks : ks.Nodup) (hdis : ∀ k ∈ ks, k ∉ rest.flatMap (keyA s.heap)) {out : Ret} (hf : FnOK P f (ioIn io ds0 ++ ds.map .d) out) (hdeep : out.deep = true) (hoi : out.io.isSome = io.isSome)
 {key : Nat} (hfree : ∀ x ∈ adObs key (partsD out.ret), s.heap x.1 = none) {os : List (Nat × Ob)} (hos : ioObs s.heap (ioCells io) (ioOut out.io) = some os) :
 Does P f (iov.toList ++ vs).toArray w fun v w' => ∃ G', RelG B G' { s with heap := ovr (os ++ adObs key (partsD out.ret)) s.heap } a w' ∧
  AVR w' G' (ovr (os ++ adObs key (partsD out.ret)) s.heap) (Ban B.F G' (ovr (os ++ adObs key (partsD out.ret)) s.heap)) v (retAV out.ret (adCells key (partsD out.ret))) := by
 -- what is handed
 have hcells : AVRL w G s.heap (Ban B.F G s.heap) ((iov.toList).flatMap fun v => v.cells.toList) (ioCells io) ∧ (∀ v ∈ iov.toList, Flat v) ∧ ∀ S, TrL w true ((iov.toList).flatMap fun v => v.cells.toList) ds0 S → ∀ Sd, ArgsR w vs (ds.map .d) Sd [] → ArgsR w (iov.toList ++ vs) (ioIn io ds0 ++ ds.map .d) Sd S := by
  cases io with
  | none =>
   rw [hio0 rfl]
   refine ⟨.nil, by simp, fun S hS Sd ha => ?_⟩
   cases hS
   exact ha
  | some av =>
   obtain ⟨v, rfl, hv⟩ := hio av rfl
   have hc : AVRL w G s.heap (Ban B.F G s.heap) v.cells.toList (cellsA av) ∧ Flat v ∧ ∀ S, TrL w true v.cells.toList ds0 S → Tr w true v (ioD av ds0) S := by
    cases hav : av with
    | g cs =>
     subst hav
     cases hv with
     | g us _ hus =>
      obtain ⟨_, _, o, _⟩ := ioCs_ok h hus hic
      exact ⟨hus, o, fun S hS => .g _ _ _ hS⟩
    | _ =>
     subst hav
     simp only [ioCells, cellsA] at hic
     obtain ⟨_, ht, o, _⟩ := ioCs_ok h (.cons _ _ _ _ hv .nil) hic
     have o1 := o v (by simp)
     have hc1 : v.cells = #[v] := by cases v <;> simp_all [Value.cells, Value.oneCell']
     rw [hc1]
     refine ⟨.cons _ _ _ _ hv .nil, flat_one o1, fun S hS => ?_⟩
     cases hS with
     | cons _ d S1 _ ds1 S2 h1 h2 =>
      cases h2
      simpa [ioD] using h1
   refine ⟨by simpa [ioCells] using hc.1, by simpa using hc.2.1, fun S hS Sd ha => ?_⟩
   have := ArgsR.io v _ S vs _ Sd [] (hc.2.2 S (by simpa using hS)) hc.2.1 ha
   simpa [ioIn] using this
 obtain ⟨hcv, hfl, hargs⟩ := hcells
 obtain ⟨S, t1, t2, t3, t4, t5⟩ := ioCs_ok h hcv hic
 obtain ⟨Sd, u1, u2⟩ := borL_ok h hrest hb
 refine (hf w _ Sd S (h.knW fun b hb => by obtain ⟨k, _, hm⟩ := t3 b hb; exact ⟨k, hm⟩) (hargs S t1 Sd u1) (t4 hks) fun b hb hbd => ?_).mono fun v w' hp => ?_
 ·obtain ⟨k, hk, hm⟩ := t3 b hb
  exact hdis k hk ((u2 b hbd).2 k hm)
 obtain ⟨hr, hkeep, S', Si, r1, r2, r3, r4, r5, r6, r7, _⟩ := hp
 rw [hdeep] at r1
 obtain ⟨r7, r8⟩ := r7 hdeep
 -- what was handed, now
 have hio' : TrL w' true ((iov.toList).flatMap fun v => v.cells.toList) (ioOut out.io) Si := by
  cases hoo : out.io with
  | none =>
   rw [hoo] at r3 hoi
   cases io with
   | some _ => simp at hoi
   | none =>
    rw [hio0 rfl]
    have : Si = [] := r3
    subst this
    exact .nil
  | some x =>
   rw [hoo] at r3 hoi
   cases io with
   | none => simp at hoi
   | some av =>
    obtain ⟨v0, rfl, _⟩ := hio av rfl
    obtain ⟨v1, vs1, e, ht⟩ := r3
    simp only [Option.toList_some, List.singleton_append, List.cons.injEq] at e
    obtain ⟨rfl, rfl⟩ := e
    have := cells_tr ht (hfl v0 (by simp))
    simpa [ioOut] using this
 obtain ⟨L1, a1, a2, a3, a4⟩ := ioEnts h hcv hic hks hio' r4 hos
 obtain ⟨us, p1, p2, p3⟩ := parts_tr r1 r2
 obtain ⟨L2, b1, b2, b3, b4⟩ := adEnts p1 r7 p2 key
 have hkk : ∀ x ∈ L1, ∀ y ∈ L2, x.1 ≠ y.1 := by
  intro x hx y hy e
  have h1 : x.1 ∈ ks := by rw [← a2]; exact List.mem_map.2 ⟨x, hx, rfl⟩
  have h2 := hfree (y.1, y.2.2) (by rw [← b1]; exact List.mem_map.2 ⟨y, hy, rfl⟩)
  exact t5 x.1 h1 (by rw [e]; exact h2)
 have hE := a3.append b3 hkk fun b hb hb' => r6 b hb' hb
 have hM : ∀ b ∈ S, ∃ x ∈ L1 ++ L2, b ∈ ownOf (G x.1) (s.heap x.1) := fun b hb => by
  obtain ⟨k, hk, hm⟩ := t3 b hb
  rw [← a2] at hk
  obtain ⟨x, hx, rfl⟩ := List.mem_map.1 hk
  exact ⟨x, by simp [hx], hm⟩
 have hfresh : ∀ b ∈ Si ++ S', (∃ y ∈ L1 ++ L2, b ∈ ownOf (G y.1) (s.heap y.1)) ∨ w.heap.size ≤ b := by
  intro b hb
  have : w.heap.size ≤ b ∨ b ∈ S := by
   rcases List.mem_append.1 hb with hb | hb
   ·exact r5 b hb
   ·exact r8 b hb
  rcases this with h1 | h1
  ·exact .inr h1
  ·exact .inl (hM b h1)
 obtain ⟨hrel, havr⟩ := h.steps (L1 ++ L2) hE.keys hr (fun b hb hn => hkeep b hb fun hbS => by
  obtain ⟨x, hx, hm⟩ := hM b hbS
  exact hn x hx hm) (fun x hx o ho => by
  rcases List.mem_append.1 hx with hx | hx
  ·exact a4 x hx o ho
  ·have := hfree (x.1, x.2.2) (by rw [← b1]; exact List.mem_map.2 ⟨x, hx, rfl⟩)
   rw [ho] at this; cases this) (fun x hx b hb => hfresh b (hE.sub x hx b hb)) hE.nd hE.dis (fun x hx => by
  obtain ⟨sz, xs, ve, e, hR⟩ := hE.row x hx
  rw [e]
  exact hR _)
 have hmapO : (L1 ++ L2).map (fun x => (x.1, x.2.2)) = os ++ adObs key (partsD out.ret) := by rw [List.map_append, a1, b1]
 rw [hmapO] at hrel havr
 refine ⟨_, hrel, p3 (b4 _ _ _ (fun x hx => ?_) fun b hb hba => ?_)⟩
 ·have hx' : x ∈ L1 ++ L2 := by simp [hx]
  exact ⟨ovG_in hE.keys hx', by rw [← hmapO]; exact ovr_in hE.keys hx'⟩
 ·-- a block of the answer that is barred is owned through a new row
  rw [← hmapO] at hba
  rcases hba with ⟨k, hm⟩ | hF
  ·by_cases hk : k ∈ (L1 ++ L2).map (·.1)
   ·obtain ⟨x, hx, rfl⟩ := List.mem_map.1 hk
    rw [ovG_in hE.keys hx, ovr_in hE.keys hx] at hm
    rcases List.mem_append.1 hx with hx | hx
    ·exact absurd (a3.sub x hx b hm) (r6 b hb)
    ·exact ⟨x, hx, hm⟩
   ·rw [ovG_out hk, ovr_out hk] at hm
    exfalso
    rcases r8 b hb with h1 | h1
    ·have := h.own_lt ⟨k, hm⟩; omega
    ·obtain ⟨x, hx, hmx⟩ := hM b h1
     exact hk (List.mem_map.2 ⟨x, hx, h.disj x.1 k b hmx hm⟩)
  ·exfalso
   rcases r8 b hb with h1 | h1
   ·have := (h.ban b hF).1
    have := h.base
    omega
   ·obtain ⟨x, hx, hmx⟩ := hM b h1
    exact h.noF hmx hF
end rel
end Go.Fs
namespace Go.Fs
open Go.RowKit
def frz1 (H : Nat → Option Ob) (k : Nat) : Option (Nat → Option Ob) :=
 match H k with
 | some (.row sz xs dp fz ve) => some (if fz then H else upd H k (some (.row sz xs dp true ve)))
 | _ => none
def frzL (H : Nat → Option Ob) : List Nat → Option (Nat → Option Ob)
 | [] => some H
 | k :: ks => (frz1 H k).bind fun H' => frzL H' ks
def moveV (H : Nat → Option Ob) : AV → Option (D × Bool × (Nat → Option Ob))
 | .g cs => (moveCs H cs).map fun m => (.g m.1, m.2.1, m.2.2)
 | .a k 0 => match H k with
  | some (.box cs) => (moveCs (upd H k (some .dead)) cs).map fun m => (.p m.1, m.2.1, m.2.2)
  | _ => none
 | av => moveC H av
def moveVs (H : Nat → Option Ob) : List AV → Option (List D × Bool × (Nat → Option Ob))
 | [] => some ([], true, H)
 | av :: avs => (moveV H av).bind fun x => (moveVs x.2.2 avs).bind fun y => some (x.1 :: y.1, x.2.1 && y.2.1, y.2.2)
section rel
variable {P : Program} {T : Tab} {B : Ctx} {G : Nat → GI} {s : St} {a : Act} {w w' : World}
theorem frz1_ok (h : RelG B G s a w) {k : Nat} {H' : Nat → Option Ob} (hm : frz1 s.heap k = some H') :
 Eased B G s a w H' ∧ ownOf (G k) (H' k) = [] ∧ ∀ i, ownOf (G i) (s.heap i) = [] → ownOf (G i) (H' i) = [] := by
 unfold frz1 at hm
 split at hm
 case h_2 => cases hm
 rename_i sz xs dp fz ve hk
 simp only [Option.some.injEq] at hm
 subst hm
 cases fz with
 | true => exact ⟨.refl h, by simp [hk, ownOf], fun i hi => hi⟩
 | false =>
  obtain ⟨f1, _, f3⟩ := h.freeze hk
  refine ⟨⟨f1, f3⟩, by simp [upd_same, ownOf], fun i hi => ?_⟩
  by_cases e : i = k
  ·subst e; simp [upd_same, ownOf]
  ·simpa [upd_ne _ _ e] using hi
theorem frzL_ok : ∀ {s : St} (h : RelG B G s a w) {ks : List Nat} {H' : Nat → Option Ob} (hm : frzL s.heap ks = some H'),
 Eased B G s a w H' ∧ (∀ k ∈ ks, ownOf (G k) (H' k) = []) ∧ ∀ i, ownOf (G i) (s.heap i) = [] → ownOf (G i) (H' i) = []
 | s, h, [], H', hm => by
  simp only [frzL, Option.some.injEq] at hm
  subst hm
  exact ⟨.refl h, by simp, fun _ h => h⟩
 | s, h, k :: ks, H', hm => by
  simp only [frzL, Option.bind_eq_some_iff] at hm
  obtain ⟨H1, m1, m2⟩ := hm
  obtain ⟨e1, o1, p1⟩ := frz1_ok h m1
  obtain ⟨e2, o2, p2⟩ := frzL_ok e1.rel m2
  refine ⟨e1.trans e2, ?_, fun i hi => p2 i (p1 i hi)⟩
  intro i hi
  rcases List.mem_cons.1 hi with rfl | hi
  ·exact p2 i o1
  ·exact o2 i hi
theorem call_shared (h : RelG B G s a w) {f : FuncId} {rest : List AV} {vs : List Value} (hrest : AVRL w G s.heap (Ban B.F G s.heap) vs rest) {H1 : Nat → Option Ob}
 (hfz : frzL s.heap (rest.flatMap (keyA s.heap)) = some H1) (hkeys : rest.flatMap (keyA H1) = rest.flatMap (keyA s.heap)) {ds : List D} (hb : borL H1 rest = some ds) {out : Ret} (hf : FnOK P f (ds.map .d) out) (hio : out.io = none) :
 Does P f vs.toArray w fun v w' => RelG B G { s with heap := H1 } a w' ∧ AVR w' G H1 (Ban B.F G H1) v (retAV out.ret ((partsD out.ret).map .d)) := by
 obtain ⟨e1, o1, _⟩ := frzL_ok h hfz
 obtain ⟨Sd, u1, u2⟩ := borL_ok (s := { s with heap := H1 }) e1.rel (e1.avrl hrest) hb
 refine (hf w _ Sd [] (h.knW (by simp)) u1 List.nodup_nil (by simp)).mono fun v w' hp => ?_
 obtain ⟨hr, hkeep, S', Si, r1, r2, r3, r4, r5, r6, r7, r8⟩ := hp
 have hrel := e1.rel.grow (w' := w') hr fun b hb => hkeep b hb (by simp)
 obtain ⟨us, p1, p2, p3⟩ := parts_tr r1 r2
 refine ⟨hrel, p3 (p1.avrl p2 fun b hb => ?_)⟩
 rintro (⟨k, hm⟩ | hF)
 ·rcases r8 b hb with h1 | h1 | h1 | h1
  ·have := e1.rel.own_lt ⟨k, hm⟩; omega
  ·have hk := (u2 b h1).2 k hm
   have hm : b ∈ ownOf (G k) (H1 k) := hm
   rw [o1 k (hkeys ▸ hk)] at hm
   simp at hm
  ·simp at h1
  ·have := e1.rel.knO hm; omega
 ·rcases r8 b hb with h1 | h1 | h1 | h1
  ·have := (h.ban b hF).1
   have := h.base
   omega
  ·exact (u2 b h1).1 hF
  ·simp at h1
  ·have := B.kF b hF; omega
theorem moveV_ok (h : RelG B G s a w) {v : Value} {av : AV} (hv : AVR w G s.heap (Ban B.F G s.heap) v av) {d : D} {f : Bool} {H' : Nat → Option Ob} (hm : moveV s.heap av = some (d, f, H')) :
 Moved B G s a w H' ∧ ∃ S, Tr w f v d S ∧ Flat v ∧ (∀ b ∈ S, ¬ Ban B.F G H' b) ∧ (f = true → S.Nodup ∧ ∀ b ∈ S, Own G s.heap b) := by
 cases hav : av with
 | g cs =>
  subst hav
  simp only [moveV, Option.map_eq_some_iff, Prod.mk.injEq] at hm
  obtain ⟨⟨ds, f', H1⟩, m1, rfl, rfl, rfl⟩ := hm
  cases hv with
  | g vs _ hvs =>
   obtain ⟨M, S, t, o, n, w1⟩ := moveCs_ok h hvs m1
   exact ⟨M, S, .g _ _ _ t, o, n, w1⟩
 | a k o =>
  subst hav
  cases o with
  | succ o => simp [moveV, moveC] at hm
  | zero =>
  simp only [moveV] at hm
  split at hm
  case h_2 => cases hm
  rename_i cs hk
  simp only [Option.map_eq_some_iff, Prod.mk.injEq] at hm
  obtain ⟨⟨ds, f', H1⟩, m1, rfl, rfl, rfl⟩ := hm
  cases hv with
  | ad _ _ _ hk' => rw [hk] at hk'; cases hk'
  | a _ _ cs' hk' =>
   have hne : s.heap k ≠ none := by rw [hk]; simp
   have M1 : Moved B G s a w (upd s.heap k (some .dead)) := ⟨h.kill k hne, fun hv => hv.kill k hne, fun b hb => (own_kill hb).1, fun i => by
    by_cases e : i = k
    ·subst e; exact .inr ⟨hne, upd_same ..⟩
    ·exact .inl (upd_ne _ _ e)⟩
   have hB : BoxR w G s.heap (Ban B.F G s.heap) (G k) cs := h.obj k _ hk
   obtain ⟨cur, e, hg, hcs, h1⟩ := hB
   have hcs' := M1.avr (AVR.t cur cs hcs)
   cases hcs' with
   | t _ _ hcs' =>
   obtain ⟨M2, S, t, o, n, w1⟩ := moveCs_ok (s := { s with heap := upd s.heap k (some .dead) }) M1.rel hcs' m1
   have hblk : (G k).blk ∈ ownOf (G k) (s.heap k) := by rw [hk]; simp [ownOf]
   have hnot : ¬ Own G (upd s.heap k (some .dead)) (G k).blk := fun hn => by
    obtain ⟨_, i, hi, hm⟩ := own_kill hn
    exact hi (h.disj i k _ hm hblk)
   refine ⟨⟨M2.rel, fun hv => M2.avr (M1.avr hv), fun b hb => M1.own b (M2.own b hb), fun i => ?_⟩, (G k).blk :: S, .p (G k).blk 0 cur e (0, 0) cur.toList ds S hg (fun j v hj => by simpa using hj) h1 (fun _ => ⟨rfl, rfl, by simp⟩) t, flat_one rfl, ?_, fun hf => ?_⟩
   ·rcases M2.keys i with e | ⟨e1, e2⟩
    ·have e : H1 i = upd s.heap k (some .dead) i := e
     show H1 i = s.heap i ∨ (s.heap i ≠ none ∧ H1 i = some .dead)
     rw [e]
     exact M1.keys i
    ·by_cases hi : i = k
     ·subst hi; exact .inr ⟨hne, e2⟩
     ·have e1 : upd s.heap k (some .dead) i ≠ none := e1
      rw [upd_ne _ _ hi] at e1
      exact .inr ⟨e1, e2⟩
   ·intro b hb
    rcases List.mem_cons.1 hb with rfl | hb
    ·rintro (hn | hn)
     ·exact hnot (M2.own _ hn)
     ·exact h.noF hblk hn
    ·exact n b hb
   ·obtain ⟨w2, w3⟩ := w1 hf
    refine ⟨List.nodup_cons.2 ⟨fun hb => hnot (w3 _ hb), w2⟩, fun b hb => ?_⟩
    rcases List.mem_cons.1 hb with rfl | hb
    ·exact ⟨k, hblk⟩
    ·exact M1.own b (w3 b hb)
 | _ =>
  subst hav
  obtain ⟨M, S, t, o, n, w1⟩ := moveC_ok h hv hm
  exact ⟨M, S, t, flat_one o, n, w1⟩
theorem Moved.avrl {H' : Nat → Option Ob} (h : Moved B G s a w H') {vs : List Value} {as : List AV} (hv : AVRL w G s.heap (Ban B.F G s.heap) vs as) : AVRL w G H' (Ban B.F G H') vs as := by
 have := h.avr (.t vs.toArray as (by simpa using hv))
 cases this with
 | t _ _ h => simpa using h
theorem moveVs_ok : ∀ {s : St} (h : RelG B G s a w) {vs : List Value} {avs : List AV} (hv : AVRL w G s.heap (Ban B.F G s.heap) vs avs) {ds : List D} {f : Bool} {H' : Nat → Option Ob} (hm : moveVs s.heap avs = some (ds, f, H')),
 Moved B G s a w H' ∧ ∃ S, TrL w f vs ds S ∧ (∀ v ∈ vs, Flat v) ∧ (∀ b ∈ S, ¬ Ban B.F G H' b) ∧ (f = true → S.Nodup ∧ ∀ b ∈ S, Own G s.heap b)
 | s, h, _, _, .nil, ds, f, H', hm => by
  simp only [moveVs, Option.some.injEq, Prod.mk.injEq] at hm
  obtain ⟨rfl, rfl, rfl⟩ := hm
  exact ⟨.refl h, [], .nil, by simp, by simp, fun _ => ⟨List.nodup_nil, by simp⟩⟩
 | s, h, _, _, .cons v av vs avs hv hvs, ds, f, H', hm => by
  simp only [moveVs, Option.bind_eq_some_iff] at hm
  obtain ⟨⟨d1, f1, H1⟩, m1, ⟨d2, f2, H2⟩, m2, hm⟩ := hm
  simp only [Option.some.injEq, Prod.mk.injEq] at hm
  obtain ⟨rfl, rfl, rfl⟩ := hm
  obtain ⟨M1, S1, t1, o1, n1, w1⟩ := moveV_ok h hv m1
  obtain ⟨M2, S2, t2, o2, n2, w2⟩ := moveVs_ok M1.rel (M1.avrl hvs) m2
  refine ⟨M1.trans M2, S1 ++ S2, ?_, ?_, ?_, ?_⟩
  ·by_cases e : (f1 && f2) = true
   ·rw [e]
    simp at e
    rw [e.1] at t1
    rw [e.2] at t2
    exact .cons _ _ _ _ _ _ t1 t2
   ·rw [Bool.not_eq_true] at e
    rw [e]
    exact .cons _ _ _ _ _ _ t1.shared t2.shared
  ·intro u hu
   rcases List.mem_cons.1 hu with rfl | hu
   ·exact o1
   ·exact o2 u hu
  ·intro b hb hn
   rcases List.mem_append.1 hb with hb | hb
   ·exact n1 b hb (M2.ban hn)
   ·exact n2 b hb hn
  ·intro e
   simp at e
   obtain ⟨a1, a2⟩ := w1 e.1
   obtain ⟨b1, b2⟩ := w2 e.2
   refine ⟨List.nodup_append.2 ⟨a1, b1, fun x hx y hy e => ?_⟩, fun b hb => ?_⟩
   ·subst e
    exact n1 x hx (.inl (b2 x hy))
   ·rcases List.mem_append.1 hb with hb | hb
    ·exact a2 b hb
    ·exact M1.own b (b2 b hb)
end rel
def keyIn : Nat := 900000
def inAV : In → AV
 | .d (.g ds) => .g (ds.map .d)
 | .d x => .d x
 | .io (.p _) => .a keyIn 0
 | .io x => oneAV x (adCells keyIn (cellsD x))
def inHeap : List In → (Nat → Option Ob)
 | .io (.p ds) :: _ => ovr ((keyIn, .box (adCells (keyIn + 1) ds)) :: adObs (keyIn + 1) ds) fun _ => none
 | .io x :: _ => ovr (adObs keyIn (cellsD x)) fun _ => none
 | _ => fun _ => none
def inSt (n : Nat) (ins : List In) : St := { n := n, env := fun t => (ins.map inAV).getD t .x, heap := inHeap ins }
def In.isD : In → Bool
 | .d _ => true
 | .io _ => false
def insOK : List In → Bool
 | .io _ :: ins => ins.all In.isD
 | ins => ins.all In.isD
def packD : List D → D
 | [d] => d
 | ds => .t ds
def resL (T : Tab) (s : St) : List ResultVar → Option (List AV)
 | [] => some []
 | .tmp t :: rs => (resL T s rs).map (s.env t :: ·)
 | .cell t ty :: rs => (opLoad T s.heap ty (s.env t)).bind fun av => (resL T s rs).map (av :: ·)
def outR (T : Tab) (s : St) (aa : AV) (rs : List ResultVar) : Option Ret :=
 (resL T s rs).bind fun avs => (demAll s.heap avs).bind fun x => (moveVs x.2 x.1).bind fun y => match aa with
 | .x => some { ret := packD y.1, deep := y.2.1, io := none }
 | aa => if y.2.1 then (moveV y.2.2 aa).bind fun z => if z.2.1 then some { ret := packD y.1, deep := true, io := some z.1 } else none else none
def ancA : List In → AV
 | .io x :: _ => inAV (.io x)
 | _ => .x
end Go.Fs
namespace Go.Fs
open Go.RowKit
section rel
variable {P : Program} {T : Tab} {B : Ctx} {G : Nat → GI} {s : St} {a : Act} {w w' : World}
theorem inAV_d {H : Nat → Option Ob} {Av : Nat → Prop} {v : Value} {x : D} {S : List Nat} (h : Tr w false v x S) (hf : Flat v) (hS : ∀ b ∈ S, ¬ Av b) : AVR w G H Av v (inAV (.d x)) := by
 by_cases hg : ∃ ds, x = .g ds
 ·obtain ⟨ds, rfl⟩ := hg
  cases h with
  | g cs _ _ hs => exact .g _ _ (hs.avrl hf hS)
 ·have hx : ∀ ds, x ≠ .g ds := fun ds e => hg ⟨ds, e⟩
  have e : inAV (.d x) = .d x := by cases x <;> first | rfl | exact absurd rfl (hx _)
  rw [e]
  refine .d _ _ S ?_ h hS
  have : v.cells = #[v] := by
   cases h with
   | g cs ds S h => exact absurd rfl (hx _)
   | _ => rfl
  exact hf v (by rw [this]; simp)
theorem argsD : ∀ {vs : List Value} {ins : List In} {Sd M : List Nat} (h : ArgsR w vs ins Sd M), ins.all In.isD = true →
 M = [] ∧ ∀ {G : Nat → GI} {H : Nat → Option Ob} {Av : Nat → Prop}, (∀ b ∈ Sd, ¬ Av b) → AVRL w G H Av vs (ins.map inAV)
 | _, _, _, _, .nil, _ => ⟨rfl, fun _ => .nil⟩
 | _, _, _, _, .d v x S vs ins Sd M h hf hs, hi => by
  simp only [List.all_cons, Bool.and_eq_true] at hi
  obtain ⟨rfl, k⟩ := argsD hs hi.2
  exact ⟨rfl, fun hS => .cons _ _ _ _ (inAV_d h hf fun b hb => hS b (by simp [hb])) (k fun b hb => hS b (by simp [hb]))⟩
 | _, _, _, _, .io v x S vs ins Sd M h hf hs, hi => by simp [In.isD] at hi
theorem args_len : ∀ {vs : List Value} {ins : List In} {Sd M : List Nat} (h : ArgsR w vs ins Sd M), vs.length = ins.length
 | _, _, _, _, .nil => rfl
 | _, _, _, _, .d _ _ _ _ _ _ _ _ _ hs => by simp [args_len hs]
 | _, _, _, _, .io _ _ _ _ _ _ _ _ _ hs => by simp [args_len hs]
theorem oneAV_ok {H : Nat → Option Ob} {Av : Nat → Prop} {own : Bool} {v : Value} {x : D} {S : List Nat} (h : Tr w own v x S) (hf : Flat v) {avs : List AV} (ha : AVRL w G H Av v.cells.toList avs) : AVR w G H Av v (oneAV x avs) := by
 have hl := (cells_tr h hf).length
 cases h with
 | g cs ds S h =>
  have h1 := ha.length
  simp only [oneAV]
  rw [List.take_of_length_le (by rw [← h1, hl]; exact Nat.le_refl _)]
  exact .g _ _ ha
 | t vs ds S h =>
  have := hf (.tuple vs) (by simp [Value.cells])
  simp [Value.oneCell'] at this
 | _ =>
  simp only [Value.cells] at ha
  cases ha with
  | cons _ _ _ _ h _ => exact h
theorem ioIn_ents {v : Value} {x : D} {S : List Nat} (h : Tr w true v x S) (hf : Flat v) (hM : S.Nodup) (ins : List In) : ∃ L : List (Nat × GI × Ob),
 inHeap (.io x :: ins) = ovr (L.map fun x => (x.1, x.2.2)) (fun _ => none) ∧ (L.map (·.1)).Nodup ∧ (∀ y ∈ L, ∀ b ∈ ownOf y.2.1 (some y.2.2), b ∈ S) ∧ (∀ y ∈ L, (ownOf y.2.1 (some y.2.2)).Nodup) ∧
 (∀ y ∈ L, ∀ z ∈ L, ∀ b, b ∈ ownOf y.2.1 (some y.2.2) → b ∈ ownOf z.2.1 (some z.2.2) → y.1 = z.1) ∧
 ∀ (G : Nat → GI) (H : Nat → Option Ob) (Av : Nat → Prop), (∀ y ∈ L, G y.1 = y.2.1 ∧ H y.1 = some y.2.2) → (∀ b ∈ S, Av b → ∃ y ∈ L, b ∈ ownOf y.2.1 (some y.2.2)) →
  AVR w G H Av v (inAV (.io x)) ∧ ∀ y ∈ L, ObR w G H Av y.2.1 y.2.2 := by
 by_cases hp : ∃ ds, x = .p ds
 ·obtain ⟨ds, rfl⟩ := hp
  cases h with
  | p g o cur e fr vs _ S hg hv h1 ho hs =>
  obtain ⟨rfl, rfl, hsz⟩ := ho rfl
  obtain ⟨n1, n2⟩ := List.nodup_cons.1 hM
  obtain rfl : vs = cur.toList := by
   refine List.ext_getElem? fun j => ?_
   rcases Nat.lt_or_ge j vs.length with hj | hj
   ·have := hv j _ (List.getElem?_eq_getElem hj)
    rw [List.getElem?_eq_getElem hj, ← this]
    simp
   ·rw [List.getElem?_eq_none hj, List.getElem?_eq_none (by simpa [hsz] using hj)]
  obtain ⟨L, e1, e2, e3, e4⟩ := adEnts hs n2 h1 (keyIn + 1)
  have hb0 : ∀ cs, ownOf ⟨g, 0, 0, [], []⟩ (some (.box cs)) = [g] := fun _ => rfl
  refine ⟨(keyIn, ⟨g, 0, 0, [], []⟩, .box (adCells (keyIn + 1) ds)) :: L, by simp [inHeap, e1], ?_, ?_, ?_, ?_, ?_⟩
  ·refine List.nodup_cons.2 ⟨fun hm => ?_, e3.keys⟩
   obtain ⟨y, hy, e⟩ := List.mem_map.1 hm
   have := e2 y hy
   simp only at e
   omega
  ·intro y hy b hb
   rcases List.mem_cons.1 hy with rfl | hy
   ·rw [hb0] at hb; simp at hb; simp [hb]
   ·exact List.mem_cons_of_mem _ (e3.sub y hy b hb)
  ·intro y hy
   rcases List.mem_cons.1 hy with rfl | hy
   ·rw [hb0]; simp
   ·exact e3.nd y hy
  ·intro y hy z hz b hb hb'
   rcases List.mem_cons.1 hy with rfl | hy1 <;> rcases List.mem_cons.1 hz with rfl | hz1
   ·rfl
   ·rw [hb0] at hb; simp at hb; subst hb; exact absurd (e3.sub z hz1 _ hb') n1
   ·rw [hb0] at hb'; simp at hb'; subst hb'; exact absurd (e3.sub y hy1 _ hb) n1
   ·exact e3.dis y hy1 z hz1 b hb hb'
  ·intro G H Av hL hA
   obtain ⟨g1, g2⟩ := hL (keyIn, ⟨g, 0, 0, [], []⟩, .box (adCells (keyIn + 1) ds)) (by simp)
   have g1 : G keyIn = ⟨g, 0, 0, [], []⟩ := g1
   have g2 : H keyIn = some (.box (adCells (keyIn + 1) ds)) := g2
   have hcs := e4 G H Av (fun y hy => hL y (by simp [hy])) fun b hb ha => by
    obtain ⟨y, hy, hm⟩ := hA b (by simp [hb]) ha
    rcases List.mem_cons.1 hy with rfl | hy
    ·rw [hb0] at hm; simp at hm; subst hm; exact absurd hb n1
    ·exact ⟨y, hy, hm⟩
   refine ⟨?_, fun y hy => ?_⟩
   ·have := AVR.a (w := w) (G := G) (H := H) (Av := Av) keyIn 0 _ g2
    rw [g1] at this
    exact this
   ·rcases List.mem_cons.1 hy with rfl | hy
    ·exact ⟨⟨cur, e, hg, hcs, h1⟩⟩
    ·obtain ⟨sz, xs, ve, e, hR⟩ := e3.row y hy
     rw [e]
     exact hR _
 ·have hx : ∀ ds, x ≠ .p ds := fun ds e => hp ⟨ds, e⟩
  have hcells := cells_tr h hf
  obtain ⟨L, e1, e2, e3, e4⟩ := adEnts hcells hM hf keyIn
  have hI : inHeap (.io x :: ins) = ovr (adObs keyIn (cellsD x)) fun _ => none := by cases x <;> first | rfl | exact absurd rfl (hx _)
  have hV : inAV (.io x) = oneAV x (adCells keyIn (cellsD x)) := by cases x <;> first | rfl | exact absurd rfl (hx _)
  refine ⟨L, by rw [hI, e1], e3.keys, e3.sub, e3.nd, e3.dis, fun G H Av hL hA => ⟨?_, fun y hy => ?_⟩⟩
  ·rw [hV]
   exact oneAV_ok h hf (e4 _ _ _ hL hA)
  ·obtain ⟨sz, xs, ve, e, hR⟩ := e3.row y hy
   rw [e]
   exact hR _
theorem enter_rel {ins : List In} (hi : insOK ins = true) {n : Nat} {args : List Value} {Sd M : List Nat} (hkn : KnW w (· ∈ M)) (ha : ArgsR w args ins Sd M) (hM : M.Nodup) (hd : ∀ b ∈ M, b ∉ Sd) (hn : ins.length ≤ n) :
 ∃ B G, RelG B G (inSt n ins) { tmps := args.toArray ++ Array.replicate (n - args.toArray.size) undef, defers := [] } w ∧ B.base = w.heap.size ∧ B.w0 = w ∧ (∀ b, B.F b ↔ (nG ≤ b ∧ b < w.heap.size ∧ b ∉ Sd ∧ b ∉ M)) ∧ (∀ b, B.M b ↔ b ∈ M) ∧ B.aa = ancA ins ∧ (∀ x rest, ins = .io x :: rest → ∃ vs, args = B.av :: vs ∧ Flat B.av) := by
 have hlen := args_len ha
 have mk : ∀ (G : Nat → GI) (av : Value), AVRL w G (inHeap ins) (Ban (fun b => nG ≤ b ∧ b < w.heap.size ∧ b ∉ Sd ∧ b ∉ M) G (inHeap ins)) args (ins.map inAV) →
  (∀ k o, inHeap ins k = some o → ObR w G (inHeap ins) (Ban (fun b => nG ≤ b ∧ b < w.heap.size ∧ b ∉ Sd ∧ b ∉ M) G (inHeap ins)) (G k) o) → (∀ k, (ownOf (G k) (inHeap ins k)).Nodup) →
  (∀ k k' b, b ∈ ownOf (G k) (inHeap ins k) → b ∈ ownOf (G k') (inHeap ins k') → k = k') → (∀ k b, b ∈ ownOf (G k) (inHeap ins k) → b ∈ M) →
  AVR w G (inHeap ins) (Ban (fun b => nG ≤ b ∧ b < w.heap.size ∧ b ∉ Sd ∧ b ∉ M) G (inHeap ins)) av (ancA ins) →
  RelG { base := w.heap.size, w0 := w, F := fun b => nG ≤ b ∧ b < w.heap.size ∧ b ∉ Sd ∧ b ∉ M, M := fun b => b ∈ M, av := av, aa := ancA ins, kn := hkn, kb := hkn.size, kF := fun b hb => hb.1 } G (inSt n ins)
   { tmps := args.toArray ++ Array.replicate (n - args.toArray.size) undef, defers := [] } w := by
  intro G av h1 h2 h3 h4 h5 h6
  refine ⟨h2, fun t => ?_, ?_, rfl, h3, h4, fun k b hb => .inr (h5 k b hb), .refl w, fun _ _ _ => rfl, fun b hb => ⟨hb.2.1, hb.2.2.2⟩, Nat.le_refl _, h6⟩
  ·show AVR w G (inHeap ins) _ _ ((ins.map inAV).getD t .x)
   rcases Nat.lt_or_ge t args.length with ht | ht
   ·have e1 : args[t]? = some args[t] := List.getElem?_eq_getElem ht
    have e2 : (ins.map inAV)[t]? = some ((ins.map inAV)[t]'(by rw [List.length_map]; omega)) := List.getElem?_eq_getElem _
    have := h1.get e1 e2
    have e3 : (args.toArray ++ Array.replicate (n - args.toArray.size) undef).getD t undef = args[t] := by
     rw [Array.getD_eq_getD_getElem?, Array.getElem?_append_left (by simpa using ht)]
     simp [e1]
    rw [e3, List.getD_eq_getElem?_getD, e2]
    exact this
   ·rw [List.getD_eq_getElem?_getD, List.getElem?_eq_none (by rw [List.length_map]; omega)]
    exact .x _
  ·simp [inSt]; omega
 have avR : ∀ {G : Nat → GI} {H : Nat → Option Ob}, (∀ k b, b ∈ ownOf (G k) (H k) → b ∈ M) → ∀ b ∈ Sd, ¬ Ban (fun b => nG ≤ b ∧ b < w.heap.size ∧ b ∉ Sd ∧ b ∉ M) G H b := by
  rintro G H ho b hb (⟨k, hm⟩ | hF)
  ·exact hd b (ho k b hm) hb
  ·exact hF.2.2.1 hb
 have plain : ins.all In.isD = true → inHeap ins = (fun _ => none) → ancA ins = .x → (∀ x rest, ins ≠ .io x :: rest) →
  ∃ B G, RelG B G (inSt n ins) { tmps := args.toArray ++ Array.replicate (n - args.toArray.size) undef, defers := [] } w ∧ B.base = w.heap.size ∧ B.w0 = w ∧ (∀ b, B.F b ↔ (nG ≤ b ∧ b < w.heap.size ∧ b ∉ Sd ∧ b ∉ M)) ∧ (∀ b, B.M b ↔ b ∈ M) ∧ B.aa = ancA ins ∧ (∀ x rest, ins = .io x :: rest → ∃ vs, args = B.av :: vs ∧ Flat B.av) := by
  intro h1 h2 h3 h4
  obtain ⟨_, k⟩ := argsD ha h1
  refine ⟨_, fun _ => default, mk (fun _ => default) undef (k (avR (by rw [h2]; simp [ownOf]))) ?_ ?_ ?_ ?_ (by rw [h3]; exact .x _), rfl, rfl, fun _ => Iff.rfl, fun _ => Iff.rfl, rfl, fun x rest e => absurd e (h4 x rest)⟩
  ·rw [h2]; intro k o ho; cases ho
  ·rw [h2]; intro k; simp [ownOf]
  ·rw [h2]; intro k k' b hb; simp [ownOf] at hb
  ·rw [h2]; intro k b hb; simp [ownOf] at hb
 generalize hMe : M = M0 at ha
 cases ha with
 | nil => subst hMe; exact plain rfl rfl rfl (by intros; simp)
 | d v x S vs ins Sd' M' h hf hs => subst hMe; exact plain (by simpa [insOK] using hi) rfl rfl (by intros; simp)
 | io v x S vs ins' Sd' M' h hf hs =>
  obtain ⟨rfl, k⟩ := argsD hs (by simpa [insOK] using hi)
  rw [List.append_nil] at hMe
  subst hMe
  rw [List.append_nil]
  obtain ⟨L, hH, e3, eS, eN, eD, e4⟩ := ioIn_ents h hf hM ins'
  have inG : ∀ x ∈ L, ovG (L.map fun x => (x.1, x.2.1)) (fun _ => default) x.1 = x.2.1 := fun x hx => ovG_in e3 hx
  have inH : ∀ x' ∈ L, inHeap (.io x :: ins') x'.1 = some x'.2.2 := fun x' hx => by rw [hH]; exact ovr_in e3 hx
  have outH : ∀ k, k ∉ L.map (·.1) → inHeap (.io x :: ins') k = none := fun k hk => by rw [hH]; exact ovr_out hk
  have hmem : ∀ k, inHeap (.io x :: ins') k ≠ none → ∃ y ∈ L, y.1 = k := fun k hk => by
   by_cases hm : k ∈ L.map (·.1)
   ·simpa using hm
   ·exact absurd (outH k hm) hk
  have hown : ∀ k b, b ∈ ownOf (ovG (L.map fun x => (x.1, x.2.1)) (fun _ => default) k) (inHeap (.io x :: ins') k) → ∃ y ∈ L, y.1 = k ∧ b ∈ ownOf y.2.1 (some y.2.2) := fun k b hb => by
   have : inHeap (.io x :: ins') k ≠ none := fun e => by rw [e] at hb; simp [ownOf] at hb
   obtain ⟨y, hy, rfl⟩ := hmem k this
   rw [inG y hy, inH y hy] at hb
   exact ⟨y, hy, rfl, hb⟩
  have hS : ∀ k b, b ∈ ownOf (ovG (L.map fun x => (x.1, x.2.1)) (fun _ => default) k) (inHeap (.io x :: ins') k) → b ∈ M := fun k b hb => by
   obtain ⟨y, hy, _, hm⟩ := hown k b hb
   exact eS y hy b hm
  obtain ⟨hav, hob⟩ := e4 (ovG (L.map fun x => (x.1, x.2.1)) (fun _ => default)) (inHeap (.io x :: ins')) (Ban (fun b => nG ≤ b ∧ b < w.heap.size ∧ b ∉ Sd ∧ b ∉ M) (ovG (L.map fun x => (x.1, x.2.1)) (fun _ => default)) (inHeap (.io x :: ins'))) (fun y hy => ⟨inG y hy, inH y hy⟩) (by
   rintro b hb (⟨k, hm⟩ | hF)
   ·obtain ⟨y, hy, _, hm⟩ := hown k b hm
    exact ⟨y, hy, hm⟩
   ·exact absurd hb hF.2.2.2)
  refine ⟨_, _, mk (ovG (L.map fun x => (x.1, x.2.1)) (fun _ => default)) v (.cons _ _ _ _ hav (k (avR hS))) ?_ ?_ ?_ hS hav, rfl, rfl, fun _ => Iff.rfl, fun _ => Iff.rfl, rfl, fun x rest e => ⟨vs, rfl, hf⟩⟩
  ·intro k o ho
   obtain ⟨y, hy, rfl⟩ := hmem k (by rw [ho]; simp)
   rw [inH y hy] at ho
   cases ho
   rw [inG y hy]
   exact hob y hy
  ·intro k
   by_cases hk : inHeap (.io x :: ins') k = none
   ·rw [hk]; simp [ownOf]
   ·obtain ⟨y, hy, rfl⟩ := hmem k hk
    rw [inG y hy, inH y hy]
    exact eN y hy
  ·intro k k' b hb hb'
   obtain ⟨y, hy, rfl, hm⟩ := hown k b hb
   obtain ⟨y', hy', rfl, hm'⟩ := hown k' b hb'
   exact eD y hy y' hy' b hm hm'
theorem loadAt_as {ty : TypeId} {pv v : Value} (h : (Instr.loadAt ty pv).run P w = .ok v w) : (do loadVar ty (← asAddr pv) : Sem Value).run P w = .ok v w := by
 unfold Instr.loadAt at h
 cases pv with
 | pointer o =>
  cases o with
  | none => simp [Instr.sureAddr] at h
  | some ad => simpa [Instr.sureAddr, asAddr] using h
 | _ => simp [Instr.sureAddr] at h
theorem run_resL (hT : T.ok P = true) {a : Act} (h : RelG B G s a w) (f : ResultVar → Sem Value) (hf1 : ∀ t, f (.tmp t) = pure (a.tmps.getD t undef)) (hf2 : ∀ t ty, f (.cell t ty) = do loadVar ty (← asAddr (a.tmps.getD t undef))) :
 ∀ {rs : List ResultVar} {avs : List AV}, resL T s rs = some avs → ∃ us, (rs.mapM f).run P w = .ok us w ∧ AVRL w G s.heap (Ban B.F G s.heap) us avs
 | [], avs, hm => by
  simp only [resL, Option.some.injEq] at hm
  subst hm
  exact ⟨[], rfl, .nil⟩
 | .tmp t :: rs, avs, hm => by
  simp only [resL, Option.map_eq_some_iff] at hm
  obtain ⟨as, hm, rfl⟩ := hm
  obtain ⟨us, h1, h2⟩ := run_resL hT h f hf1 hf2 hm
  refine ⟨a.tmps.getD t undef :: us, ?_, .cons _ _ _ _ (h.env t) h2⟩
  rw [List.mapM_cons, hf1]
  simp only [pure_bind, Sem.run_bind, h1, Result.andThen_ok]
  rfl
 | .cell t ty :: rs, avs, hm => by
  simp only [resL, Option.bind_eq_some_iff, Option.map_eq_some_iff] at hm
  obtain ⟨av, hl, as, hm, rfl⟩ := hm
  obtain ⟨us, h1, h2⟩ := run_resL hT h f hf1 hf2 hm
  obtain ⟨v, h3, h4⟩ := opLoad_ok hT h (h.env t) hl
  refine ⟨v :: us, ?_, .cons _ _ _ _ h4 h2⟩
  rw [List.mapM_cons, hf2]
  rw [Sem.run_bind, loadAt_as h3]
  simp only [Sem.run_bind, h1, Result.andThen_ok]
  rfl
theorem run_resG (hT : T.ok P = true) {a : Act} (h : RelG B G s a w) {rs : Array ResultVar} {avs : List AV} (hm : resL T s rs.toList = some avs) (f : ResultVar → Sem Value) (hf1 : ∀ t, f (.tmp t) = pure (a.tmps.getD t undef)) (hf2 : ∀ t ty, f (.cell t ty) = do loadVar ty (← asAddr (a.tmps.getD t undef))) :
 ∃ us v, (do let vs ← rs.mapM f; pure (if h : vs.size = 1 then vs[0] else .tuple vs) : Sem Value).run P w = .ok v w ∧ AVRL w G s.heap (Ban B.F G s.heap) us avs ∧ ((∃ u, us = [u] ∧ v = u) ∨ (us.length ≠ 1 ∧ v = .tuple us.toArray)) := by
 obtain ⟨us, h1, h2⟩ := run_resL hT h f hf1 hf2 hm
 have h3 : (rs.mapM f).run P w = .ok us.toArray w := by
  rw [Array.mapM_eq_mapM_toList, Sem.run_map, h1]
  rfl
 rw [Sem.run_bind, h3, Result.andThen_ok]
 by_cases hl : us.length = 1
 ·obtain ⟨u, rfl⟩ := List.length_eq_one_iff.1 hl
  exact ⟨_, _, rfl, h2, .inl ⟨u, rfl, rfl⟩⟩
 ·refine ⟨us, _, rfl, h2, .inr ⟨hl, ?_⟩⟩
  rw [dif_neg (by simpa using hl)]
theorem run_results (hT : T.ok P = true) {a : Act} (h : RelG B G s a w) {fn : Func} {avs : List AV} (hm : resL T s fn.results.toList = some avs) :
 ∃ us v, (results fn a.tmps).run P w = .ok v w ∧ AVRL w G s.heap (Ban B.F G s.heap) us avs ∧ ((∃ u, us = [u] ∧ v = u) ∨ (us.length ≠ 1 ∧ v = .tuple us.toArray)) := by
 unfold results
 exact run_resG hT h hm _ (fun _ => rfl) (fun _ _ => rfl)
end rel
end Go.Fs
namespace Go.Fs
open Go.RowKit
def EndQ (T : Tab) (B : Ctx) (rs : List ResultVar) (out : Ret) : Exit → Act → World → Prop := fun e a w => (e = .normal ∨ e = .ret) ∧ ∃ G s, RelG B G s a w ∧ outR T s B.aa rs = some out
section rel
variable {P : Program} {T : Tab} {B : Ctx} {G : Nat → GI} {s : St} {a : Act} {w w' : World}
theorem leave_ok (hT : T.ok P = true) (h : RelG B G s a w') {fn : Func} {rs : List ResultVar} (hr : fn.results.toList = rs) {out : Ret} (ho : outR T s B.aa rs = some out) {args : List Value} {Sd M : List Nat}
 (hbase : B.base = w.heap.size) (hw0 : B.w0 = w) (hF : ∀ b, B.F b ↔ (nG ≤ b ∧ b < w.heap.size ∧ b ∉ Sd ∧ b ∉ M)) (hM : ∀ b, B.M b ↔ b ∈ M) (hav : B.aa ≠ .x → ∃ vs, args = B.av :: vs) :
 ∃ v, (results fn a.tmps).run P w' = .ok v w' ∧ Post w args Sd M out v w' := by
 simp only [outR, Option.bind_eq_some_iff] at ho
 obtain ⟨as0, m0, ⟨avs, H1⟩, m1, ⟨ds, f, H2⟩, m2, ho⟩ := ho
 obtain ⟨us, v, hv, hus, hvs⟩ := run_results hT h (hr ▸ m0)
 refine ⟨v, hv, ?_⟩
 obtain ⟨e1, v1, l1⟩ := demAll_ok h hus m1
 obtain ⟨M2, S, t2, o2, n2, w2⟩ := moveVs_ok (s := { s with heap := H1 }) e1.rel v1 m2
 have hlen : ds.length = us.length := by rw [← t2.length]
 -- the answer
 have hret : ∀ {fl : Bool} {S : List Nat}, TrL w' fl us ds S → ∃ S', Tr w' fl v (packD ds) S' ∧ (∀ b, b ∈ S' ↔ b ∈ S) ∧ (S.Nodup → S'.Nodup) := by
  intro fl S ht
  rcases hvs with ⟨t, rfl, rfl⟩ | ⟨h1, rfl⟩
  ·cases ht with
   | cons _ d S1 _ ds1 S2 ht hts =>
    cases hts
    exact ⟨S1, ht, by simp, by simp⟩
  ·have : packD ds = .t ds := by
    match ds, hlen with
    | [], _ => rfl
    | [d], hl => exact absurd hl.symm h1
    | _ :: _ :: _, _ => rfl
   rw [this]
   exact ⟨S, .t _ _ _ (by simpa using ht), fun _ => Iff.rfl, fun h => h⟩
 have hfl : RetFlat v := by
  rcases hvs with ⟨t, rfl, rfl⟩ | ⟨_, rfl⟩
  ·exact .inl (o2 _ (by simp))
  ·exact .inr ⟨_, rfl, by simpa using o2⟩
 have hge : ∀ b, Own G H1 b → w.heap.size ≤ b ∨ b ∈ M := fun b ⟨k, hk⟩ => by
  have := e1.rel.ge k b hk
  rw [hbase] at this
  exact this.imp id (hM b).1
 have hrest : Rest w w' := hw0 ▸ h.rest
 have hkeep : ∀ b, b < w.heap.size → b ∉ M → w'.heap[b]? = w.heap[b]? := fun b hb hn => by
  rw [← hw0]
  exact h.below b (hbase ▸ hb) fun hm => hn ((hM b).1 hm)
 have hnF : ∀ {b : Nat}, ¬ B.F b → w.heap.size ≤ b ∨ b ∈ Sd ∨ b ∈ M ∨ b < nG := fun {b} hn => by
  rcases Nat.lt_or_ge b w.heap.size with h1 | h1
  ·by_cases h2 : b ∈ Sd
   ·exact .inr (.inl h2)
   ·by_cases h3 : b ∈ M
    ·exact .inr (.inr (.inl h3))
    ·rcases Nat.lt_or_ge b nG with h4 | h4
     ·exact .inr (.inr (.inr h4))
     ·exact absurd ((hF b).2 ⟨h4, h1, h2, h3⟩) hn
  ·exact .inl h1
 split at ho
 ·rename_i haa
  simp only [Option.some.injEq] at ho
  subst ho
  obtain ⟨S', r1, r2, r3⟩ := hret t2
  refine ⟨hrest, hkeep, S', [], r1, hfl, rfl, List.nodup_nil, by simp, by simp, fun hf => ?_, fun b hb => hnF fun hf => n2 b ((r2 b).1 hb) (.inr hf)⟩
  obtain ⟨q1, q2⟩ := w2 hf
  exact ⟨r3 q1, fun b hb => hge b (q2 b ((r2 b).1 hb))⟩
 ·rename_i haa
  split at ho
  case isFalse => cases ho
  rename_i hf
  have hf : f = true := hf
  subst hf
  simp only [Option.bind_eq_some_iff] at ho
  obtain ⟨⟨x', f', H3⟩, m3, ho⟩ := ho
  split at ho
  case isFalse => cases ho
  rename_i hf'
  have hf' : f' = true := hf'
  subst hf'
  simp only [Option.some.injEq] at ho
  subst ho
  obtain ⟨S', r1, r2, r3⟩ := hret t2
  obtain ⟨M3, S3, t3, o3, n3, w3⟩ := moveV_ok (s := { s with heap := H2 }) M2.rel (M2.avr (e1.rel.anc)) m3
  obtain ⟨q1, q2⟩ := w2 rfl
  obtain ⟨q3, q4⟩ := w3 rfl
  obtain ⟨vs, hargs⟩ := hav haa
  refine ⟨hrest, hkeep, S', S3, r1, hfl, ⟨_, vs, hargs, t3⟩, q3, fun b hb => hge b (M2.own b (q4 b hb)), fun b hb hb3 => ?_, fun _ => ⟨r3 q1, fun b hb => hge b (q2 b ((r2 b).1 hb))⟩, fun b hb => hnF fun hf => n2 b ((r2 b).1 hb) (.inr hf)⟩
  exact n2 b ((r2 b).1 hb) (.inl (q4 b hb3))
theorem fnOK_of (hT : T.ok P = true) {f : FuncId} {fn : Func} {c : Code} (hf : P.funcs[f]? = some fn) (hb : fn.body = some c) (hnm : (fn.name == "runtime.NumGoroutine") = false) {rs : List ResultVar} (hres : fn.results.toList = rs)
 {ins : List In} (hi : insOK ins = true) (hn : ins.length ≤ fn.ntmps) {out : Ret} (hbody : ∀ B G a w, RelG B G (inSt fn.ntmps ins) a w → B.aa = ancA ins → c.wp P (EndQ T B rs out) a w) : FnOK P f ins out := by
 intro w args Sd M hkn ha hM hd
 obtain ⟨B, G, hrel, h1, h2, h3, h4, h5, h6⟩ := enter_rel hi hkn ha hM hd hn
 refine .inl ⟨?_, ?_⟩
 ·have : ¬ fn.name = "runtime.NumGoroutine" := by simpa using hnm
  simp [callFunc, hf, hb, this]
 ·refine calls_of_wp hf hb (wp_mono (hbody B G _ w hrel h5) fun e a' w' he => ?_)
  obtain ⟨he, G', s', hr, ho⟩ := he
  obtain ⟨v, hv, hp⟩ := leave_ok hT (w := w) (args := args) (Sd := Sd) (M := M) hr hres ho h1 h2 h3 h4 (fun hx => by
   cases ins with
   | nil => rw [h5] at hx; exact absurd rfl hx
   | cons i rest =>
    cases i with
    | d x => rw [h5] at hx; exact absurd rfl hx
    | io x => obtain ⟨vs, e, _⟩ := h6 x rest rfl; exact ⟨vs, e⟩)
  rcases he with rfl | rfl
  ·exact ⟨hr.defers, v, hv, hp⟩
  ·exact ⟨hr.defers, v, hv, hp⟩
end rel
end Go.Fs
namespace Go.Fs
open Go.RowKit
mutual
def mapA (ren : List (Nat × Nat)) : AV → AV
 | .d x => .d x
 | .z n => .z n
 | .r k => match ren.lookup k with | some k' => .r k' | none => .x
 | .a k o => match ren.lookup k with | some k' => .a k' o | none => .x
 | .e k i o => match ren.lookup k with | some k' => .e k' i o | none => .x
 | .m k ve i o => match ren.lookup k with | some k' => .m k' ve i o | none => .x
 | .q cs o => .q cs o
 | .g cs => .g (mapL ren cs)
 | .f fn caps => .f fn (mapL ren caps)
 | .t vs => .t (mapL ren vs)
 | .mp k => match ren.lookup k with | some k' => .mp k' | none => .x
 | .x => .x
 | .nl => .nl
 | .bp k => match ren.lookup k with | some k' => .bp k' | none => .x
def mapL (ren : List (Nat × Nat)) : List AV → List AV
 | [] => []
 | a :: as => mapA ren a :: mapL ren as
end
def mapOb (ren : List (Nat × Nat)) : Ob → Ob
 | .row sz xs dp fz ve => .row sz xs dp fz ve
 | .box cs => .box (mapL ren cs)
 | .map kv => .map kv
 | .bld s => .bld s
 | .dead => .dead
def oldK (ren : List (Nat × Nat)) (k' : Nat) : Option Nat := (ren.map fun x => (x.2, x.1)).lookup k'
def wkH (ren : List (Nat × Nat)) (H : Nat → Option Ob) : Nat → Option Ob := fun k' => match oldK ren k' with
 | some k => match H k with
  | some o => some (mapOb ren o)
  | none => none
 | none => none
def wk (live : List Nat) (ren : List (Nat × Nat)) (s : St) : St :=
 { n := s.n, env := fun t => if live.contains t then mapA ren (s.env t) else .x, heap := wkH ren s.heap }
def nodupB : List Nat → Bool
 | [] => true
 | x :: xs => !xs.contains x && nodupB xs
def renOK (ren : List (Nat × Nat)) : Bool := nodupB (ren.map (·.1)) && nodupB (ren.map (·.2))
def wkG (ren : List (Nat × Nat)) (G : Nat → GI) : Nat → GI := fun k' => match oldK ren k' with
 | some k => G k
 | none => default
theorem nodupB_ok : ∀ {l : List Nat}, nodupB l = true → l.Nodup
 | [], _ => List.nodup_nil
 | x :: xs, h => by
  simp only [nodupB, Bool.and_eq_true, Bool.not_eq_true', List.contains_eq_mem] at h
  exact List.nodup_cons.2 ⟨by simpa using h.1, nodupB_ok h.2⟩
section rel
variable {P : Program} {T : Tab} {B : Ctx} {G : Nat → GI} {s : St} {a : Act} {w w' : World} {ren : List (Nat × Nat)}
theorem oldK_of (h : renOK ren = true) {k k' : Nat} (hk : ren.lookup k = some k') : oldK ren k' = some k := by
 simp only [renOK, Bool.and_eq_true] at h
 refine lookup_of_mem ?_ ?_
 ·rw [List.map_map]; exact nodupB_ok h.2
 ·exact List.mem_map.2 ⟨(k, k'), lookup_mem hk, rfl⟩
theorem of_oldK (h : renOK ren = true) {k k' : Nat} (hk : oldK ren k' = some k) : ren.lookup k = some k' := by
 simp only [renOK, Bool.and_eq_true] at h
 refine lookup_of_mem (nodupB_ok h.1) ?_
 obtain ⟨x, hx, e⟩ := List.mem_map.1 (lookup_mem hk)
 cases e
 exact hx
theorem wkH_of (h : renOK ren = true) {H : Nat → Option Ob} {k k' : Nat} (hk : ren.lookup k = some k') {o : Ob} (ho : H k = some o) : wkH ren H k' = some (mapOb ren o) := by
 simp [wkH, oldK_of h hk, ho]
theorem wkG_of (h : renOK ren = true) {k k' : Nat} (hk : ren.lookup k = some k') : wkG ren G k' = G k := by
 simp [wkG, oldK_of h hk]
theorem wkH_inv {H : Nat → Option Ob} {k' : Nat} {o : Ob} (ho : wkH ren H k' = some o) : ∃ k o', oldK ren k' = some k ∧ H k = some o' ∧ o = mapOb ren o' := by
 unfold wkH at ho
 split at ho
 case h_2 => cases ho
 rename_i k hk
 split at ho
 case h_2 => cases ho
 rename_i o' ho'
 cases ho
 exact ⟨k, o', hk, ho', rfl⟩
theorem ownOf_map (g : GI) (o : Ob) : ownOf g (some (mapOb ren o)) = ownOf g (some o) := by cases o <;> rfl
theorem own_wk {H : Nat → Option Ob} {k' b : Nat} (hb : b ∈ ownOf (wkG ren G k') (wkH ren H k')) : ∃ k, oldK ren k' = some k ∧ b ∈ ownOf (G k) (H k) := by
 cases ho : wkH ren H k' with
 | none => rw [ho] at hb; simp [ownOf] at hb
 | some o =>
  obtain ⟨k, o', h1, h2, rfl⟩ := wkH_inv ho
  rw [ho, ownOf_map] at hb
  have : wkG ren G k' = G k := by simp [wkG, h1]
  rw [this] at hb
  exact ⟨k, h1, by rw [h2]; exact hb⟩
theorem AVR.wk_both (hr : renOK ren = true) {H : Nat → Option Ob} {Av Av' : Nat → Prop} (hA : ∀ b, Av' b → Av b) :
 (∀ {v : Value} {av : AV}, AVR w G H Av v av → AVR w (wkG ren G) (wkH ren H) Av' v (mapA ren av)) ∧ (∀ {vs : List Value} {as : List AV}, AVRL w G H Av vs as → AVRL w (wkG ren G) (wkH ren H) Av' vs (mapL ren as)) := by
 have key : ∀ {v : Value} {av : AV}, AVR w G H Av v av → AVR w (wkG ren G) (wkH ren H) Av' v (mapA ren av) := by
  intro v av h
  have look : ∀ (k : Nat) {f : Nat → AV} {v : Value}, (∀ k', ren.lookup k = some k' → wkG ren G k' = G k → AVR w (wkG ren G) (wkH ren H) Av' v (f k')) → AVR w (wkG ren G) (wkH ren H) Av' v (match ren.lookup k with | some k' => f k' | none => .x) := by
   intro k f v hf
   cases e : ren.lookup k with
   | none => exact .x _
   | some k' => exact hf k' e (wkG_of hr e)
  refine AVR.rec (w := w) (G := G) (H := H) (Av := Av) (motive_1 := fun v av _ => AVR w (wkG ren G) (wkH ren H) Av' v (mapA ren av)) (motive_2 := fun vs as _ => AVRL w (wkG ren G) (wkH ren H) Av' vs (mapL ren as))
   ?_ ?_ ?_ ?_ ?_ ?_ ?_ ?_ ?_ ?_ ?_ ?_ ?_ ?_ ?_ ?_ ?_ ?_ ?_ ?_ ?_ ?_ h
  ·intro v x S h1 h hS
   exact .d v x S h1 h fun b hb hn => hS b hb (hA b hn)
  ·intro sz; exact .z sz
  ·intro k sz xs dp fz ve a hk ha
   refine look k fun k' e eg => ?_
   rw [← eg]
   exact .r k' sz xs dp fz ve a (wkH_of hr e hk) (by rw [eg]; exact ha)
  ·intro k v hk
   exact look k fun k' e eg => .rd k' v (wkH_of hr e hk)
  ·intro k o cs hk
   refine look k (f := fun k' => .a k' o) fun k' e eg => ?_
   rw [← eg]
   exact .a k' o _ (wkH_of hr e hk)
  ·intro k o v hk
   exact look k (f := fun k' => .a k' o) fun k' e eg => .ad k' o v (wkH_of hr e hk)
  ·intro k i o sz xs dp fz ve hk hi
   refine look k (f := fun k' => .e k' i o) fun k' e eg => ?_
   rw [← eg]
   exact .e k' i o sz xs dp fz ve (wkH_of hr e hk) hi
  ·intro k i o v hk
   exact look k (f := fun k' => .e k' i o) fun k' e eg => .ed k' i o v (wkH_of hr e hk)
  ·intro k i o sz xs dp fz ve v z ys hk hj hv h1
   exact look k (f := fun k' => .m k' ve i o) fun k' e eg => .m k' i o sz xs dp fz ve v z ys (wkH_of hr e hk) hj (by rw [eg]; exact hv) h1
  ·intro k i o sz xs dp fz ve ve1 v hk hlt
   exact look k (f := fun k' => .m k' ve i o) fun k' e eg => .mo k' i o sz xs dp fz ve ve1 v (wkH_of hr e hk) hlt
  ·intro k ve i o v hk
   exact look k (f := fun k' => .m k' ve i o) fun k' e eg => .md k' ve i o v (wkH_of hr e hk)
  ·intro g base o cur el fr vs cs S hg hv h1 h hb hS
   exact .q g base o cur el fr vs cs S hg hv h1 h (fun hn => hb (hA _ hn)) fun b hb hn => hS b hb (hA b hn)
  ·intro cs as _ ih; exact .g cs _ ih
  ·intro fn cs as _ ih; exact .f fn cs _ ih
  ·intro vs as _ ih; exact .t vs _ ih
  ·intro k kv hk
   refine look k (f := fun k' => .mp k') fun k' e eg => ?_
   rw [← eg]
   exact .mp k' _ (wkH_of hr e hk)
  ·intro k v hk
   exact look k (f := fun k' => .mp k') fun k' e eg => .mpd k' v (wkH_of hr e hk)
  ·intro k s hk
   refine look k (f := fun k' => .bp k') fun k' e eg => ?_
   rw [← eg]
   exact .bp k' _ (wkH_of hr e hk)
  ·intro k v hk
   exact look k (f := fun k' => .bp k') fun k' e eg => .bpd k' v (wkH_of hr e hk)
  ·intro v; exact .x v
  ·exact .nil
  ·intro v av vs as _ _ ih ihs; exact .cons v _ vs _ ih ihs
 refine ⟨key, fun {vs as} h => ?_⟩
 have := key (.t vs.toArray as (by simpa using h))
 cases this with
 | t _ _ h => simpa using h
theorem RelG.wk (h : RelG B G s a w) (live : List Nat) (hr : renOK ren = true) (ha : mapA ren B.aa = B.aa) : RelG B (wkG ren G) (wk live ren s) a w := by
 have hA : ∀ b, Ban B.F (wkG ren G) (wkH ren s.heap) b → Ban B.F G s.heap b := by
  rintro b (⟨k, hk⟩ | hf)
  ·obtain ⟨k0, _, hm⟩ := own_wk hk
   exact .inl ⟨k0, hm⟩
  ·exact .inr hf
 have hav := AVR.wk_both (w := w) (G := G) (H := s.heap) (ren := ren) hr hA
 refine ⟨?_, fun t => ?_, h.size, h.defers, fun k => ?_, fun k k' b hb hb' => ?_, fun k b hb => ?_, h.rest, h.below, h.ban, h.base, ?_⟩
 ·intro k' o ho
  obtain ⟨k, o', h1, h2, rfl⟩ := wkH_inv ho
  have hg : wkG ren G k' = G k := by simp [wkG, h1]
  rw [hg]
  have hob := h.obj k o' h2
  cases o' with
  | row sz xs dp fz ve =>
   obtain ⟨c1, c2, c3, c4, c5, c6, c7, c8, c9, c10⟩ := hob
   exact ⟨c1, c2, c3, c4, c5, c6, c7, c8, fun hd b hb hn => c9 hd b hb (hA b hn), fun hf hp hn => c10 hf hp (hA _ hn)⟩
  | box cs =>
   obtain ⟨cur, e, c1, c2, c3⟩ := hob
   exact ⟨cur, e, c1, hav.2 c2, c3⟩
  | map kv => exact hob
  | bld s => exact hob
  | dead => trivial
 ·show AVR w _ _ _ _ (if live.contains t then mapA ren (s.env t) else .x)
  split
  ·exact hav.1 (h.env t)
  ·exact .x _
 ·show (ownOf (wkG ren G k) (wkH ren s.heap k)).Nodup
  cases ho : wkH ren s.heap k with
  | none => simp [ownOf]
  | some o =>
   obtain ⟨k0, o', h1, h2, rfl⟩ := wkH_inv ho
   have hg : wkG ren G k = G k0 := by simp [wkG, h1]
   rw [hg, ownOf_map, ← h2]
   exact h.nodup k0
 ·obtain ⟨k1, e1, m1⟩ := own_wk hb
  obtain ⟨k2, e2, m2⟩ := own_wk hb'
  have := h.disj k1 k2 b m1 m2
  subst this
  have a1 := of_oldK hr e1
  have a2 := of_oldK hr e2
  rw [a1] at a2
  exact Option.some.inj a2
 ·obtain ⟨k1, _, m1⟩ := own_wk hb
  exact h.ge k1 b m1
 ·have := hav.1 h.anc
  rw [ha] at this
  exact this
end rel
end Go.Fs
namespace Go.Fs
open Go.RowKit
section rel
variable {P : Program} {T : Tab} {B : Ctx} {G : Nat → GI} {s : St} {a : Act} {w w' : World}
theorem call_nest (h : RelG B G s a w) {f : FuncId} {k ve i o sz : Nat} {xs : List (List D)} (hk : s.heap k = some (.row sz xs true false ve)) (hi : i < xs.length) (ho : o < sz)
 {v : Value} (hv : AVR w G s.heap (Ban B.F G s.heap) v (.m k ve i o)) {rest : List AV} {vs : List Value} (hrest : AVRL w G s.heap (Ban B.F G s.heap) vs rest) {ds : List D} (hb : borL s.heap rest = some ds)
 (hdis : k ∉ rest.flatMap (keyA s.heap)) {ret y : D} (hf : FnOK P f (.io ((xs.getD i []).getD o .u) :: ds.map .d) { ret := ret, io := some y })
 {key : Nat} (hfree : ∀ x ∈ adObs key (partsD ret), s.heap x.1 = none) :
 Does P f (v :: vs).toArray w fun u w' => ∃ G', RelG B G' { s with heap := ovr ((k, .row sz (setCell xs i o y) true false (ve + 1)) :: adObs key (partsD ret)) s.heap } a w' ∧
  AVR w' G' (ovr ((k, .row sz (setCell xs i o y) true false (ve + 1)) :: adObs key (partsD ret)) s.heap) (Ban B.F G' (ovr ((k, .row sz (setCell xs i o y) true false (ve + 1)) :: adObs key (partsD ret)) s.heap)) u (retAV ret (adCells key (partsD ret))) := by
 have hR : RowR w (Ban B.F G s.heap) (G k) sz xs true false := h.obj k _ hk
 have hc : (G k).cap ≠ 0 := by have := hR.cap; omega
 have hownk : ∀ b, b ∈ ownOf (G k) (s.heap k) ↔ b = (G k).blk ∨ b ∈ (G k).sub := fun b => by rw [hk]; simp [ownOf, hc]
 have hnd := h.nodup k
 rw [hk] at hnd
 have hnd : (G k).blk ∉ (G k).sub ∧ (G k).sub.Nodup := by simpa [ownOf, hc] using hnd
 -- the list handed over
 have hcell := cell_get hR.uni hi ho
 obtain ⟨v', S1, Sm, S2, e1, t1, eS, back⟩ := hR.tr.at hcell
 obtain ⟨rfl, h1⟩ : v' = v ∧ v.oneCell' = true := by
  cases hv with
  | m _ _ _ sz' xs' dp fz _ _ z ys hk' hj hv' h1 =>
   rw [hk] at hk'; cases hk'
   rw [e1] at hv'
   exact ⟨Option.some.inj hv', h1⟩
  | mo _ _ _ sz' xs' dp fz _ ve' _ hk' hlt => rw [hk] at hk'; cases hk'; omega
  | md _ _ _ _ _ hk' => rw [hk] at hk'; cases hk'
 have hsub : ∀ b, b ∈ (G k).sub ↔ b ∈ S1 ∨ b ∈ Sm ∨ b ∈ S2 := fun b => by rw [eS]; simp
 have hnS := hnd.2
 rw [eS] at hnS
 obtain ⟨n1, n2, n3⟩ := List.nodup_append.1 hnS
 obtain ⟨n4, n5, n6⟩ := List.nodup_append.1 n2
 obtain ⟨Sd, u1, u2⟩ := borL_ok h hrest hb
 refine (hf w _ Sd (Sm ++ []) (h.knW fun b hb => ⟨k, (hownk b).2 (.inr ((hsub b).2 (.inr (.inl (by simpa using hb)))))⟩) (.io v' _ Sm vs _ Sd [] t1 (flat_one h1) u1) (by simpa using n4) fun b hb hbd => ?_).mono fun u w' hp => ?_
 ·have hb : b ∈ Sm := by simpa using hb
  exact hdis ((u2 b hbd).2 k ((hownk b).2 (.inr ((hsub b).2 (.inr (.inl hb))))))
 obtain ⟨hr, hkeep, S', Si, r1, r2, r3, r4, r5, r6, r7, _⟩ := hp
 obtain ⟨r7, r8⟩ := r7 rfl
 obtain ⟨v1, vs1, e, ht⟩ := r3
 simp only [List.cons.injEq] at e
 obtain ⟨rfl, rfl⟩ := e
 simp only [List.append_nil] at hkeep r5 r8
 have hlt : ∀ b, b ∈ ownOf (G k) (s.heap k) → b < w.heap.size := fun b hb => h.own_lt ⟨k, hb⟩
 have hblk : (G k).blk < w.heap.size := hlt _ ((hownk _).2 (.inl rfl))
 have hSub : ∀ b ∈ (G k).sub, b < w.heap.size := fun b hb => hlt _ ((hownk _).2 (.inr hb))
 have hblkm : (G k).blk ∉ Sm := fun hb => hnd.1 ((hsub _).2 (.inr (.inl hb)))
 have hS1m : ∀ b ∈ S1, b ∉ Sm := fun b hb hb' => n3 b hb b (by simp [hb']) rfl
 have hS2m : ∀ b ∈ S2, b ∉ Sm := fun b hb hb' => n6 b hb' b hb rfl
 have hS12 : ∀ b ∈ S1, b ∉ S2 := fun b hb hb' => n3 b hb b (by simp [hb']) rfl
 have hcellsd := cells_tr ht (flat_one h1)
 have back' : TrL w' true (G k).vs (xs.flatten.set (i * sz + o) y) (S1 ++ (Si ++ S2)) := back ht fun b hb => by
  rcases hb with hb | hb
  ·exact hkeep b (hSub b ((hsub b).2 (.inl hb))) (hS1m b hb)
  ·exact hkeep b (hSub b ((hsub b).2 (.inr (.inr hb)))) (hS2m b hb)
 have hSi1 : ∀ b ∈ Si, b ∉ S1 := fun b hb hb' => (r5 b hb).elim (fun h1 => by have := hSub b ((hsub b).2 (.inl hb')); omega) fun h1 => hS1m b hb' h1
 have hSi2 : ∀ b ∈ Si, b ∉ S2 := fun b hb hb' => (r5 b hb).elim (fun h1 => by have := hSub b ((hsub b).2 (.inr (.inr hb'))); omega) fun h1 => hS2m b hb' h1
 have hSiblk : (G k).blk ∉ Si := fun hb => (r5 _ hb).elim (fun h1 => by omega) hblkm
 have hS'1 : ∀ b ∈ S', b ∉ S1 := fun b hb hb' => (r8 b hb).elim (fun h1 => by have := hSub b ((hsub b).2 (.inl hb')); omega) fun h1 => hS1m b hb' h1
 have hS'2 : ∀ b ∈ S', b ∉ S2 := fun b hb hb' => (r8 b hb).elim (fun h1 => by have := hSub b ((hsub b).2 (.inr (.inr hb'))); omega) fun h1 => hS2m b hb' h1
 have hS'blk : (G k).blk ∉ S' := fun hb => (r8 _ hb).elim (fun h1 => by omega) hblkm
 let gi : GI := { (G k) with sub := S1 ++ (Si ++ S2) }
 have hrow : ∀ Av, RowR w' Av gi sz (setCell xs i o y) true false := fun Av => by
  refine ⟨fun _ => ?_, by rw [setCell_len]; exact hR.cap, hR.max, by rw [setCell_len]; exact hR.len, hR.one, setCell_uni hR.uni hi o y, by rw [setCell_flat hR.uni y hi ho]; exact back', fun _ => ?_, by simp, by simp⟩
  ·obtain ⟨cur, e, c1, c2, c3⟩ := hR.cells (by omega)
   exact ⟨cur, e, (hkeep _ hblk hblkm).trans c1, c2, c3⟩
  ·refine List.nodup_append.2 ⟨n1, List.nodup_append.2 ⟨r4, n5, fun x hx y hy e => ?_⟩, fun x hx y hy e => ?_⟩
   ·subst e; exact hSi2 x hx hy
   ·subst e
    rcases List.mem_append.1 hy with hy | hy
    ·exact hSi1 x hy hx
    ·exact hS12 x hx hy
 have hgi : ∀ b, b ∈ ownOf gi (some (.row sz (setCell xs i o y) true false (ve + 1))) ↔ b = (G k).blk ∨ b ∈ S1 ∨ b ∈ Si ∨ b ∈ S2 := fun b => by simp [ownOf, gi, hc]
 have hgn : (ownOf gi (some (.row sz (setCell xs i o y) true false (ve + 1)))).Nodup := nodup_ownRow fun _ => by
  refine ⟨fun hb => ?_, (hrow fun _ => False).nodup rfl⟩
  have hb : (G k).blk ∈ S1 ++ (Si ++ S2) := hb
  simp only [List.mem_append] at hb
  rcases hb with hb | hb | hb
  ·exact hnd.1 ((hsub _).2 (.inl hb))
  ·exact hSiblk hb
  ·exact hnd.1 ((hsub _).2 (.inr (.inr hb)))
 obtain ⟨us, p1, p2, p3⟩ := parts_tr r1 r2
 obtain ⟨L2, b1, b2, b3, b4⟩ := adEnts p1 r7 p2 key
 have hfree2 : ∀ x ∈ L2, s.heap x.1 = none := fun x hx => hfree (x.1, x.2.2) (by rw [← b1]; exact List.mem_map.2 ⟨x, hx, rfl⟩)
 have hkL : k ∉ L2.map (·.1) := fun hm => by
  obtain ⟨x, hx, e⟩ := List.mem_map.1 hm
  have := hfree2 x hx
  rw [e, hk] at this; cases this
 have hS'gi : ∀ b ∈ S', b ∉ ownOf gi (some (.row sz (setCell xs i o y) true false (ve + 1))) := fun b hb hm => by
  rcases (hgi b).1 hm with rfl | hm | hm | hm
  ·exact hS'blk hb
  ·exact hS'1 b hb hm
  ·exact r6 b hb hm
  ·exact hS'2 b hb hm
 have hkeys : (((k, gi, Ob.row sz (setCell xs i o y) true false (ve + 1)) :: L2).map (·.1)).Nodup := by
  rw [List.map_cons]; exact List.nodup_cons.2 ⟨hkL, b3.keys⟩
 obtain ⟨hrel, havr⟩ := h.steps ((k, gi, .row sz (setCell xs i o y) true false (ve + 1)) :: L2) hkeys hr (fun b hb hn => hkeep b hb fun hbS => by
  refine hn (k, gi, .row sz (setCell xs i o y) true false (ve + 1)) (by simp) ?_
  exact (hownk b).2 (.inr ((hsub b).2 (.inr (.inl hbS))))) (fun x hx o' ho' => by
  rcases List.mem_cons.1 hx with rfl | hx
  ·have ho' : s.heap k = some o' := ho'
   rw [hk] at ho'; cases ho'
   exact .row _ _ _ _ _ _ _ _ _ (setCell_len ..) rfl rfl rfl (.inl (Nat.lt_succ_self _))
  ·have := hfree2 x hx; rw [ho'] at this; cases this) (fun x hx b hb => by
  rcases List.mem_cons.1 hx with rfl | hx
  ·have mine : ∀ {b}, b ∈ ownOf (G k) (s.heap k) → ∃ y' ∈ (k, gi, Ob.row sz (setCell xs i o y) true false (ve + 1)) :: L2, b ∈ ownOf (G y'.1) (s.heap y'.1) := fun {b} hb => ⟨_, List.mem_cons_self, hb⟩
   rcases (hgi b).1 hb with rfl | hm | hm | hm
   ·exact .inl (mine ((hownk _).2 (.inl rfl)))
   ·exact .inl (mine ((hownk _).2 (.inr ((hsub _).2 (.inl hm)))))
   ·rcases r5 b hm with h1 | h1
    ·exact .inr h1
    ·exact .inl (mine ((hownk _).2 (.inr ((hsub _).2 (.inr (.inl h1))))))
   ·exact .inl (mine ((hownk _).2 (.inr ((hsub _).2 (.inr (.inr hm))))))
  ·rcases r8 b (b3.sub x hx b hb) with h1 | h1
   ·exact .inr h1
   ·exact .inl ⟨_, List.mem_cons_self, (hownk _).2 (.inr ((hsub _).2 (.inr (.inl h1))))⟩) (fun x hx => by
  rcases List.mem_cons.1 hx with rfl | hx
  ·exact hgn
  ·exact b3.nd x hx) (fun x hx y' hy b hb hb' => by
  rcases List.mem_cons.1 hx with rfl | hx <;> rcases List.mem_cons.1 hy with rfl | hy
  ·rfl
  ·exact absurd hb (hS'gi b (b3.sub y' hy b hb'))
  ·exact absurd hb' (hS'gi b (b3.sub x hx b hb))
  ·exact b3.dis x hx y' hy b hb hb') (fun x hx => by
  rcases List.mem_cons.1 hx with rfl | hx
  ·exact hrow _
  ·obtain ⟨sz', xs', ve', e, hR'⟩ := b3.row x hx
   rw [e]
   exact hR' _)
 have hmapO : ((k, gi, Ob.row sz (setCell xs i o y) true false (ve + 1)) :: L2).map (fun x => (x.1, x.2.2)) = (k, .row sz (setCell xs i o y) true false (ve + 1)) :: adObs key (partsD ret) := by rw [List.map_cons, b1]
 rw [hmapO] at hrel havr
 refine ⟨_, hrel, p3 (b4 _ _ _ (fun x hx => ?_) fun b hb hba => ?_)⟩
 ·have hx' : x ∈ (k, gi, Ob.row sz (setCell xs i o y) true false (ve + 1)) :: L2 := by simp [hx]
  exact ⟨ovG_in hkeys hx', by rw [← hmapO]; exact ovr_in hkeys hx'⟩
 ·rw [← hmapO] at hba
  rcases hba with ⟨j, hm⟩ | hF
  ·by_cases hj : j ∈ ((k, gi, Ob.row sz (setCell xs i o y) true false (ve + 1)) :: L2).map (·.1)
   ·obtain ⟨x, hx, rfl⟩ := List.mem_map.1 hj
    rw [ovG_in hkeys hx, ovr_in hkeys hx] at hm
    rcases List.mem_cons.1 hx with rfl | hx
    ·exact absurd hm (hS'gi b hb)
    ·exact ⟨x, hx, hm⟩
   ·rw [ovG_out hj, ovr_out hj] at hm
    exfalso
    rcases r8 b hb with h1 | h1
    ·have := h.own_lt ⟨j, hm⟩; omega
    ·refine hj (List.mem_map.2 ⟨_, List.mem_cons_self, h.disj k j b ((hownk b).2 (.inr ((hsub b).2 (.inr (.inl h1))))) hm⟩)
  ·exfalso
   rcases r8 b hb with h1 | h1
   ·have := (h.ban b hF).1
    have := h.base
    omega
   ·exact h.noF (k := k) ((hownk b).2 (.inr ((hsub b).2 (.inr (.inl h1))))) hF
end rel
end Go.Fs
namespace Go.Fs
open Go.RowKit
def moveM (H : Nat → Option Ob) : AV → Option (D × Bool × (Nat → Option Ob))
 | .m k ve i o => match H k with
  | some (.row sz xs true false ve') => if ve' = ve ∧ o < sz then (xs[i]?).bind fun cs => (cs[o]?).map fun x => (x, true, upd H k (some .dead)) else none
  | _ => none
 | av => moveC H av
def moveMs (H : Nat → Option Ob) : List AV → Option (List D × Bool × (Nat → Option Ob))
 | [] => some ([], true, H)
 | av :: avs => (moveM H av).bind fun x => (moveMs x.2.2 avs).bind fun y => some (x.1 :: y.1, x.2.1 && y.2.1, y.2.2)
def moveMV (H : Nat → Option Ob) : AV → Option (D × Bool × (Nat → Option Ob))
 | .g cs => (moveMs H cs).map fun m => (.g m.1, m.2.1, m.2.2)
 | av => moveM H av
def moveMVs (H : Nat → Option Ob) : List AV → Option (List D × Bool × (Nat → Option Ob))
 | [] => some ([], true, H)
 | av :: avs => (moveMV H av).bind fun x => (moveMVs x.2.2 avs).bind fun y => some (x.1 :: y.1, x.2.1 && y.2.1, y.2.2)
def outM (T : Tab) (s : St) (rs : List ResultVar) : Option Ret := (resL T s rs).bind fun avs => (moveMVs s.heap avs).bind fun y => some { ret := packD y.1, deep := y.2.1, io := none }
def EndM (T : Tab) (B : Ctx) (rs : List ResultVar) (out : Ret) : Exit → Act → World → Prop := fun e a w => (e = .normal ∨ e = .ret) ∧ ∃ G s, RelG B G s a w ∧ outM T s rs = some out
section rel
variable {P : Program} {T : Tab} {B : Ctx} {G : Nat → GI} {s : St} {a : Act} {w w' : World}
theorem moveM_ok (h : RelG B G s a w) {v : Value} {av : AV} (hv : AVR w G s.heap (Ban B.F G s.heap) v av) {d : D} {f : Bool} {H' : Nat → Option Ob} (hm : moveM s.heap av = some (d, f, H')) :
 Moved B G s a w H' ∧ ∃ S, Tr w f v d S ∧ v.oneCell' = true ∧ (∀ b ∈ S, ¬ Ban B.F G H' b) ∧ (f = true → S.Nodup ∧ ∀ b ∈ S, Own G s.heap b) := by
 unfold moveM at hm
 split at hm
 case h_2 => exact moveC_ok h hv hm
 rename_i k ve i o
 split at hm
 case h_2 => cases hm
 rename_i sz xs ve' hk
 split at hm
 case isFalse => cases hm
 rename_i hc0
 obtain ⟨rfl, ho⟩ := hc0
 obtain ⟨cs, e8, hm⟩ := Option.bind_eq_some_iff.1 hm
 obtain ⟨x, e9, hm⟩ := Option.map_eq_some_iff.1 hm
 simp only [Prod.mk.injEq] at hm
 obtain ⟨rfl, rfl, rfl⟩ := hm
 have hi : i < xs.length := (List.getElem?_eq_some_iff.1 e8).1
 have e5 : xs.getD i [] = cs := by rw [List.getD_eq_getElem?_getD, e8]; rfl
 have e6 : cs.getD o .u = x := by rw [List.getD_eq_getElem?_getD, e9]; rfl
 have hR : RowR w (Ban B.F G s.heap) (G k) sz xs true false := h.obj k _ hk
 have hc : (G k).cap ≠ 0 := by have := hR.cap; omega
 have hownk : ∀ b, b ∈ ownOf (G k) (s.heap k) ↔ b = (G k).blk ∨ b ∈ (G k).sub := fun b => by rw [hk]; simp [ownOf, hc]
 have hnd := h.nodup k
 rw [hk] at hnd
 have hnd : (G k).blk ∉ (G k).sub ∧ (G k).sub.Nodup := by simpa [ownOf, hc] using hnd
 have hcell := cell_get hR.uni hi ho
 rw [e5, e6] at hcell
 obtain ⟨v', S1, Sm, S2, e1, t1, eS, _⟩ := hR.tr.at hcell
 obtain ⟨rfl, h1⟩ : v' = v ∧ v.oneCell' = true := by
  cases hv with
  | m _ _ _ sz' xs' dp fz _ _ z ys hk' hj hv' h1 =>
   rw [hk] at hk'; cases hk'
   rw [e1] at hv'
   exact ⟨Option.some.inj hv', h1⟩
  | mo _ _ _ sz' xs' dp fz _ ve' _ hk' hlt => rw [hk] at hk'; cases hk'; omega
  | md _ _ _ _ _ hk' => rw [hk] at hk'; cases hk'
 have hnS := hnd.2
 rw [eS] at hnS
 obtain ⟨n1, n2, n3⟩ := List.nodup_append.1 hnS
 obtain ⟨n4, n5, n6⟩ := List.nodup_append.1 n2
 have hmem : ∀ b ∈ Sm, b ∈ ownOf (G k) (s.heap k) := fun b hb => (hownk b).2 (.inr (by rw [eS]; simp [hb]))
 have hne : s.heap k ≠ none := by rw [hk]; simp
 refine ⟨⟨h.kill k hne, fun hv => hv.kill k hne, fun b hb => (own_kill hb).1, fun i => by
  by_cases e : i = k
  ·subst e; exact .inr ⟨hne, upd_same ..⟩
  ·exact .inl (upd_ne _ _ e)⟩, Sm, t1, h1, fun b hb hn => ?_, fun _ => ⟨n4, fun b hb => ⟨k, hmem b hb⟩⟩⟩
 rcases hn with hn | hn
 ·obtain ⟨_, i', hi', hm'⟩ := own_kill hn
  exact hi' (h.disj i' k b hm' (hmem b hb))
 ·exact h.noF (hmem b hb) hn
theorem moveMs_ok : ∀ {s : St} (h : RelG B G s a w) {vs : List Value} {avs : List AV} (hv : AVRL w G s.heap (Ban B.F G s.heap) vs avs) {ds : List D} {f : Bool} {H' : Nat → Option Ob} (hm : moveMs s.heap avs = some (ds, f, H')),
 Moved B G s a w H' ∧ ∃ S, TrL w f vs ds S ∧ (∀ v ∈ vs, v.oneCell' = true) ∧ (∀ b ∈ S, ¬ Ban B.F G H' b) ∧ (f = true → S.Nodup ∧ ∀ b ∈ S, Own G s.heap b) := by
 intro s h vs avs hv
 induction avs generalizing s vs with
 | nil =>
  intro ds f H' hm
  cases hv
  simp only [moveMs, Option.some.injEq, Prod.mk.injEq] at hm
  obtain ⟨rfl, rfl, rfl⟩ := hm
  exact ⟨.refl h, [], .nil, by simp, by simp, fun _ => ⟨List.nodup_nil, by simp⟩⟩
 | cons av avs ih =>
  intro ds f H' hm
  cases hv with
  | cons v _ vs _ hv hvs =>
   simp only [moveMs, Option.bind_eq_some_iff] at hm
   obtain ⟨⟨d1, f1, H1⟩, m1, ⟨d2, f2, H2⟩, m2, hm⟩ := hm
   simp only [Option.some.injEq, Prod.mk.injEq] at hm
   obtain ⟨rfl, rfl, rfl⟩ := hm
   obtain ⟨M1, S1, t1, o1, n1, w1⟩ := moveM_ok h hv m1
   have hvs1 : AVRL w G H1 (Ban B.F G H1) vs avs := by
    have := M1.avr (.t vs.toArray avs (by simpa using hvs))
    cases this with
    | t _ _ h => simpa using h
   obtain ⟨M2, S2, t2, o2, n2, w2⟩ := ih M1.rel hvs1 m2
   refine ⟨M1.trans M2, S1 ++ S2, ?_, ?_, ?_, ?_⟩
   ·by_cases e : (f1 && f2) = true
    ·rw [e]
     simp at e
     rw [e.1] at t1
     rw [e.2] at t2
     exact .cons _ _ _ _ _ _ t1 t2
    ·rw [Bool.not_eq_true] at e
     rw [e]
     exact .cons _ _ _ _ _ _ t1.shared t2.shared
   ·intro u hu
    rcases List.mem_cons.1 hu with rfl | hu
    ·exact o1
    ·exact o2 u hu
   ·intro b hb hn
    rcases List.mem_append.1 hb with hb | hb
    ·exact n1 b hb (M2.ban hn)
    ·exact n2 b hb hn
   ·intro e
    simp at e
    obtain ⟨a1, a2⟩ := w1 e.1
    obtain ⟨b1, b2⟩ := w2 e.2
    refine ⟨List.nodup_append.2 ⟨a1, b1, fun x hx y hy e => ?_⟩, fun b hb => ?_⟩
    ·subst e
     exact n1 x hx (.inl (b2 x hy))
    ·rcases List.mem_append.1 hb with hb | hb
     ·exact a2 b hb
     ·exact M1.own b (b2 b hb)
theorem moveMV_ok (h : RelG B G s a w) {v : Value} {av : AV} (hv : AVR w G s.heap (Ban B.F G s.heap) v av) {d : D} {f : Bool} {H' : Nat → Option Ob} (hm : moveMV s.heap av = some (d, f, H')) :
 Moved B G s a w H' ∧ ∃ S, Tr w f v d S ∧ Flat v ∧ (∀ b ∈ S, ¬ Ban B.F G H' b) ∧ (f = true → S.Nodup ∧ ∀ b ∈ S, Own G s.heap b) := by
 cases hav : av with
 | g cs =>
  subst hav
  simp only [moveMV, Option.map_eq_some_iff, Prod.mk.injEq] at hm
  obtain ⟨⟨ds, f', H1⟩, m1, rfl, rfl, rfl⟩ := hm
  cases hv with
  | g vs _ hvs =>
   obtain ⟨M, S, t, o, n, w1⟩ := moveMs_ok h hvs m1
   exact ⟨M, S, .g _ _ _ t, o, n, w1⟩
 | _ =>
  subst hav
  obtain ⟨M, S, t, o, n, w1⟩ := moveM_ok h hv hm
  exact ⟨M, S, t, flat_one o, n, w1⟩
theorem moveMVs_ok : ∀ {s : St} (h : RelG B G s a w) {vs : List Value} {avs : List AV} (hv : AVRL w G s.heap (Ban B.F G s.heap) vs avs) {ds : List D} {f : Bool} {H' : Nat → Option Ob} (hm : moveMVs s.heap avs = some (ds, f, H')),
 Moved B G s a w H' ∧ ∃ S, TrL w f vs ds S ∧ (∀ v ∈ vs, Flat v) ∧ (∀ b ∈ S, ¬ Ban B.F G H' b) ∧ (f = true → S.Nodup ∧ ∀ b ∈ S, Own G s.heap b)
 | s, h, _, _, .nil, ds, f, H', hm => by
  simp only [moveMVs, Option.some.injEq, Prod.mk.injEq] at hm
  obtain ⟨rfl, rfl, rfl⟩ := hm
  exact ⟨.refl h, [], .nil, by simp, by simp, fun _ => ⟨List.nodup_nil, by simp⟩⟩
 | s, h, _, _, .cons v av vs avs hv hvs, ds, f, H', hm => by
  simp only [moveMVs, Option.bind_eq_some_iff] at hm
  obtain ⟨⟨d1, f1, H1⟩, m1, ⟨d2, f2, H2⟩, m2, hm⟩ := hm
  simp only [Option.some.injEq, Prod.mk.injEq] at hm
  obtain ⟨rfl, rfl, rfl⟩ := hm
  obtain ⟨M1, S1, t1, o1, n1, w1⟩ := moveMV_ok h hv m1
  obtain ⟨M2, S2, t2, o2, n2, w2⟩ := moveMVs_ok M1.rel (M1.avrl hvs) m2
  refine ⟨M1.trans M2, S1 ++ S2, ?_, ?_, ?_, ?_⟩
  ·by_cases e : (f1 && f2) = true
   ·rw [e]
    simp at e
    rw [e.1] at t1
    rw [e.2] at t2
    exact .cons _ _ _ _ _ _ t1 t2
   ·rw [Bool.not_eq_true] at e
    rw [e]
    exact .cons _ _ _ _ _ _ t1.shared t2.shared
  ·intro u hu
   rcases List.mem_cons.1 hu with rfl | hu
   ·exact o1
   ·exact o2 u hu
  ·intro b hb hn
   rcases List.mem_append.1 hb with hb | hb
   ·exact n1 b hb (M2.ban hn)
   ·exact n2 b hb hn
  ·intro e
   simp at e
   obtain ⟨a1, a2⟩ := w1 e.1
   obtain ⟨b1, b2⟩ := w2 e.2
   refine ⟨List.nodup_append.2 ⟨a1, b1, fun x hx y hy e => ?_⟩, fun b hb => ?_⟩
   ·subst e
    exact n1 x hx (.inl (b2 x hy))
   ·rcases List.mem_append.1 hb with hb | hb
    ·exact a2 b hb
    ·exact M1.own b (b2 b hb)
theorem leave_okM (hT : T.ok P = true) (h : RelG B G s a w') {fn : Func} {rs : List ResultVar} (hr : fn.results.toList = rs) {out : Ret} (ho : outM T s rs = some out) {args : List Value} {Sd M : List Nat}
 (hbase : B.base = w.heap.size) (hw0 : B.w0 = w) (hF : ∀ b, B.F b ↔ (nG ≤ b ∧ b < w.heap.size ∧ b ∉ Sd ∧ b ∉ M)) (hM : ∀ b, B.M b ↔ b ∈ M) :
 ∃ v, (results fn a.tmps).run P w' = .ok v w' ∧ Post w args Sd M out v w' := by
 simp only [outM, Option.bind_eq_some_iff] at ho
 obtain ⟨avs, m0, ⟨ds, f, H2⟩, m2, ho⟩ := ho
 obtain ⟨us, v, hv, hus, hvs⟩ := run_results hT h (hr ▸ m0)
 refine ⟨v, hv, ?_⟩
 obtain ⟨M2, S, t2, o2, n2, w2⟩ := moveMVs_ok h hus m2
 have hlen : ds.length = us.length := by rw [← t2.length]
 -- the answer
 have hret : ∀ {fl : Bool} {S : List Nat}, TrL w' fl us ds S → ∃ S', Tr w' fl v (packD ds) S' ∧ (∀ b, b ∈ S' ↔ b ∈ S) ∧ (S.Nodup → S'.Nodup) := by
  intro fl S ht
  rcases hvs with ⟨t, rfl, rfl⟩ | ⟨h1, rfl⟩
  ·cases ht with
   | cons _ d S1 _ ds1 S2 ht hts =>
    cases hts
    exact ⟨S1, ht, by simp, by simp⟩
  ·have : packD ds = .t ds := by
    match ds, hlen with
    | [], _ => rfl
    | [d], hl => exact absurd hl.symm h1
    | _ :: _ :: _, _ => rfl
   rw [this]
   exact ⟨S, .t _ _ _ (by simpa using ht), fun _ => Iff.rfl, fun h => h⟩
 have hfl : RetFlat v := by
  rcases hvs with ⟨t, rfl, rfl⟩ | ⟨_, rfl⟩
  ·exact .inl (o2 _ (by simp))
  ·exact .inr ⟨_, rfl, by simpa using o2⟩
 have hge : ∀ b, Own G s.heap b → w.heap.size ≤ b ∨ b ∈ M := fun b ⟨k, hk⟩ => by
  have := h.ge k b hk
  rw [hbase] at this
  exact this.imp id (hM b).1
 have hrest : Rest w w' := hw0 ▸ h.rest
 have hkeep : ∀ b, b < w.heap.size → b ∉ M → w'.heap[b]? = w.heap[b]? := fun b hb hn => by
  rw [← hw0]
  exact h.below b (hbase ▸ hb) fun hm => hn ((hM b).1 hm)
 have hnF : ∀ {b : Nat}, ¬ B.F b → w.heap.size ≤ b ∨ b ∈ Sd ∨ b ∈ M ∨ b < nG := fun {b} hn => by
  rcases Nat.lt_or_ge b w.heap.size with h1 | h1
  ·by_cases h2 : b ∈ Sd
   ·exact .inr (.inl h2)
   ·by_cases h3 : b ∈ M
    ·exact .inr (.inr (.inl h3))
    ·rcases Nat.lt_or_ge b nG with h4 | h4
     ·exact .inr (.inr (.inr h4))
     ·exact absurd ((hF b).2 ⟨h4, h1, h2, h3⟩) hn
  ·exact .inl h1
 simp only [Option.some.injEq] at ho
 subst ho
 obtain ⟨S', r1, r2, r3⟩ := hret t2
 refine ⟨hrest, hkeep, S', [], r1, hfl, rfl, List.nodup_nil, by simp, by simp, fun hf => ?_, fun b hb => hnF fun hf => n2 b ((r2 b).1 hb) (.inr hf)⟩
 obtain ⟨q1, q2⟩ := w2 hf
 exact ⟨r3 q1, fun b hb => hge b (q2 b ((r2 b).1 hb))⟩
theorem fnOK_ofM (hT : T.ok P = true) {f : FuncId} {fn : Func} {c : Code} (hf : P.funcs[f]? = some fn) (hb : fn.body = some c) (hnm : (fn.name == "runtime.NumGoroutine") = false) {rs : List ResultVar} (hres : fn.results.toList = rs)
 {ins : List In} (hi : insOK ins = true) (hn : ins.length ≤ fn.ntmps) {out : Ret} (hbody : ∀ B G a w, RelG B G (inSt fn.ntmps ins) a w → B.aa = .x → c.wp P (EndM T B rs out) a w) : FnOK P f ins out := by
 intro w args Sd M hkn ha hM hd
 obtain ⟨B, G, hrel, h1, h2, h3, h4, h5, h6⟩ := enter_rel hi hkn ha hM hd hn
 obtain ⟨b1, b2, b3, b4, b5, b6, b7, b8, b9, b10, b11, b12⟩ := hrel
 have hrel' : RelG { base := B.base, w0 := B.w0, F := B.F, M := B.M, av := undef, aa := .x, kn := B.kn, kb := B.kb, kF := B.kF } G (inSt fn.ntmps ins) { tmps := args.toArray ++ Array.replicate (fn.ntmps - args.toArray.size) undef, defers := [] } w :=
  ⟨b1, b2, b3, b4, b5, b6, b7, b8, b9, b10, b11, .x _⟩
 refine .inl ⟨?_, ?_⟩
 ·have : ¬ fn.name = "runtime.NumGoroutine" := by simpa using hnm
  simp [callFunc, hf, hb, this]
 ·refine calls_of_wp hf hb (wp_mono (hbody _ G _ w hrel' rfl) fun e a' w' he => ?_)
  obtain ⟨he, G', s', hr, ho⟩ := he
  obtain ⟨v, hv, hp⟩ := leave_okM hT (w := w) (args := args) (Sd := Sd) (M := M) hr hres ho h1 h2 h3 h4
  rcases he with rfl | rfl
  ·exact ⟨hr.defers, v, hv, hp⟩
  ·exact ⟨hr.defers, v, hv, hp⟩
theorem call_eat (h : RelG B G s a w) {f : FuncId} {av : AV} {v : Value} (hv : AVR w G s.heap (Ban B.F G s.heap) v av)
 {rest : List AV} {vs : List Value} (hrest : AVRL w G s.heap (Ban B.F G s.heap) vs rest) {ds0 : List D} {ks : List Nat} (hic : ioCs s.heap (cellsA av) = some (ds0, ks)) {ds : List D} (hb : borL s.heap rest = some ds)
 (hks : ks.Nodup) (hdis : ∀ k ∈ ks, k ∉ rest.flatMap (keyA s.heap)) {ret : D} (hf : FnOK P f (.io (ioD av ds0) :: ds.map .d) { ret := ret })
 {key : Nat} (hfree : ∀ x ∈ adObs key (partsD ret), s.heap x.1 = none) :
 Does P f (v :: vs).toArray w fun u w' => ∃ G', RelG B G' { s with heap := ovr (ks.map (fun k => (k, Ob.dead)) ++ adObs key (partsD ret)) s.heap } a w' ∧
  AVR w' G' (ovr (ks.map (fun k => (k, Ob.dead)) ++ adObs key (partsD ret)) s.heap) (Ban B.F G' (ovr (ks.map (fun k => (k, Ob.dead)) ++ adObs key (partsD ret)) s.heap)) u (retAV ret (adCells key (partsD ret))) := by
 have hcv : AVRL w G s.heap (Ban B.F G s.heap) v.cells.toList (cellsA av) ∧ Flat v ∧ ∀ S, TrL w true v.cells.toList ds0 S → Tr w true v (ioD av ds0) S := by
  cases hav : av with
  | g cs =>
   subst hav
   cases hv with
   | g us _ hus =>
    obtain ⟨_, _, o, _⟩ := ioCs_ok h hus hic
    exact ⟨hus, o, fun S hS => .g _ _ _ hS⟩
  | _ =>
   subst hav
   simp only [cellsA] at hic
   obtain ⟨_, ht, o, _⟩ := ioCs_ok h (.cons _ _ _ _ hv .nil) hic
   have o1 := o v (by simp)
   have hc1 : v.cells = #[v] := by cases v <;> simp_all [Value.cells, Value.oneCell']
   rw [hc1]
   refine ⟨.cons _ _ _ _ hv .nil, flat_one o1, fun S hS => ?_⟩
   cases hS with
   | cons _ d S1 _ ds1 S2 h1 h2 =>
    cases h2
    simpa [ioD] using h1
 obtain ⟨hcv, hfl, hargs⟩ := hcv
 obtain ⟨S, t1, t2, t3, t4, t5⟩ := ioCs_ok h hcv hic
 obtain ⟨Sd, u1, u2⟩ := borL_ok h hrest hb
 have hA : ArgsR w (v :: vs) (.io (ioD av ds0) :: ds.map .d) Sd (S ++ []) := .io v _ S vs _ Sd [] (hargs S t1) hfl u1
 rw [List.append_nil] at hA
 refine (hf w _ Sd S (h.knW fun b hb => by obtain ⟨k, _, hm⟩ := t3 b hb; exact ⟨k, hm⟩) hA (t4 hks) fun b hb hbd => ?_).mono fun u w' hp => ?_
 ·obtain ⟨k, hk, hm⟩ := t3 b hb
  exact hdis k hk ((u2 b hbd).2 k hm)
 obtain ⟨hr, hkeep, S', Si, r1, r2, r3, r4, r5, r6, r7, _⟩ := hp
 obtain ⟨r7, r8⟩ := r7 rfl
 obtain ⟨us, p1, p2, p3⟩ := parts_tr r1 r2
 obtain ⟨L2, b1, b2, b3, b4⟩ := adEnts p1 r7 p2 key
 let L1 : List (Nat × GI × Ob) := ks.map fun k => (k, G k, Ob.dead)
 have a1 : L1.map (fun x => (x.1, x.2.2)) = ks.map (fun k => (k, Ob.dead)) := by simp [L1]
 have a2 : L1.map (·.1) = ks := by
  show (ks.map fun k => (k, G k, Ob.dead)).map (·.1) = ks
  rw [List.map_map]
  exact (List.map_congr_left fun _ _ => rfl).trans (List.map_id ks)
 have d1 : ∀ x ∈ L1, x.2.2 = Ob.dead := fun x hx => by
  obtain ⟨k, _, rfl⟩ := List.mem_map.1 hx; rfl
 have hkk : ∀ x ∈ L1, ∀ y ∈ L2, x.1 ≠ y.1 := by
  intro x hx y hy e
  have h1 : x.1 ∈ ks := by rw [← a2]; exact List.mem_map.2 ⟨x, hx, rfl⟩
  have h2 := hfree (y.1, y.2.2) (by rw [← b1]; exact List.mem_map.2 ⟨y, hy, rfl⟩)
  exact t5 x.1 h1 (by rw [e]; exact h2)
 have hkeys : ((L1 ++ L2).map (·.1)).Nodup := by
  rw [List.map_append]
  refine List.nodup_append.2 ⟨by rw [a2]; exact hks, b3.keys, fun i hi j hj e => ?_⟩
  obtain ⟨x, hx, rfl⟩ := List.mem_map.1 hi
  obtain ⟨y, hy, rfl⟩ := List.mem_map.1 hj
  exact hkk x hx y hy e
 have own0 : ∀ x ∈ L1, ownOf x.2.1 (some x.2.2) = [] := fun x hx => by rw [d1 x hx]; rfl
 have hM : ∀ b ∈ S, ∃ x ∈ L1 ++ L2, b ∈ ownOf (G x.1) (s.heap x.1) := fun b hb => by
  obtain ⟨k, hk, hm⟩ := t3 b hb
  rw [← a2] at hk
  obtain ⟨x, hx, rfl⟩ := List.mem_map.1 hk
  exact ⟨x, by simp [hx], hm⟩
 obtain ⟨hrel, havr⟩ := h.steps (L1 ++ L2) hkeys hr (fun b hb hn => hkeep b hb fun hbS => by
  obtain ⟨x, hx, hm⟩ := hM b hbS
  exact hn x hx hm) (fun x hx o ho => by
  rcases List.mem_append.1 hx with hx | hx
  ·rw [d1 x hx]; exact .dead _
  ·have := hfree (x.1, x.2.2) (by rw [← b1]; exact List.mem_map.2 ⟨x, hx, rfl⟩)
   rw [ho] at this; cases this) (fun x hx b hb => by
  rcases List.mem_append.1 hx with hx | hx
  ·rw [own0 x hx] at hb; cases hb
  ·rcases r8 b (b3.sub x hx b hb) with h1 | h1
   ·exact .inr h1
   ·exact .inl (hM b h1)) (fun x hx => by
  rcases List.mem_append.1 hx with hx | hx
  ·rw [own0 x hx]; exact List.nodup_nil
  ·exact b3.nd x hx) (fun x hx y hy b hb hb' => by
  rcases List.mem_append.1 hx with hx | hx
  ·rw [own0 x hx] at hb; cases hb
  ·rcases List.mem_append.1 hy with hy | hy
   ·rw [own0 y hy] at hb'; cases hb'
   ·exact b3.dis x hx y hy b hb hb') (fun x hx => by
  rcases List.mem_append.1 hx with hx | hx
  ·rw [d1 x hx]; trivial
  ·obtain ⟨sz, xs, ve, e, hR⟩ := b3.row x hx
   rw [e]
   exact hR _)
 have hmapO : (L1 ++ L2).map (fun x => (x.1, x.2.2)) = ks.map (fun k => (k, Ob.dead)) ++ adObs key (partsD ret) := by rw [List.map_append, a1, b1]
 rw [hmapO] at hrel havr
 refine ⟨_, hrel, p3 (b4 _ _ _ (fun x hx => ?_) fun b hb hba => ?_)⟩
 ·have hx' : x ∈ L1 ++ L2 := by simp [hx]
  exact ⟨ovG_in hkeys hx', by rw [← hmapO]; exact ovr_in hkeys hx'⟩
 ·rw [← hmapO] at hba
  rcases hba with ⟨k, hm⟩ | hF
  ·by_cases hk : k ∈ (L1 ++ L2).map (·.1)
   ·obtain ⟨x, hx, rfl⟩ := List.mem_map.1 hk
    rw [ovG_in hkeys hx, ovr_in hkeys hx] at hm
    rcases List.mem_append.1 hx with hx | hx
    ·rw [own0 x hx] at hm; cases hm
    ·exact ⟨x, hx, hm⟩
   ·rw [ovG_out hk, ovr_out hk] at hm
    exfalso
    rcases r8 b hb with h1 | h1
    ·have := h.own_lt ⟨k, hm⟩; omega
    ·obtain ⟨x, hx, hmx⟩ := hM b h1
     exact hk (List.mem_map.2 ⟨x, hx, h.disj x.1 k b hmx hm⟩)
  ·exfalso
   rcases r8 b hb with h1 | h1
   ·have := (h.ban b hF).1
    have := h.base
    omega
   ·obtain ⟨x, hx, hmx⟩ := hM b h1
    exact h.noF hmx hF
end rel
end Go.Fs
namespace Go.Fs
open Go.RowKit
section rel
variable {P : Program} {T : Tab} {B : Ctx} {G : Nat → GI} {s : St} {a : Act} {w w' : World}
def bxObs (k : Nat) (ks : List Nat) (keyb : Nat) (y : List D) (key : Nat) (ret : D) : List (Nat × Ob) :=
 (k, .box (adCells keyb y)) :: (ks.map (fun k => (k, Ob.dead)) ++ (adObs keyb y ++ adObs key (partsD ret)))
theorem call_box (h : RelG B G s a w) {f : FuncId} {k : Nat} {cs : List AV} (hk : s.heap k = some (.box cs)) {v : Value} (hv : AVR w G s.heap (Ban B.F G s.heap) v (.a k 0))
 {rest : List AV} {vs : List Value} (hrest : AVRL w G s.heap (Ban B.F G s.heap) vs rest) {ds0 : List D} {ks : List Nat} (hic : ioCs s.heap cs = some (ds0, ks)) {ds : List D} (hb : borL s.heap rest = some ds)
 (hks : (k :: ks).Nodup) (hdis : ∀ i ∈ k :: ks, i ∉ rest.flatMap (keyA s.heap)) {ret : D} {y : List D} (hf : FnOK P f (.io (.p ds0) :: ds.map .d) { ret := ret, io := some (.p y) })
 {key keyb : Nat} (hfree : ∀ x ∈ adObs keyb y ++ adObs key (partsD ret), s.heap x.1 = none) (hkk : ∀ x ∈ adObs keyb y, ∀ z ∈ adObs key (partsD ret), x.1 ≠ z.1) :
 Does P f (v :: vs).toArray w fun u w' => ∃ G', RelG B G' { s with heap := ovr (bxObs k ks keyb y key ret) s.heap } a w' ∧
  AVR w' G' (ovr (bxObs k ks keyb y key ret) s.heap) (Ban B.F G' (ovr (bxObs k ks keyb y key ret) s.heap)) u (retAV ret (adCells key (partsD ret))) := by
 have hv0 : v = .pointer (some ⟨(G k).blk, 0, none⟩) := by
  cases hv with
  | a _ _ cs' _ => rfl
  | ad _ _ _ hk' => rw [hk] at hk'; cases hk'
 subst hv0
 obtain ⟨cur, el, hg, hcs, h1⟩ : BoxR w G s.heap (Ban B.F G s.heap) (G k) cs := h.obj k _ hk
 obtain ⟨S, t1, t2, t3, t4, t5⟩ := ioCs_ok h hcs hic
 obtain ⟨Sd, u1, u2⟩ := borL_ok h hrest hb
 have hkb : (G k).blk ∈ ownOf (G k) (s.heap k) := by rw [hk]; simp [ownOf]
 obtain ⟨hk1, hk2⟩ := List.nodup_cons.1 hks
 have hS1 : (G k).blk ∉ S := fun hm => by
  obtain ⟨i, hi, hm⟩ := t3 _ hm
  have := h.disj i k _ hm hkb
  exact hk1 (this ▸ hi)
 have hTr : Tr w true (.pointer (some ⟨(G k).blk, 0, none⟩)) (.p ds0) ((G k).blk :: S) :=
  .p (G k).blk 0 cur el (0, 0) cur.toList ds0 S hg (fun j v hj => by simpa using hj) h1 (fun _ => ⟨rfl, rfl, by simp⟩) t1
 have hA : ArgsR w (.pointer (some ⟨(G k).blk, 0, none⟩) :: vs) (.io (.p ds0) :: ds.map .d) Sd (((G k).blk :: S) ++ []) := .io _ _ _ vs _ Sd [] hTr (flat_one rfl) u1
 rw [List.append_nil] at hA
 have hin : ∀ b ∈ (G k).blk :: S, ∃ i ∈ k :: ks, b ∈ ownOf (G i) (s.heap i) := fun b hb => by
  rcases List.mem_cons.1 hb with rfl | hb
  ·exact ⟨k, by simp, hkb⟩
  ·obtain ⟨i, hi, hm⟩ := t3 b hb
   exact ⟨i, by simp [hi], hm⟩
 refine (hf w _ Sd _ (h.knW fun b hb => by obtain ⟨i, _, hm⟩ := hin b hb; exact ⟨i, hm⟩) hA (List.nodup_cons.2 ⟨hS1, t4 hk2⟩) fun b hb hbd => ?_).mono fun u w' hp => ?_
 ·obtain ⟨i, hi, hm⟩ := hin b hb
  exact hdis i hi ((u2 b hbd).2 i hm)
 obtain ⟨hr, hkeep, S', Si, r1, r2, r3, r4, r5, r6, r7, _⟩ := hp
 obtain ⟨q7, q8⟩ := r7 rfl
 obtain ⟨v1, vs1, e, ht⟩ := r3
 simp only [List.cons.injEq] at e
 obtain ⟨rfl, rfl⟩ := e
 generalize hgb : (G k).blk = gb at *
 cases ht with
 | p g o cur' el' fr' vs' _ Sb hg' hvc h1' ho hs' =>
 obtain ⟨rfl, _, hsz⟩ := ho rfl
 obtain rfl : vs' = cur'.toList := by
  refine List.ext_getElem? fun j => ?_
  rcases Nat.lt_or_ge j vs'.length with hj | hj
  ·have := hvc j _ (List.getElem?_eq_getElem hj)
   rw [List.getElem?_eq_getElem hj, ← this]
   simp
  ·rw [List.getElem?_eq_none hj, List.getElem?_eq_none (by simpa [hsz] using hj)]
 obtain ⟨nb1, nb2⟩ := List.nodup_cons.1 r4
 obtain ⟨us, p1, p2, p3⟩ := parts_tr r1 r2
 obtain ⟨L3, c1, c2, c3, c4⟩ := adEnts hs' nb2 h1' keyb
 obtain ⟨L2, b1, b2, b3, b4⟩ := adEnts p1 q7 p2 key
 let L1 : List (Nat × GI × Ob) := ks.map fun k => (k, G k, Ob.dead)
 let L0 : Nat × GI × Ob := (k, G k, .box (adCells keyb y))
 have a1 : L1.map (fun x => (x.1, x.2.2)) = ks.map (fun k => (k, Ob.dead)) := by simp [L1]
 have a2 : L1.map (·.1) = ks := by
  show (ks.map fun k => (k, G k, Ob.dead)).map (·.1) = ks
  rw [List.map_map]
  exact (List.map_congr_left fun _ _ => rfl).trans (List.map_id ks)
 have d1 : ∀ x ∈ L1, x.2.2 = Ob.dead := fun x hx => by
  obtain ⟨k, _, rfl⟩ := List.mem_map.1 hx; rfl
 have own1 : ∀ x ∈ L1, ownOf x.2.1 (some x.2.2) = [] := fun x hx => by rw [d1 x hx]; rfl
 have own0 : ownOf L0.2.1 (some L0.2.2) = [gb] := by show [(G k).blk] = _; rw [hgb]
 have L1k : ∀ x ∈ L1, x.1 ∈ ks := fun x hx => by rw [← a2]; exact List.mem_map.2 ⟨x, hx, rfl⟩
 have f3 : ∀ x ∈ L3, s.heap x.1 = none := fun x hx => hfree (x.1, x.2.2) (List.mem_append.2 (.inl (by rw [← c1]; exact List.mem_map.2 ⟨x, hx, rfl⟩)))
 have f2 : ∀ x ∈ L2, s.heap x.1 = none := fun x hx => hfree (x.1, x.2.2) (List.mem_append.2 (.inr (by rw [← b1]; exact List.mem_map.2 ⟨x, hx, rfl⟩)))
 have k32 : ∀ x ∈ L3, ∀ z ∈ L2, x.1 ≠ z.1 := fun x hx z hz => hkk (x.1, x.2.2) (by rw [← c1]; exact List.mem_map.2 ⟨x, hx, rfl⟩) (z.1, z.2.2) (by rw [← b1]; exact List.mem_map.2 ⟨z, hz, rfl⟩)
 have hold : ∀ i ∈ k :: ks, s.heap i ≠ none := fun i hi => by
  rcases List.mem_cons.1 hi with rfl | hi
  ·rw [hk]; simp
  ·exact t5 i hi
 -- new rows of both kinds
 have hd32 : ∀ b ∈ Sb, b ∉ S' := fun b hb hb' => r6 b hb' (List.mem_cons_of_mem _ hb)
 have hE := c3.append b3 k32 hd32
 have hgS' : gb ∉ S' := fun hb => r6 gb hb (List.mem_cons_self)
 have hnew : ∀ x ∈ L3 ++ L2, s.heap x.1 = none := fun x hx => (List.mem_append.1 hx).elim (f3 x) (f2 x)
 have hgn : ∀ x ∈ L3 ++ L2, gb ∉ ownOf x.2.1 (some x.2.2) := fun x hx hm => by
  rcases List.mem_append.1 (hE.sub x hx gb hm) with h2 | h2
  ·exact nb1 h2
  ·exact hgS' h2
 let L : List (Nat × GI × Ob) := L0 :: (L1 ++ (L3 ++ L2))
 have cases4 : ∀ x ∈ L, x = L0 ∨ x ∈ L1 ∨ x ∈ L3 ++ L2 := fun x hx => by
  rcases List.mem_cons.1 hx with rfl | hx
  ·exact .inl rfl
  ·exact .inr (List.mem_append.1 hx)
 have hkeys : (L.map (·.1)).Nodup := by
  refine List.nodup_cons.2 ⟨fun hm => ?_, ?_⟩
  ·obtain ⟨x, hx, e⟩ := List.mem_map.1 hm
   have e : x.1 = k := e
   rcases List.mem_append.1 hx with hx | hx
   ·exact hk1 (e ▸ L1k x hx)
   ·have := hnew x hx; rw [e, hk] at this; cases this
  ·rw [List.map_append]
   refine List.nodup_append.2 ⟨by rw [a2]; exact hk2, hE.keys, fun i hi j hj e => ?_⟩
   obtain ⟨x, hx, rfl⟩ := List.mem_map.1 hi
   obtain ⟨z, hz, rfl⟩ := List.mem_map.1 hj
   exact t5 x.1 (L1k x hx) (by rw [e]; exact hnew z hz)
 have hM : ∀ b ∈ gb :: S, ∃ x ∈ L, b ∈ ownOf (G x.1) (s.heap x.1) := fun b hb => by
  rcases List.mem_cons.1 hb with rfl | hb
  ·exact ⟨L0, by simp [L], hkb⟩
  ·obtain ⟨i, hi, hm⟩ := t3 b hb
   rw [← a2] at hi
   obtain ⟨x, hx, rfl⟩ := List.mem_map.1 hi
   exact ⟨x, by simp [L, hx], hm⟩
 have hfresh : ∀ b ∈ Sb ++ S', w.heap.size ≤ b ∨ ∃ x ∈ L, b ∈ ownOf (G x.1) (s.heap x.1) := fun b hb => by
  have : w.heap.size ≤ b ∨ b ∈ gb :: S := by
   rcases List.mem_append.1 hb with hb | hb
   ·exact r5 b (List.mem_cons_of_mem _ hb)
   ·exact q8 b hb
  rcases this with h1 | h1
  ·exact .inl h1
  ·exact .inr (hM b h1)
 have inGL : ∀ x ∈ L, ovG (L.map fun x => (x.1, x.2.1)) G x.1 = x.2.1 := fun x hx => ovG_in hkeys hx
 have inHL : ∀ x ∈ L, ovr (L.map fun x => (x.1, x.2.2)) s.heap x.1 = some x.2.2 := fun x hx => ovr_in hkeys hx
 -- a block of what is given that is barred is owned through a new row
 have banned : ∀ b ∈ Sb ++ S', Ban B.F (ovG (L.map fun x => (x.1, x.2.1)) G) (ovr (L.map fun x => (x.1, x.2.2)) s.heap) b → ∃ x ∈ L3 ++ L2, b ∈ ownOf x.2.1 (some x.2.2) := by
  rintro b hb (⟨i, hm⟩ | hF)
  ·by_cases hi : i ∈ L.map (·.1)
   ·obtain ⟨x, hx, rfl⟩ := List.mem_map.1 hi
    rw [inGL x hx, inHL x hx] at hm
    rcases cases4 x hx with rfl | hx | hx
    ·rw [own0] at hm
     simp only [List.mem_singleton] at hm
     subst hm
     rcases List.mem_append.1 hb with h2 | h2
     ·exact absurd h2 nb1
     ·exact absurd h2 hgS'
    ·rw [own1 x hx] at hm; cases hm
    ·exact ⟨x, hx, hm⟩
   ·rw [ovG_out hi, ovr_out hi] at hm
    exfalso
    rcases hfresh b hb with h1 | ⟨x, hx, hmx⟩
    ·have := h.own_lt ⟨i, hm⟩; omega
    ·exact hi (List.mem_map.2 ⟨x, hx, h.disj x.1 i b hmx hm⟩)
  ·exfalso
   rcases hfresh b hb with h1 | ⟨x, hx, hmx⟩
   ·have := (h.ban b hF).1
    have := h.base
    omega
   ·exact h.noF hmx hF
 obtain ⟨hrel, havr⟩ := h.steps L hkeys hr (fun b hb hn => hkeep b hb fun hbS => by
  obtain ⟨x, hx, hm⟩ := hM b hbS
  exact hn x hx hm) (fun x hx o ho => by
  rcases cases4 x hx with rfl | hx | hx
  ·have ho : s.heap k = some o := ho
   rw [hk] at ho; cases ho
   exact .box _ _ rfl
  ·rw [d1 x hx]; exact .dead _
  ·rw [hnew x hx] at ho; cases ho) (fun x hx b hb => by
  rcases cases4 x hx with rfl | hx | hx
  ·rw [own0] at hb
   simp only [List.mem_singleton] at hb
   subst hb
   exact .inl ⟨L0, by simp [L], hkb⟩
  ·rw [own1 x hx] at hb; cases hb
  ·rcases hfresh b (hE.sub x hx b hb) with h1 | h1
   ·exact .inr h1
   ·exact .inl h1) (fun x hx => by
  rcases cases4 x hx with rfl | hx | hx
  ·rw [own0]; simp
  ·rw [own1 x hx]; exact List.nodup_nil
  ·exact hE.nd x hx) (fun x hx z hz b hb hb' => by
  rcases cases4 x hx with rfl | hx | hx
  ·rcases cases4 z hz with rfl | hz | hz
   ·rfl
   ·rw [own1 z hz] at hb'; cases hb'
   ·rw [own0] at hb
    simp only [List.mem_singleton] at hb
    subst hb
    exact absurd hb' (hgn z hz)
  ·rw [own1 x hx] at hb; cases hb
  ·rcases cases4 z hz with rfl | hz | hz
   ·rw [own0] at hb'
    simp only [List.mem_singleton] at hb'
    subst hb'
    exact absurd hb (hgn x hx)
   ·rw [own1 z hz] at hb'; cases hb'
   ·exact hE.dis x hx z hz b hb hb') (fun x hx => by
  rcases cases4 x hx with rfl | hx | hx
  ·refine ⟨⟨cur', el', by show w'.heap[(G k).blk]? = _; rw [hgb]; exact hg', c4 _ _ _ (fun x hx => ?_) fun b hb hba => ?_, h1'⟩⟩
   ·have hx' : x ∈ L := by simp [L, hx]
    exact ⟨inGL x hx', inHL x hx'⟩
   ·obtain ⟨x, hx, hm⟩ := banned b (List.mem_append.2 (.inl hb)) hba
    rcases List.mem_append.1 hx with hx | hx
    ·exact ⟨x, hx, hm⟩
    ·exact absurd (b3.sub x hx b hm) (hd32 b hb)
  ·rw [d1 x hx]; trivial
  ·obtain ⟨sz, xs, ve, e, hR⟩ := hE.row x hx
   rw [e]
   exact hR _)
 have hmapO : L.map (fun x => (x.1, x.2.2)) = bxObs k ks keyb y key ret := by
  show (k, Ob.box (adCells keyb y)) :: (L1 ++ (L3 ++ L2)).map (fun x => (x.1, x.2.2)) = _
  rw [List.map_append, List.map_append, a1, c1, b1]
  rfl
 rw [← hmapO]
 refine ⟨_, hrel, p3 (b4 _ _ _ (fun x hx => ?_) fun b hb hba => ?_)⟩
 ·have hx' : x ∈ L := by simp [L, hx]
  exact ⟨inGL x hx', inHL x hx'⟩
 ·obtain ⟨x, hx, hm⟩ := banned b (List.mem_append.2 (.inr hb)) hba
  rcases List.mem_append.1 hx with hx | hx
  ·exact absurd hb (hd32 b (c3.sub x hx b hm))
  ·exact ⟨x, hx, hm⟩
end rel
end Go.Fs
namespace Go.Fs
open Go.RowKit
def BdOK (P : Program) (f : FuncId) (s : ByteArray) (ds : List D) (r : D × Option ByteArray) : Prop :=
 ∀ (w : World) (g : GI) (vs : List Value) (Sd : List Nat), Kn w → nG ≤ w.heap.size → BldR w g s → (g.blk :: g.sub).Nodup → ArgsR w vs (ds.map .d) Sd [] →
  Does P f (.pointer (some ⟨g.blk, 0, none⟩) :: vs).toArray w fun u w' => Rest w w' ∧ (∀ b, b < w.heap.size → b ∉ g.blk :: g.sub → w'.heap[b]? = w.heap[b]?) ∧ (Tr w' false u r.1 [] ∧ RetFlat u) ∧
   ∀ s', r.2 = some s' → ∃ sub, BldR w' { g with sub := sub } s' ∧ (g.blk :: sub).Nodup ∧ ∀ b ∈ sub, w.heap.size ≤ b ∨ b ∈ g.sub
def bdOb (s : Option ByteArray) : Ob := match s with
 | some s => .bld s
 | none => .dead
section rel
variable {P : Program} {T : Tab} {B : Ctx} {G : Nat → GI} {s : St} {a : Act} {w w' : World}
theorem call_bld (h : RelG B G s a w) {f : FuncId} {k : Nat} {t : ByteArray} (hk : s.heap k = some (.bld t)) {v : Value} (hv : AVR w G s.heap (Ban B.F G s.heap) v (.bp k))
 {rest : List AV} {vs : List Value} (hrest : AVRL w G s.heap (Ban B.F G s.heap) vs rest) {ds : List D} (hb : borL s.heap rest = some ds) {r : D × Option ByteArray} (hf : BdOK P f t ds r) :
 Does P f (v :: vs).toArray w fun u w' => ∃ G', RelG B G' { s with heap := ovr [(k, bdOb r.2)] s.heap } a w' ∧
  AVR w' G' (ovr [(k, bdOb r.2)] s.heap) (Ban B.F G' (ovr [(k, bdOb r.2)] s.heap)) u (retAV r.1 ((partsD r.1).map .d)) := by
 have hv0 : v = .pointer (some ⟨(G k).blk, 0, none⟩) := by
  cases hv with
  | bp _ _ _ => rfl
  | bpd _ _ hk' => rw [hk] at hk'; cases hk'
 subst hv0
 have hB : BldR w (G k) t := h.obj k _ hk
 have hnd := h.nodup k
 rw [hk] at hnd
 have hnd : ((G k).blk :: (G k).sub).Nodup := hnd
 have hown : ownOf (G k) (s.heap k) = (G k).blk :: (G k).sub := by rw [hk]; rfl
 obtain ⟨Sd, u1, u2⟩ := borL_ok h hrest hb
 refine (hf w (G k) vs Sd h.kn (Nat.le_trans B.kb h.base) hB hnd u1).mono fun u w' hp => ?_
 obtain ⟨hr, hkeep, ⟨ht, hfl⟩, hs⟩ := hp
 -- what stands there now
 obtain ⟨g', hg1, hg2, hg3, hg4⟩ : ∃ g' : GI, g'.blk = (G k).blk ∧ (∀ G' H' Av, ObR w' G' H' Av g' (bdOb r.2)) ∧ (ownOf g' (some (bdOb r.2))).Nodup ∧ ∀ b ∈ ownOf g' (some (bdOb r.2)), w.heap.size ≤ b ∨ b ∈ ownOf (G k) (s.heap k) := by
  cases e : r.2 with
  | none => exact ⟨G k, rfl, fun _ _ _ => trivial, List.nodup_nil, fun b hb => by cases hb⟩
  | some s' =>
   obtain ⟨sub, q1, q2, q3⟩ := hs s' e
   refine ⟨{ G k with sub := sub }, rfl, fun _ _ _ => q1, q2, fun b hb => ?_⟩
   have hb : b ∈ (G k).blk :: sub := hb
   rw [hown]
   rcases List.mem_cons.1 hb with rfl | hb
   ·exact .inr (by simp)
   ·exact (q3 b hb).imp id fun h => by simp [h]
 have hto : Ob.to (G k) g' (.bld t) (bdOb r.2) := by
  cases e : r.2 with
  | none => exact .dead _
  | some s' => exact .bld _ _ hg1
 let L : List (Nat × GI × Ob) := [(k, g', bdOb r.2)]
 have hkeys : (L.map (·.1)).Nodup := by simp [L]
 obtain ⟨hrel, havr⟩ := h.steps L hkeys hr (fun b hb hn => hkeep b hb fun hbS => hn (k, g', bdOb r.2) (by simp [L]) (by rw [hown]; exact hbS)) (fun x hx o ho => by
  simp only [L, List.mem_singleton] at hx
  subst hx
  have ho : s.heap k = some o := ho
  rw [hk] at ho; cases ho
  exact hto) (fun x hx b hb => by
  simp only [L, List.mem_singleton] at hx
  subst hx
  rcases hg4 b hb with h1 | h1
  ·exact .inr h1
  ·exact .inl ⟨(k, g', bdOb r.2), by simp [L], h1⟩) (fun x hx => by
  simp only [L, List.mem_singleton] at hx
  subst hx
  exact hg3) (fun x hx y hy b hb hb' => by
  simp only [L, List.mem_singleton] at hx hy
  subst hx; subst hy; rfl) (fun x hx => by
  simp only [L, List.mem_singleton] at hx
  subst hx
  exact hg2 _ _ _)
 have hmapO : L.map (fun x => (x.1, x.2.2)) = [(k, bdOb r.2)] := rfl
 rw [hmapO] at hrel havr
 obtain ⟨us, p1, p2, p3⟩ := parts_tr ht hfl
 exact ⟨_, hrel, p3 (p1.avrl p2 fun b hb => by cases hb)⟩
end rel
end Go.Fs
namespace Go.Fs
open Go.RowKit
def panV (te : Nat) (ns : List Int) : Value := .iface te (.agg (ns.map (Value.int .i64)).toArray)
def panE (te : Nat) (ns : List Int) : List PanicEntry := [{ v := panV te ns, recovered := false }]
def intsV : List Value → Option (List Int)
 | [] => some []
 | .int .i64 n :: vs => (intsV vs).map (n :: ·)
 | _ => none
theorem intsV_map : ∀ ns : List Int, intsV (ns.map (Value.int .i64)) = some ns
 | [] => rfl
 | n :: ns => by simp only [List.map_cons, intsV, intsV_map ns, Option.map_some]
theorem intsV_inv : ∀ {vs : List Value} {ns : List Int}, intsV vs = some ns → vs = ns.map (Value.int .i64)
 | [], ns, h => by cases h; rfl
 | v :: vs, ns, h => by
  unfold intsV at h
  split at h
  ·rename_i e; cases e
  ·rename_i n vs' e
   cases e
   obtain ⟨ms, h1, rfl⟩ := Option.map_eq_some_iff.1 h
   rw [List.map_cons, ← intsV_inv h1]
  ·cases h
def unPan : List PanicEntry → Option (Nat × List Int)
 | [⟨.iface te (.agg cs), false, false⟩] => (intsV cs.toList).map fun ns => (te, ns)
 | _ => none
theorem unPan_E (te : Nat) (ns : List Int) : unPan (panE te ns) = some (te, ns) := by
 show (intsV (ns.map (Value.int .i64)).toArray.toList).map (fun ns => (te, ns)) = _
 rw [List.toList_toArray, intsV_map]
 rfl
theorem unPan_inv {ch : List PanicEntry} {te : Nat} {ns : List Int} (h : unPan ch = some (te, ns)) : ch = panE te ns := by
 unfold unPan at h
 split at h
 ·obtain ⟨ms, h1, e⟩ := Option.map_eq_some_iff.1 h
  simp only [Prod.mk.injEq] at e
  obtain ⟨rfl, rfl⟩ := e
  unfold panE panV
  rw [← intsV_inv h1]
 ·cases h
def PnOK (P : Program) (f : FuncId) (ins : List In) (te : Nat) (ns : List Int) : Prop :=
 ∀ (w : World) (args : List Value) (Sd M : List Nat), KnW w (· ∈ M) → ArgsR w args ins Sd M → M.Nodup → (∀ b ∈ M, b ∉ Sd) →
  (callFunc f args.toArray).run P w = .ok (.enter f args.toArray) w ∧ Calls P f args.toArray w fun e w' => e = .panicked (panE te ns) ∧ Rest w w' ∧ ∀ b, b < w.heap.size → b ∉ M → w'.heap[b]? = w.heap[b]?
def intsD : List D → Option (List Int)
 | [] => some []
 | .i .i64 n :: ds => (intsD ds).map (n :: ·)
 | _ => none
def PbOK (P : Program) (f : FuncId) (ins : List In) (r : D × D) : Prop := match r.1 with
 | .p [q] => FnOK P f ins { ret := q, io := some r.2 }
 | .f te ds => ∃ ns, intsD ds = some ns ∧ PnOK P f ins te ns
 | _ => False
def deadS (n : Nat) : St := { n := n, env := fun _ => .x, heap := fun _ => some .dead }
section rel
variable {P : Program} {T : Tab} {B : Ctx} {G : Nat → GI} {s : St} {a : Act} {w w' : World}
theorem RelG.dead (h : RelG B G s a w) (hr : Rest w w') (hk : ∀ b, b < w.heap.size → ¬ Own G s.heap b → w'.heap[b]? = w.heap[b]?) : RelG B G (deadS s.n) a w' := by
 have hown : ∀ b, ¬ Own G (fun _ => some Ob.dead) b := fun b ⟨k, hk⟩ => by cases hk
 refine ⟨fun k o ho => ?_, fun t => .x _, h.size, h.defers, fun k => List.nodup_nil, fun k k' b hb => (by cases hb), fun k b hb => (by cases hb), h.rest.trans hr, fun b hb hn => ?_, h.ban, Nat.le_trans h.base hr.size, ?_⟩
 ·cases ho
  exact trivial
 ·rw [← h.below b hb hn]
  refine hk b (Nat.lt_of_lt_of_le hb h.base) fun ⟨k, hm⟩ => ?_
  rcases h.ge k b hm with h1 | h1
  ·omega
  ·exact hn h1
 ·refine (AVR.mono_both (fun b hb hn => hk b hb fun ho => hn (.inl ho)) (fun b _ hb => ?_) fun k o ho => ⟨.dead, rfl, .dead _⟩).1 h.anc
  rcases hb with ho | hf
  ·exact absurd ho (hown b)
  ·exact .inr hf
theorem call_pan (h : RelG B G s a w) {f : FuncId} {k : Nat} {cs : List AV} (hk : s.heap k = some (.box cs)) {v : Value} (hv : AVR w G s.heap (Ban B.F G s.heap) v (.a k 0))
 {rest : List AV} {vs : List Value} (hrest : AVRL w G s.heap (Ban B.F G s.heap) vs rest) {ds0 : List D} {ks : List Nat} (hic : ioCs s.heap cs = some (ds0, ks)) {ds : List D} (hb : borL s.heap rest = some ds)
 (hks : (k :: ks).Nodup) (hdis : ∀ i ∈ k :: ks, i ∉ rest.flatMap (keyA s.heap)) {te : Nat} {ns : List Int} (hf : PnOK P f (.io (.p ds0) :: ds.map .d) te ns) :
 (callFunc f (v :: vs).toArray).run P w = .ok (.enter f (v :: vs).toArray) w ∧ Calls P f (v :: vs).toArray w fun e w' => e = .panicked (panE te ns) ∧ RelG B G (deadS s.n) a w' := by
 have hv0 : v = .pointer (some ⟨(G k).blk, 0, none⟩) := by
  cases hv with
  | a _ _ cs' _ => rfl
  | ad _ _ _ hk' => rw [hk] at hk'; cases hk'
 subst hv0
 obtain ⟨cur, el, hg, hcs, h1⟩ : BoxR w G s.heap (Ban B.F G s.heap) (G k) cs := h.obj k _ hk
 obtain ⟨S, t1, t2, t3, t4, t5⟩ := ioCs_ok h hcs hic
 obtain ⟨Sd, u1, u2⟩ := borL_ok h hrest hb
 have hkb : (G k).blk ∈ ownOf (G k) (s.heap k) := by rw [hk]; simp [ownOf]
 obtain ⟨hk1, hk2⟩ := List.nodup_cons.1 hks
 have hS1 : (G k).blk ∉ S := fun hm => by
  obtain ⟨i, hi, hm⟩ := t3 _ hm
  have := h.disj i k _ hm hkb
  exact hk1 (this ▸ hi)
 have hTr : Tr w true (.pointer (some ⟨(G k).blk, 0, none⟩)) (.p ds0) ((G k).blk :: S) :=
  .p (G k).blk 0 cur el (0, 0) cur.toList ds0 S hg (fun j v hj => by simpa using hj) h1 (fun _ => ⟨rfl, rfl, by simp⟩) t1
 have hA : ArgsR w (.pointer (some ⟨(G k).blk, 0, none⟩) :: vs) (.io (.p ds0) :: ds.map .d) Sd (((G k).blk :: S) ++ []) := .io _ _ _ vs _ Sd [] hTr (flat_one rfl) u1
 rw [List.append_nil] at hA
 have hin : ∀ b ∈ (G k).blk :: S, ∃ i ∈ k :: ks, b ∈ ownOf (G i) (s.heap i) := fun b hb => by
  rcases List.mem_cons.1 hb with rfl | hb
  ·exact ⟨k, by simp, hkb⟩
  ·obtain ⟨i, hi, hm⟩ := t3 b hb
   exact ⟨i, by simp [hi], hm⟩
 obtain ⟨q1, q2⟩ := hf w _ Sd _ (h.knW fun b hb => by obtain ⟨i, _, hm⟩ := hin b hb; exact ⟨i, hm⟩) hA (List.nodup_cons.2 ⟨hS1, t4 hk2⟩) fun b hb hbd => (by
  obtain ⟨i, hi, hm⟩ := hin b hb
  exact hdis i hi ((u2 b hbd).2 i hm))
 refine ⟨q1, q2.mono fun e w' he => ?_⟩
 obtain ⟨rfl, hr, hkeep⟩ := he
 exact ⟨rfl, h.dead hr fun b hb hn => hkeep b hb fun hm => by obtain ⟨i, _, hi⟩ := hin b hm; exact hn ⟨i, hi⟩⟩
def EndN (B : Ctx) (te : Nat) (ns : List Int) : Exit → Act → World → Prop := fun e a w => e = .panic (panE te ns) ∧ ∃ G s, RelG B G s a w
theorem pnOK_of {f : FuncId} {fn : Func} {c : Code} (hf : P.funcs[f]? = some fn) (hb : fn.body = some c) (hnm : (fn.name == "runtime.NumGoroutine") = false)
 {ins : List In} (hi : insOK ins = true) (hn : ins.length ≤ fn.ntmps) {te : Nat} {ns : List Int} (hbody : ∀ B G a w, RelG B G (inSt fn.ntmps ins) a w → B.aa = ancA ins → c.wp P (EndN B te ns) a w) : PnOK P f ins te ns := by
 intro w args Sd M hkn ha hM hd
 obtain ⟨B, G, hrel, h1, h2, h3, h4, h5, h6⟩ := enter_rel hi hkn ha hM hd hn
 refine ⟨?_, ?_⟩
 ·have : ¬ fn.name = "runtime.NumGoroutine" := by simpa using hnm
  simp [callFunc, hf, hb, this]
 ·refine calls_of_wp hf hb (wp_mono (hbody B G _ w hrel h5) fun e a' w' he => ?_)
  obtain ⟨rfl, G', s', hr⟩ := he
  refine ⟨hr.defers, rfl, h2 ▸ hr.rest, fun b hb hm => ?_⟩
  rw [← h2]
  exact hr.below b (h1 ▸ hb) fun h => hm ((h4 b).1 h)
end rel
end Go.Fs
namespace Go.Fs
open Go.RowKit
def kvGet : List (ByteArray × D) → ByteArray → Option D
 | [], _ => none
 | x :: kv, k => if k = x.1 then some x.2 else kvGet kv k
def kvSet : List (ByteArray × D) → ByteArray → D → List (ByteArray × D)
 | [], k, d => [(k, d)]
 | x :: kv, k, d => if k = x.1 then (k, d) :: kv else x :: kvSet kv k d
def opMkMap (T : Tab) (H : Nat → Option Ob) (dst : Nat) (ty : TypeId) : Option (AV × (Nat → Option Ob)) :=
 match H dst with
 | none => some (.mp dst, upd H dst (some (.map [])))
 | _ => none
def opMapSet (T : Tab) (H : Nat → Option Ob) (ty : TypeId) (m k x : AV) : Option (Nat → Option Ob) :=
 match T.mp ty, m, k, x with
 | some _, .mp r, .d (.s key), .d d => if mapv d = true then match H r with
  | some (.map kv) => some (upd H r (some (.map (kvSet kv key d))))
  | _ => none else none
 | _, _, _, _ => none
def opMapGet (T : Tab) (H : Nat → Option Ob) (ty : TypeId) (m k : AV) (ok : Bool) : Option AV :=
 match T.mp ty, m, k with
 | some (_, _, z), .mp r, .d (.s key) => match H r with
  | some (.map kv) => some (if ok then .t [.d ((kvGet kv key).getD z), .d (.b (kvGet kv key).isSome)] else .d ((kvGet kv key).getD z))
  | _ => none
 | _, _, _ => none
def nilCmp (T : Tab) (op : BinOp) (ty : TypeId) (y : Operand) : Option Bool := match op, T.kd ty, y with
 | .eql, some (.slice _), .const (.slice none 0 0) => some false
 | .neq, some (.slice _), .const (.slice none 0 0) => some true
 | _, _, _ => none
def byteL : List (List D) → Option (List Int)
 | [] => some []
 | [.i .u8 n] :: xs => (byteL xs).map (n :: ·)
 | _ => none
def bytesS (ns : List Int) : ByteArray := ns.foldl (fun r n => r.push (UInt8.ofNat n.toNat)) ByteArray.empty
def opB2S (T : Tab) (H : Nat → Option Ob) (src dst : TypeId) (x : AV) : Option AV :=
 match T.kd src, T.kd dst with
 | some (.slice e), some .str => match T.kd e with
  | some (.int .u8) => (borC H x).bind fun d => match d with
   | .l 1 xs => (byteL xs).map fun ns => .d (.s (bytesS ns))
   | _ => none
  | _ => none
 | _, _ => none
section rel
variable {P : Program} {T : Tab} {B : Ctx} {G : Nat → GI} {s : St} {a : Act} {w w' : World}
theorem Tab.mp_ok (hT : T.ok P = true) {t k e : TypeId} {z : D} (h : T.mp t = some (k, e, z)) : P.underlying t = some (.map k e) ∧ P.underlying k = some .string ∧ mapv z = true ∧ ∀ w, (zeroValue e).run P w = .ok (scalV z) w := by
 simp only [Tab.ok, Bool.and_eq_true] at hT
 have := List.all_eq_true.1 hT.1.2 _ (lookup_mem h)
 simp only [mapOK, Bool.and_eq_true] at this
 obtain ⟨⟨h0, h1⟩, h2⟩ := this
 refine ⟨?_, ?_, ?_⟩
 ·split at h1
  ·rename_i k' e' he
   simp only [Bool.and_eq_true, beq_iff_eq] at h1
   rw [he, h1.1, h1.2]
  ·cases h1
 ·split at h2
  ·rename_i he; exact he
  ·cases h2
 ·split at h0
  case h_2 => cases h0
  rename_i i hi
  split at h0
  case h_2 => cases h0
  rename_i z' hz'
  have hz : scalV z = z' ∧ mapv z = true := by
   unfold zmap at h0
   split at h0
   ·simp only [Bool.and_eq_true, beq_iff_eq] at h0
    rw [h0.1, h0.2]; exact ⟨rfl, rfl⟩
   ·simp only [beq_iff_eq] at h0
    rw [h0]; exact ⟨rfl, rfl⟩
   ·rename_i s s'
    simp only [Bool.and_eq_true, beq_iff_eq] at h0
    have : s = s' := by
     obtain ⟨⟨a⟩⟩ := s
     obtain ⟨⟨b⟩⟩ := s'
     have e1 : a.length = 0 := h0.1
     have e2 : b.length = 0 := h0.2
     rw [List.eq_nil_of_length_eq_zero e1, List.eq_nil_of_length_eq_zero e2]
    rw [this]; exact ⟨rfl, rfl⟩
   ·cases h0
  refine ⟨hz.2, fun w => ?_⟩
  rw [hz.1]
  simp [Go.zeroValue, typeInfo, hi, hz']
theorem scalV_tr {own : Bool} {v : Value} {d : D} {S : List Nat} (h : Tr w own v d S) (hm : mapv d = true) : v = scalV d ∧ S = [] := by
 cases h <;> simp_all [mapv, scalV]
theorem tr_scalV {own : Bool} {d : D} (h : mapv d = true) : Tr w own (scalV d) d [] ∧ (scalV d).oneCell' = true := by
 cases d <;> simp_all [mapv, scalV] <;> first | exact ⟨.b _, rfl⟩ | exact ⟨.i _ _, rfl⟩ | exact ⟨.s _, rfl⟩
theorem kvGet_some : ∀ {kv : List (ByteArray × D)} {k : ByteArray} {d : D}, kvGet kv k = some d → (k, d) ∈ kv
 | [], _, _, h => by cases h
 | x :: kv, k, d, h => by
  simp only [kvGet] at h
  split at h
  ·rename_i e; subst e; simp only [Option.some.injEq] at h; subst h; simp
  ·simp [kvGet_some h]
theorem bbeq (a b : ByteArray) : (a == b) = decide (a = b) := by
 show (a.data == b.data) = _
 by_cases h : a = b
 ·subst h; simp
 ·have : a.data ≠ b.data := fun e => h (ByteArray.ext e)
  simp [h, this]
theorem findNow_ok (key : ByteArray) : ∀ (es : List MapEntry) (kv : List (ByteArray × D)) (i : Nat), es.map (fun e => (e.key, e.val)) = kv.map (fun x => (Value.string x.1, scalV x.2)) →
 (kvGet kv key = none → Instr.findNow .string (.string key) es i = some none ∧ kvSet kv key = fun d => kv ++ [(key, d)]) ∧
 (∀ d, kvGet kv key = some d → ∃ j, Instr.findNow .string (.string key) es i = some (some (i + j, scalV d)) ∧ (es[j]?).map (·.key) = some (.string key) ∧
   ∀ d', (es.modify j fun e => { e with key := .string key, val := scalV d' }).map (fun e => (e.key, e.val)) = (kvSet kv key d').map (fun x => (Value.string x.1, scalV x.2)))
 | [], [], i, _ => ⟨fun _ => ⟨rfl, rfl⟩, fun d h => by cases h⟩
 | [], _ :: _, i, h => by simp at h
 | _ :: _, [], i, h => by simp at h
 | e :: es, x :: kv, i, h => by
  simp only [List.map_cons, List.cons.injEq, Prod.mk.injEq] at h
  obtain ⟨⟨h1, h2⟩, h3⟩ := h
  obtain ⟨ih1, ih2⟩ := findNow_ok key es kv (i + 1) h3
  by_cases hk : key = x.1
  ·subst hk
   refine ⟨fun hn => by simp [kvGet] at hn, fun d hd => ⟨0, ?_, by simp [h1], fun d' => by simp [kvSet, h3]⟩⟩
   simp only [kvGet, if_true, Option.some.injEq] at hd
   subst hd
   simp [Instr.findNow, Instr.sameNow, h1, h2, bbeq]
  ·have hb : (key == x.1) = false := by rw [bbeq]; simpa using hk
   have hs : ∀ j, Instr.findNow .string (.string key) (e :: es) j = Instr.findNow .string (.string key) es (j + 1) := fun j => by
    simp [Instr.findNow, Instr.sameNow, h1, hb]
   refine ⟨fun hn => ?_, fun d hd => ?_⟩
   ·simp only [kvGet, if_neg hk] at hn
    obtain ⟨a1, a2⟩ := ih1 hn
    refine ⟨by rw [hs]; exact a1, ?_⟩
    funext d
    simp only [kvSet, if_neg hk, a2, List.cons_append]
   ·simp only [kvGet, if_neg hk] at hd
    obtain ⟨j, a1, a2, a3⟩ := ih2 d hd
    refine ⟨j + 1, by rw [hs, a1]; congr 3; omega, by simpa using a2, fun d' => ?_⟩
    simp only [kvSet, if_neg hk, List.modify_succ_cons, List.map_cons, List.cons.injEq, Prod.mk.injEq]
    exact ⟨⟨h1, h2⟩, a3 d'⟩
theorem opMkMap_ok (h : RelG B G s a w) {dst : Nat} {ty : TypeId} {av : AV} {H' : Nat → Option Ob} (hm : opMkMap T s.heap dst ty = some (av, H')) :
 ∃ v w' G', (Instr.makeMap ty none).run P w = .ok v w' ∧ RelG B G' { s with heap := H' } a w' ∧ AVR w' G' H' (Ban B.F G' H') v av := by
 simp only [opMkMap] at hm
 split at hm
 case h_2 => cases hm
 rename_i hk
 simp only [Option.some.injEq, Prod.mk.injEq] at hm
 obtain ⟨rfl, rfl⟩ := hm
 let gi : GI := { blk := w.heap.size, off := 0, cap := 0, vs := [], sub := [] }
 have hold : ∀ b, b < w.heap.size → (w.alloc (.map #[] 0)).heap[b]? = w.heap[b]? := fun b hb => heap_alloc_old w _ b hb
 refine ⟨.map (some w.heap.size), w.alloc (.map #[] 0), upd G dst gi, ?_, h.new dst gi (.map []) hk (rest_alloc ..) hold (by simp [ownOf, gi]) (by simp [ownOf]) ⟨⟨#[], 0, heap_alloc_new w _, rfl⟩, by simp⟩, ?_⟩
 ·simp [Instr.makeMap]
 ·have := AVR.mp (w := w.alloc (.map #[] 0)) (G := upd G dst gi) (H := upd s.heap dst (some (.map []))) (Av := Ban B.F (upd G dst gi) (upd s.heap dst (some (.map [])))) dst [] (upd_same ..)
  rw [upd_same] at this
  exact this
theorem AVR.inv_s {H : Nat → Option Ob} {Av : Nat → Prop} {v : Value} {x : ByteArray} (h : AVR w G H Av v (.d (.s x))) : v = .string x := by
 cases h with
 | d _ _ S h1 h _ => exact h.inv_s.1
theorem checkKey_str {k : TypeId} (hk : P.underlying k = some .string) (e : Bool) (x : ByteArray) : (Instr.checkKey e 10000 k (.string x)).run P w = .ok () w := by
 show (Instr.checkKey e (9999 + 1) k (.string x)).run P w = .ok () w
 rw [Instr.checkKey]
 simp only [Sem.run_bind, run_underlying hk, Result.andThen_ok]
 rfl
theorem run_findKey {kt : TypeId} (hk : P.underlying kt = some .string) {key : ByteArray} {es : List MapEntry} {r : Option (Nat × Value)} (h : Instr.findNow .string (.string key) es 0 = some r) : (Instr.findKey kt (.string key) es).run P w = .ok r w := by
 simp only [Instr.findKey, Sem.run_bind, run_underlying hk, Result.andThen_ok, h]
 rfl
theorem opMapGet_ok (hT : T.ok P = true) (h : RelG B G s a w) {ty : TypeId} {m k : AV} {mv kv' : Value} (hmv : AVR w G s.heap (Ban B.F G s.heap) mv m) (hkv : AVR w G s.heap (Ban B.F G s.heap) kv' k) {ok : Bool} {av : AV} (hm : opMapGet T s.heap ty m k ok = some av) :
 ∃ v, (Instr.lookup ty mv kv' ok).run P w = .ok v w ∧ AVR w G s.heap (Ban B.F G s.heap) v av := by
 unfold opMapGet at hm
 split at hm
 case h_2 => cases hm
 rename_i kt e z r key hmp
 split at hm
 case h_2 => cases hm
 rename_i kv hr
 simp only [Option.some.injEq] at hm
 obtain ⟨u1, u2, u3, u4⟩ := Tab.mp_ok hT hmp
 obtain rfl := hkv.inv_s
 have hM : MapR w (G r) kv := h.obj r _ hr
 obtain ⟨⟨es, clock, hg, hes⟩, hok⟩ := hM
 cases hmv with
 | mpd _ _ hk => rw [hr] at hk; cases hk
 | mp _ kv2 hk =>
  have hget : (getObj (G r).blk).run P w = .ok (.map es clock) w := by simp [getObj, Sem.run, hg]
  obtain ⟨f1, f2⟩ := findNow_ok key es.toList kv 0 hes
  have fin : ∀ (d : D) (b : Bool), mapv d = true → AVR w G s.heap (Ban B.F G s.heap) (if ok then .tuple #[scalV d, .bool b] else scalV d) (if ok then .t [.d d, .d (.b b)] else .d d) := by
   intro d b hd
   obtain ⟨q1, q2⟩ := tr_scalV (w := w) (own := false) hd
   cases ok with
   | true => exact .t _ _ (.cons _ _ _ _ (.sc q2 q1) (.cons _ _ _ _ (.sc rfl (.b _)) .nil))
   | false => exact .sc q2 q1
  cases hgk : kvGet kv key with
  | none =>
   rw [hgk] at hm
   subst hm
   refine ⟨if ok then .tuple #[scalV z, .bool false] else scalV z, ?_, fin z false u3⟩
   simp [Instr.lookup, run_underlying u1, hget, checkKey_str u2, run_findKey u2 (f1 hgk).1, u4]
  | some d =>
   rw [hgk] at hm
   subst hm
   obtain ⟨j, g1, g2, g3⟩ := f2 d hgk
   refine ⟨if ok then .tuple #[scalV d, .bool true] else scalV d, ?_, fin d true (hok _ (kvGet_some hgk))⟩
   have g1 := run_findKey (P := P) (w := w) u2 g1
   simp [Instr.lookup, run_underlying u1, hget, checkKey_str u2, g1]
theorem setBlock_heap_ne {w : World} {r b : Nat} {o : Obj} (h : b ≠ r) : ({ w with heap := w.heap.setIfInBounds r o } : World).heap[b]? = w.heap[b]? := by
 simp [Array.getElem?_setIfInBounds_ne (Ne.symm h)]
theorem opMapSet_ok (hT : T.ok P = true) (h : RelG B G s a w) {ty : TypeId} {m k x : AV} {mv kv' xv : Value} (hmv : AVR w G s.heap (Ban B.F G s.heap) mv m) (hkv : AVR w G s.heap (Ban B.F G s.heap) kv' k) (hxv : AVR w G s.heap (Ban B.F G s.heap) xv x) {H' : Nat → Option Ob} (hm : opMapSet T s.heap ty m k x = some H') :
 ∃ w' G', (Instr.mapUpdate ty mv kv' xv).run P w = .ok () w' ∧ RelG B G' { s with heap := H' } a w' := by
 unfold opMapSet at hm
 split at hm
 case h_2 => cases hm
 rename_i p r key d hmp
 obtain ⟨kt, e, z⟩ := p
 split at hm
 case isFalse => cases hm
 rename_i hd
 split at hm
 case h_2 => cases hm
 rename_i kv hr
 simp only [Option.some.injEq] at hm
 obtain ⟨u1, u2, u3, u4⟩ := Tab.mp_ok hT hmp
 obtain rfl := hkv.inv_s
 obtain rfl : xv = scalV d := by
  cases hxv with
  | d _ _ S h1 ht _ => exact (scalV_tr ht hd).1
 have hM : MapR w (G r) kv := h.obj r _ hr
 obtain ⟨⟨es, clock, hg, hes⟩, hok⟩ := hM
 have hlt := (Array.getElem?_eq_some_iff.1 hg).1
 have hown : (G r).blk ∈ ownOf (G r) (s.heap r) := by rw [hr]; simp [ownOf]
 have go : ∀ (es' : Array MapEntry) (c' : Nat) (kv2 : List (ByteArray × D)), es'.toList.map (fun e => (e.key, e.val)) = kv2.map (fun x => (Value.string x.1, scalV x.2)) → (∀ x ∈ kv2, mapv x.2 = true) →
  (Instr.mapUpdate ty (.map (some (G r).blk)) (.string key) (scalV d)).run P w = .ok () { w with heap := w.heap.setIfInBounds (G r).blk (.map es' c') } → upd s.heap r (some (.map kv2)) = H' →
  ∃ w' G', (Instr.mapUpdate ty (.map (some (G r).blk)) (.string key) (scalV d)).run P w = .ok () w' ∧ RelG B G' { s with heap := H' } a w' := by
  intro es' c' kv2 h1 h2 h3 h4
  subst h4
  refine ⟨_, G, h3, ?_⟩
  refine h.step (w' := { w with heap := w.heap.setIfInBounds (G r).blk (.map es' c') }) (G' := G) (upd s.heap r (some (.map kv2))) (fun i => i = r) ⟨rfl, rfl, rfl, by simp⟩ ?_ (fun i hi => ⟨upd_ne _ _ hi, rfl⟩) ?_ ?_ ?_ ?_ ?_
  ·intro b hb hn
   exact setBlock_heap_ne fun e => hn r rfl (by rw [e]; exact hown)
  ·rintro i o rfl ho
   rw [hr] at ho; cases ho
   exact ⟨_, upd_same .., .map _ _ rfl⟩
  ·rintro i rfl b hb
   rw [upd_same] at hb
   refine .inl ⟨i, rfl, ?_⟩
   rw [hr]; exact hb
  ·rintro i rfl; rw [upd_same]; simp [ownOf]
  ·rintro i j rfl rfl _ _ _; rfl
  ·rintro i o rfl ho
   rw [upd_same] at ho
   cases ho
   exact ⟨⟨es', c', by simp [hlt], h1⟩, h2⟩
 have hset : ∀ (o' : Obj), (setObj (G r).blk o').run P w = .ok () { w with heap := w.heap.setIfInBounds (G r).blk o' } := fun o' => by
  simp [setObj, Sem.run, hg]
 have hget : (getObj (G r).blk).run P w = .ok (.map es clock) w := by simp [getObj, Sem.run, hg]
 obtain ⟨f1, f2⟩ := findNow_ok key es.toList kv 0 hes
 cases hmv with
 | mpd _ _ hk => rw [hr] at hk; cases hk
 | mp _ kv2 hk =>
  cases hgk : kvGet kv key with
  | none =>
   obtain ⟨g1, g2⟩ := f1 hgk
   refine go (es.push { key := .string key, val := scalV d, born := clock }) (clock + 1) (kvSet kv key d) ?_ ?_ ?_ hm
   ·rw [g2]; simp [hes]
   ·rw [g2]
    intro x hx
    rcases List.mem_append.1 hx with hx | hx
    ·exact hok x hx
    ·obtain rfl : x = (key, d) := by simpa using hx
     exact hd
   ·simp only [Instr.mapUpdate, Sem.run_bind, run_underlying u1, Result.andThen_ok, hget, checkKey_str u2, run_findKey u2 g1, hset]
  | some d0 =>
   obtain ⟨j, g1, g2, g3⟩ := f2 d0 hgk
   have hj : ((es[0 + j]?).map (·.key)).getD (.string key) = .string key := by
    rw [← Array.getElem?_toList, Nat.zero_add, g2]; rfl
   have hks : (Instr.keyThatStays (.string key) (.string key)).run P w = .ok (.string key) w := by
    have : Instr.sameBits 10000 (.string key) (.string key) = true := by
     show Instr.sameBits (9999 + 1) _ _ = true
     simp [Instr.sameBits, bbeq]
    simp only [Instr.keyThatStays, this, if_true]
    rfl
   refine go (es.modify (0 + j) fun e => { e with key := .string key, val := scalV d }) clock (kvSet kv key d) ?_ ?_ ?_ hm
   ·rw [Nat.zero_add, ← g3 d]; simp
   ·have mem : ∀ (kv : List (ByteArray × D)), (∀ x ∈ kv, mapv x.2 = true) → ∀ x ∈ kvSet kv key d, mapv x.2 = true := by
     intro kv
     induction kv with
     | nil => intro _ x hx; obtain rfl : x = (key, d) := by simpa [kvSet] using hx
              exact hd
     | cons y kv ih =>
      intro ho x hx
      simp only [kvSet] at hx
      split at hx
      ·rcases List.mem_cons.1 hx with rfl | hx
       ·exact hd
       ·exact ho x (by simp [hx])
      ·rcases List.mem_cons.1 hx with rfl | hx
       ·exact ho _ (by simp)
       ·exact ih (fun x hx => ho x (by simp [hx])) x hx
    exact mem kv hok
   ·simp only [Instr.mapUpdate, Sem.run_bind, run_underlying u1, Result.andThen_ok, hget, checkKey_str u2, run_findKey u2 g1, hj, hks, hset]
theorem byteL_tr {own : Bool} : ∀ {xs : List (List D)} {ns : List Int} {vs : List Value} {S : List Nat}, byteL xs = some ns → TrL w own vs xs.flatten S → vs = ns.map (Value.int .u8)
 | [], ns, vs, S, h, ht => by
  simp only [byteL, Option.some.injEq] at h
  subst h
  cases ht
  rfl
 | [.i .u8 n] :: xs, ns, vs, S, h, ht => by
  simp only [byteL, Option.map_eq_some_iff] at h
  obtain ⟨ms, h, rfl⟩ := h
  have ht : TrL w own vs (.i .u8 n :: xs.flatten) S := ht
  cases ht with
  | cons v _ S1 vs _ S2 h1 h2 =>
   rw [byteL_tr h h2, h1.inv_i.1]
   rfl
theorem opB2S_ok (hT : T.ok P = true) (h : RelG B G s a w) {src dst : TypeId} {x : AV} {xv : Value} (hx : AVR w G s.heap (Ban B.F G s.heap) xv x) {av : AV} (hm : opB2S T s.heap src dst x = some av) :
 ∃ v, (convert src dst xv).run P w = .ok v w ∧ AVR w G s.heap (Ban B.F G s.heap) v av := by
 unfold opB2S at hm
 split at hm
 case h_2 => cases hm
 rename_i e k1 k2
 split at hm
 case h_2 => cases hm
 rename_i k3
 simp only [Option.map_eq_some_iff, Tab.kd] at k1 k2 k3
 obtain ⟨t1, e1, k1⟩ := k1
 obtain ⟨t2, e2, k2⟩ := k2
 obtain ⟨t3, e3, k3⟩ := k3
 have u1 := (tiok hT e1).slice k1
 have u2 := (tiok hT e2).str k2
 have u3 := (tiok hT e3).int k3
 simp only [Option.bind_eq_some_iff] at hm
 obtain ⟨d, hb, hm⟩ := hm
 split at hm
 case h_2 => cases hm
 rename_i xs
 simp only [Option.map_eq_some_iff] at hm
 obtain ⟨ns, hns, rfl⟩ := hm
 obtain ⟨S, ht, _, _⟩ := borC_ok h hx hb
 refine ⟨.string (bytesS ns), ?_, .sc rfl (.s _)⟩
 cases ht with
 | z ad c _ _ =>
  rw [run_convert_bytes_string w src dst e ad 0 c u1 u3 u2]
  simp only [byteL, Option.some.injEq] at hns
  subst hns
  cases ad with
  | none => rfl
  | some ad => exact run_bytesToString w ad 0 c [] (by simpa using run_loadCells_list (P := P) w ad [] (by simp))
 | l g o c _ cur el fr vs _ S hg hc hm hl hv h1 hx ho hs =>
  rw [run_convert_bytes_string w src dst e _ _ c u1 u3 u2]
  have hvs := byteL_tr hns hs
  refine run_bytesToString w _ _ c ns ?_
  have := run_loadCells_list (P := P) w ⟨g, o, none⟩ vs (fun j v hj => by rw [add_at, cell_at hg]; exact hv j v hj)
  rw [hl, Nat.mul_one, hvs] at this
  exact this
theorem nilCmp_ok (hT : T.ok P = true) (h : RelG B G s a w) {op : BinOp} {ty : TypeId} {x y : Operand} {neg : Bool} (hc : nilCmp T op ty y = some neg) {xs : List (List D)} {sz : Nat} (hb : borC s.heap (s.ev x) = some (.l sz xs)) :
 ∃ b : Bool, (b = true → xs = []) ∧ (do eqGuard op ty x y (a.eval x) (a.eval y); binOp op ty (a.eval x) (a.eval y) : Sem Value).run P w = .ok (.bool (if neg then !b else b)) w := by
 obtain ⟨S, ht, _, _⟩ := borC_ok h (h.ev x) hb
 have hv : ∃ ad l c, a.eval x = .slice ad l c ∧ (ad.isNone = true → xs = []) := by
  generalize a.eval x = v at ht
  cases ht with
  | z ad c _ _ => exact ⟨ad, 0, c, rfl, fun _ => rfl⟩
  | l g o c _ cur e fr vs _ S hg hc hm hl hv h1 hx ho hs => exact ⟨_, _, c, rfl, fun h => by cases h⟩
 obtain ⟨ad, l, c, hev, hnil⟩ := hv
 unfold nilCmp at hc
 split at hc
 ·rename_i e hk
  simp only [Option.some.injEq] at hc
  subst hc
  simp only [Option.map_eq_some_iff, Tab.kd] at hk
  obtain ⟨ti, hti, hk⟩ := hk
  have hu := (tiok hT hti).slice hk
  refine ⟨ad.isNone, hnil, ?_⟩
  rw [hev]
  have hy : a.eval (.const (.slice none 0 0)) = .slice none 0 0 := rfl
  rw [hy]
  simp [eqGuard, binOp, run_equal_slice_nil w ty e ad l c hu]
 ·rename_i e hk
  simp only [Option.some.injEq] at hc
  subst hc
  simp only [Option.map_eq_some_iff, Tab.kd] at hk
  obtain ⟨ti, hti, hk⟩ := hk
  have hu := (tiok hT hti).slice hk
  refine ⟨ad.isNone, hnil, ?_⟩
  rw [hev]
  have hy : a.eval (.const (.slice none 0 0)) = .slice none 0 0 := rfl
  rw [hy]
  simp [eqGuard, binOp, run_equal_slice_nil w ty e ad l c hu]
 ·cases hc
end rel
end Go.Fs
namespace Go.Fs
open Go.RowKit
mutual
def spA (k ve i o k' sz : Nat) : AV → AV
 | .m j v i' o' => if j = k ∧ v = ve then (if i' = i ∧ o' = o then .r k' else if o' < sz then .m k (ve + 1) i' o' else .x) else .m j v i' o'
 | .g cs => .g (spL k ve i o k' sz cs)
 | .f fn caps => .f fn (spL k ve i o k' sz caps)
 | .t vs => .t (spL k ve i o k' sz vs)
 | .d x => .d x
 | .z n => .z n
 | .r j => .r j
 | .a j o' => .a j o'
 | .e j i' o' => .e j i' o'
 | .q cs o' => .q cs o'
 | .mp j => .mp j
 | .x => .x
 | .nl => .nl
 | .bp j => .bp j
def spL (k ve i o k' sz : Nat) : List AV → List AV
 | [] => []
 | a :: as => spA k ve i o k' sz a :: spL k ve i o k' sz as
end
section rel
variable {B : Ctx} {G : Nat → GI} {s : St} {a : Act} {w : World}
end rel
end Go.Fs
