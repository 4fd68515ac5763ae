/- A part of the proof: an evaluator of the program's code over plain data, proved sound, or a function's walk by it. No conditions beyond those in the theorems. -/
import Derived.Test.YtbgbnmghhmfihaaFsK0
set_option linter.unusedVariables false
set_option linter.constructorNameAsVariable false
namespace Go.Fs
open Go.RowKit

section rel
variable {P : Program} {T : Tab} {B : Ctx} {G : Nat → GI} {s : St} {a : Act} {w : World} {H : Nat → Option Ob} {Av : Nat → Prop}

/-- A bound, as a value. -/
inductive BndR (w : World) (G : Nat → GI) (H : Nat → Option Ob) (Av : Nat → Prop) : Option Value → Option AV → Prop
  | none : BndR w G H Av none none
  | some (v : Value) (av : AV) (h : AVR w G H Av v av) : BndR w G H Av (some v) (some av)

theorem run_bounds {isSlice : Bool} {len cap d h l : Nat} {lo hi : Option Value} {lo' hi' : Option AV} (hlo : BndR w G H Av lo lo') (hhi : BndR w G H Av hi hi') (e1 : bnd hi' len = some h) (e2 : bnd lo' 0 = some l)
    (h1 : l ≤ h) (h2 : h ≤ cap) : (Instr.sliceBounds isSlice len cap lo hi none).run P w = .ok (l, h, cap) w := by
  have hb : ∀ {v : Value} {av : AV} {n : Nat} (y : Nat) (code : BoundsCode) (dd : Nat), AVR w G H Av v av → bnd (some av) dd = some n → n ≤ y → (Instr.sliceBound v y code).run P w = .ok n w := by
    intro v av n y code dd hv he hy
    unfold bnd at he
    split at he
    · rename_i hh; cases hh
    · rename_i k m hh
      simp only [Option.some.injEq] at hh
      subst hh
      obtain rfl := hv.inv_int
      split at he
      · rename_i h0
        simp only [Option.some.injEq] at he
        have : 0 ≤ m ∧ m ≤ (y : Int) := by omega
        simp [Instr.sliceBound, asIntOf, this, he]
      · cases he
    · cases he
  unfold Instr.sliceBounds
  cases hlo with
  | none =>
    simp only [bnd, Option.some.injEq] at e2
    subst e2
    cases hhi with
    | none => simp only [bnd, Option.some.injEq] at e1; subst e1; rfl
    | some v av hv =>
      have r1 := fun code => hb cap code _ hv e1 h2
      simp only [Sem.run_bind, Sem.run_pure, Result.andThen_ok, r1]
  | some u au hu =>
    have r2 := fun code => hb h code _ hu e2 h1
    cases hhi with
    | none =>
      simp only [bnd, Option.some.injEq] at e1
      subst e1
      simp only [Sem.run_bind, Sem.run_pure, Result.andThen_ok, r2]
    | some v av hv =>
      have r1 := fun code => hb cap code _ hv e1 h2
      simp only [Sem.run_bind, Sem.run_pure, Result.andThen_ok, r1, r2]

theorem opSlice_ok (hT : T.ok P = true) (h : RelG B G s a w) {ty : TypeId} {x : AV} {xv : Value} {lo hi : Option AV} {lov hiv : Option Value} (hx : AVR w G s.heap (Ban B.F G s.heap) xv x)
    (hlo : BndR w G s.heap (Ban B.F G s.heap) lov lo) (hhi : BndR w G s.heap (Ban B.F G s.heap) hiv hi) {av : AV} {H' : Nat → Option Ob} {dst : Nat} (hm : opSlice T s.heap dst ty x lo hi = some (av, H')) :
    ∃ v G', (Instr.sliceAt ty xv lov hiv none).run P w = .ok v w ∧ RelG B G' { s with heap := H' } a w ∧ AVR w G' H' (Ban B.F G' H') v av := by
  simp only [opSlice, Option.bind_eq_some_iff] at hm
  obtain ⟨ti, hti, hm⟩ := hm
  have hok := tiok hT hti
  cases hk : ti.kind with
  | str =>
    rw [hk] at hm
    simp only at hm
    split at hm
    case h_2 => cases hm
    rename_i str
    obtain rfl := hx.inv_str
    simp only [Option.bind_eq_some_iff] at hm
    obtain ⟨h', e1, l', e2, hm⟩ := hm
    split at hm
    case isFalse => cases hm
    rename_i hc
    simp only [Option.some.injEq, Prod.mk.injEq] at hm
    obtain ⟨rfl, rfl⟩ := hm
    have hb := run_bounds (P := P) (isSlice := false) (cap := str.size) (d := 0) hlo hhi e1 e2 hc.1 hc.2
    refine ⟨.string (str.extract l' h'), G, ?_, h, .sc rfl (.s _)⟩
    unfold Instr.sliceAt
    simp only [Sem.run_bind, run_underlying (hok.str hk), Result.andThen_ok]
    unfold Instr.slice
    simp only [Sem.run_bind, run_underlying (hok.str hk), Result.andThen_ok]
    simp [hb]
  | slice e =>
    rw [hk] at hm
    simp only [Option.bind_eq_some_iff] at hm
    obtain ⟨te, hte, hm⟩ := hm
    have hoke := tiok hT hte
    have hu := hok.slice hk
    have hrun : ∀ (ad : Option Addr) (n c h' l' : Nat), bnd hi n = some h' → bnd lo 0 = some l' → l' ≤ h' → h' ≤ c →
        (Instr.sliceAt ty (.slice ad n c) lov hiv none).run P w = .ok (.slice (if c = l' then ad else ad.map (·.add (l' * te.size))) (h' - l') (c - l')) w := by
      intro ad n c h' l' e1 e2 hc1 hc2
      have hb := run_bounds (P := P) (isSlice := true) (cap := c) (d := 0) hlo hhi e1 e2 hc1 hc2
      unfold Instr.sliceAt
      simp only [Sem.run_bind, run_underlying hu, Result.andThen_ok]
      unfold Instr.slice
      simp only [Sem.run_bind, run_underlying hu, Result.andThen_ok]
      simp only [hb, Result.andThen_ok, hoke.sizeOf w, Sem.run_pure]
    cases hx with
    | r k sz xs dp fz ve ad hk' ha =>
      simp only [hk', Option.bind_eq_some_iff] at hm
      obtain ⟨h', e1, l', e2, hm⟩ := hm
      split at hm
      case isFalse => cases hm
      rename_i hc
      have hR : RowR w (Ban B.F G s.heap) (G k) sz xs dp fz := h.obj k _ hk'
      have hcap := hR.cap
      have hr := hrun ad xs.length (G k).cap h' l' e1 e2 hc.2.1 (by omega)
      have hle : ((xs.drop l').take (h' - l')).length = h' - l' := by rw [List.length_take, List.length_drop]; omega
      have had : l' < (G k).cap → (if (G k).cap = l' then ad else ad.map (·.add (l' * te.size))) = some ⟨(G k).blk, (G k).off + l' * sz, none⟩ := fun hlt => by
        rw [if_neg (by omega), ha (by omega)]
        simp only [Option.map_some, add_at, hc.1]
      have hcut := hR.window (off := l') (len := h' - l') (ad := if (G k).cap = l' then ad else ad.map (·.add (l' * te.size))) (by omega) had
      cases fz with
      | true =>
        simp only [if_true, Option.some.injEq, Prod.mk.injEq] at hm
        obtain ⟨rfl, rfl⟩ := hm
        obtain ⟨S, t1, t2, t3⟩ := hcut
        refine ⟨_, G, hr, h, .d _ _ S rfl t1.shared fun b hb => ?_⟩
        obtain ⟨hc0, hb⟩ := t2 b hb
        rcases List.mem_cons.1 hb with rfl | hb
        · exact hR.frz rfl (by omega)
        · exact hR.sub (.inr rfl) b hb
      | false =>
        simp only [Bool.false_eq_true, if_false] at hm
        split at hm
        case h_2 => cases hm
        rename_i hd
        simp only [Option.some.injEq, Prod.mk.injEq] at hm
        obtain ⟨rfl, rfl⟩ := hm
        have hne : s.heap k ≠ none := by rw [hk']; simp
        have hkd : k ≠ dst := fun e => by subst e; rw [hk'] at hd; cases hd
        have hH1 : (upd s.heap k (some .dead)) dst = none := by rw [upd_ne _ _ (Ne.symm hkd)]; exact hd
        have hkeys : ∀ j, (upd s.heap k (some .dead)) j = s.heap j ∨ (s.heap j ≠ none ∧ (upd s.heap k (some .dead)) j = some .dead) := by
          intro j
          by_cases e' : j = k
          · subst e'; exact .inr ⟨hne, upd_same ..⟩
          · exact .inl (upd_ne _ _ e')
        by_cases hz0 : (G k).cap - l' = 0
        · let gi : GI := { blk := (G k).blk, off := 0, cap := 0, vs := [], sub := [] }
          have hnil : (xs.drop l').take (h' - l') = [] := List.eq_nil_of_length_eq_zero (by rw [hle]; omega)
          have hhl : h' - l' = 0 := by omega
          rw [hnil]
          refine ⟨_, upd G dst gi, hr, h.putRow (w' := w) hkeys hH1 gi sz [] dp 0 (.refl w) (fun _ _ _ => rfl) (by simp [ownOf, gi]) (by simp [ownOf, gi]) (RowR.mkVoid ..), ?_⟩
          have := AVR.r (w := w) (G := upd G dst gi) (H := upd (upd s.heap k (some .dead)) dst (some (.row sz [] dp false 0))) (Av := Ban B.F (upd G dst gi) (upd (upd s.heap k (some .dead)) dst (some (.row sz [] dp false 0)))) dst sz [] dp false 0 (if (G k).cap = l' then ad else ad.map (·.add (l' * te.size))) (upd_same ..) (fun hlt => by
            rw [upd_same] at hlt
            exact absurd hlt (Nat.lt_irrefl 0))
          rw [upd_same] at this
          rw [hhl, hz0]
          exact this
        obtain ⟨hcells, r2, r3, r4, r5, r6, r7, r8, r9, r10⟩ := hR
        have hc0 : (G k).cap ≠ 0 := by omega
        obtain ⟨cur, el, hg, hcp, hvs⟩ := hcells (by omega)
        have hm' : (l' + (h' - l')) * sz ≤ (G k).vs.length := by rw [r4]; exact Nat.mul_le_mul_right _ (by omega)
        rw [Nat.add_mul] at hm'
        obtain ⟨S1, t1, t2, t3⟩ := r7.drop (l' * sz)
        obtain ⟨S2, t4, t5, t6⟩ := t1.take ((h' - l') * sz)
        have hfl : ((xs.drop l').take (h' - l')).flatten = (xs.flatten.drop (l' * sz)).take ((h' - l') * sz) := by
          rw [flat_take (fun x hx => r6 x (List.mem_of_mem_drop hx)), flat_drop r6]
        have hcs : ((G k).cap - l') * sz + l' * sz = (G k).cap * sz := by rw [← Nat.add_mul]; congr 1; omega
        have hsubk : (G k).blk ∉ (G k).sub := by
          cases hdp : dp with
          | true =>
            have := h.nodup k
            simp only [hk', hdp, ownOf, if_true, hc0, if_false] at this
            exact (List.nodup_cons.1 this).1
          | false => exact fun hb => r9 (.inl hdp) _ hb (.inl ⟨k, by rw [hk']; simp [ownOf, hc0]⟩)
        let gi : GI := { blk := (G k).blk, off := (G k).off + l' * sz, cap := (G k).cap - l', vs := ((G k).vs.drop (l' * sz)).take ((h' - l') * sz), sub := S2 }
        have hchg : (upd s.heap k (some .dead)) k ≠ s.heap k := by rw [upd_same, hk']; simp
        have hmem : ∀ b, b = (G k).blk ∨ (dp = true ∧ b ∈ S2) → b ∈ ownOf (G k) (s.heap k) := by
          rintro b (rfl | ⟨hdp, hb⟩)
          · rw [hk']; simp [ownOf, hc0]
          · rw [hk', hdp]; simp [ownOf, hc0, t2 b (t5 b hb)]
        refine ⟨_, upd G dst gi, hr, ?_, ?_⟩
        · refine h.putRow (w' := w) hkeys hH1 gi sz ((xs.drop l').take (h' - l')) dp 0 (.refl w) (fun _ _ _ => rfl) ?_ ?_ ?_
          · intro b hb
            refine .inl ⟨k, hchg, hmem b ?_⟩
            cases dp with
            | false => simp [ownOf, gi, hz0] at hb; exact .inl hb
            | true => simp [ownOf, gi, hz0] at hb; exact hb.imp id fun h => ⟨rfl, h⟩
          · cases dp with
            | false => simp [ownOf, gi, hz0]
            | true => simp only [ownOf, if_true, gi, hz0, if_false]; exact List.nodup_cons.2 ⟨fun hb => hsubk (t2 _ (t5 _ hb)), t6 (t3 (r8 rfl))⟩
          · refine ⟨fun _ => ⟨cur, el, hg, by simp only [gi]; omega, ?_⟩, by rw [hle]; simp only [gi]; omega, by simp only [gi]; omega, ?_, fun v hv => r5 v (List.mem_of_mem_drop (List.mem_of_mem_take hv)), fun x hx => r6 x (List.mem_of_mem_drop (List.mem_of_mem_take hx)), by rw [hfl]; exact t4, fun hdp => t6 (t3 (r8 hdp)), ?_, by simp⟩
            · intro j v hj
              simp only [gi] at hj ⊢
              rw [List.getElem?_take] at hj
              split at hj
              · rw [List.getElem?_drop] at hj
                rw [Nat.add_assoc]
                exact hvs _ _ hj
              · cases hj
            · rw [hle]
              simp only [gi]
              rw [List.length_take, List.length_drop]
              omega
            · intro hdp b hb hn
              have hdp' : dp = false := by simpa using hdp
              rcases own_put hn with hn | hn
              · exact r9 (.inl hdp') b (t2 b (t5 b hb)) (ban_kill hn)
              · rw [hdp'] at hn
                simp [ownOf, gi, hz0] at hn
                subst hn
                exact hsubk (t2 _ (t5 _ hb))
        · have := AVR.r (w := w) (G := upd G dst gi) (H := upd (upd s.heap k (some .dead)) dst (some (.row sz ((xs.drop l').take (h' - l')) dp false 0))) (Av := Ban B.F (upd G dst gi) (upd (upd s.heap k (some .dead)) dst (some (.row sz ((xs.drop l').take (h' - l')) dp false 0)))) dst sz ((xs.drop l').take (h' - l')) dp false 0 (if (G k).cap = l' then ad else ad.map (·.add (l' * te.size))) (upd_same ..) (fun hlt => by
            rw [upd_same] at hlt ⊢
            simp only [gi] at hlt ⊢
            exact had (by omega))
          rw [upd_same, hle] at this
          exact this
    | d v x S h1 ht hS =>
      cases ht with
      | z ad c sz ho =>
        simp only [Option.bind_eq_some_iff] at hm
        obtain ⟨h', e1, l', e2, hm⟩ := hm
        split at hm
        case isFalse => cases hm
        rename_i hc
        simp only [Option.some.injEq, Prod.mk.injEq] at hm
        obtain ⟨rfl, rfl⟩ := hm
        simp only [List.length_nil] at hc
        obtain ⟨rfl, rfl⟩ : h' = 0 ∧ l' = 0 := by omega
        refine ⟨_, G, hrun _ _ _ _ _ e1 e2 (by omega) (by omega), h, ?_⟩
        simp only [Nat.sub_zero, List.drop_nil, List.take_nil]
        exact .d _ _ [] rfl (.z _ _ _ (by simp)) (by simp)
      | l g o c sz cur e' fr vs xs S hg hc' hmx hl hv hone hxx ho hs =>
        simp only [Option.bind_eq_some_iff] at hm
        obtain ⟨h', e1, l', e2, hm⟩ := hm
        split at hm
        case isFalse => cases hm
        rename_i hc
        simp only [Option.some.injEq, Prod.mk.injEq] at hm
        obtain ⟨rfl, rfl⟩ := hm
        refine ⟨_, G, hrun _ _ _ _ _ e1 e2 hc.2.1 (by omega), h, ?_⟩
        by_cases hcl : l' < c
        · have hle : ((xs.drop l').take (h' - l')).length = h' - l' := by rw [List.length_take, List.length_drop]; omega
          have hm' : (l' + (h' - l')) * sz ≤ vs.length := by rw [hl]; exact Nat.mul_le_mul_right _ (by omega)
          rw [Nat.add_mul] at hm'
          obtain ⟨S1, t1, t2, t3⟩ := hs.drop (l' * sz)
          obtain ⟨S2, t4, t5, t6⟩ := t1.take ((h' - l') * sz)
          have hfl : ((xs.drop l').take (h' - l')).flatten = (xs.flatten.drop (l' * sz)).take ((h' - l') * sz) := by
            rw [flat_take (fun x hx => hxx x (List.mem_of_mem_drop hx)), flat_drop hxx]
          have := Tr.l (w := w) (own := false) g (o + l' * sz) (c - l') sz cur e' fr ((vs.drop (l' * sz)).take ((h' - l') * sz)) ((xs.drop l').take (h' - l')) S2 hg (by omega) (by omega)
            (by rw [List.length_take, List.length_drop, hle]; omega) (fun j v hj => by
              rw [List.getElem?_take] at hj
              split at hj
              · rw [List.getElem?_drop] at hj
                rw [Nat.add_assoc]
                exact hv _ _ hj
              · cases hj)
            (fun v hv' => hone v (List.mem_of_mem_drop (List.mem_of_mem_take hv'))) (fun x hx => hxx x (List.mem_of_mem_drop (List.mem_of_mem_take hx)))
            (by simp) (by rw [hfl]; exact t4)
          rw [hle] at this
          rw [if_neg (by omega)]
          simp only [Option.map_some, add_at, ← hc.1]
          exact .d _ _ _ rfl this (by
            intro b hb
            rcases List.mem_cons.1 hb with rfl | hb
            · exact hS b (by simp)
            · exact hS b (by simp [t2 b (t5 b hb)]))
        · obtain ⟨e3, e4⟩ : h' - l' = 0 ∧ c - l' = 0 := by omega
          rw [e3, List.take_zero]
          exact .d _ _ [] rfl (.z _ _ _ (by simp)) (by simp)
      | _ => first | (cases hm; done) | simp_all
    | _ => first | (cases hm; done) | simp_all
  | _ => rw [hk] at hm; simp at hm
end rel
end Go.Fs
