/- A part of the proof: an evaluator of the program's code over plain data, proved sound; the equations of its functions; what they compute. No conditions beyond those in the theorems. -/
import Derived.Test.YtkgkoolfobmfnaaGreatDoorP19
set_option linter.unusedVariables false
set_option linter.unusedSimpArgs false
set_option linter.constructorNameAsVariable false
set_option linter.unusedSectionVars false
set_option linter.defProp false
namespace Go.Fs.Se
open Go.Fs Go.Fs.Pl
open Go.Lib (decDigits itoa)
def opWs : List Bs := [[112, 117, 115, 104], [102, 108, 97, 103], [108, 111, 97, 100], [107, 101, 101, 112], [112, 114, 105, 109], [106, 117, 109, 112], [117, 110, 108, 101, 115, 115], [99, 97, 108, 108], [98, 97, 99, 107], [114, 111, 119]]
def opL (n : Int) : Bs := if n < 1 ∨ 10 < n then [] else opWs.getD (n - 1).toNat []
theorem opL_cases {n : Int} (h : ¬ (n < 1 ∨ 10 < n)) : n = 1 ∨ n = 2 ∨ n = 3 ∨ n = 4 ∨ n = 5 ∨ n = 6 ∨ n = 7 ∨ n = 8 ∨ n = 9 ∨ n = 10 := by omega
theorem n73_p (n : Int) : n73 n = some (mk (opL n)) := by
  rw [n73_eq]
  unfold opL
  by_cases h : n < 1 ∨ 10 < n
  · rw [if_pos h, if_pos h]; rfl
  · rw [if_neg h, if_neg h]
    rcases opL_cases h with rfl | rfl | rfl | rfl | rfl | rfl | rfl | rfl | rfl | rfl <;> rfl
theorem opW_eq : opW = opWs.map mk := rfl
theorem opL_len (n : Int) : (opL n).length ≤ 6 := by
  unfold opL
  by_cases h : n < 1 ∨ 10 < n
  · rw [if_pos h]; simp
  · rw [if_neg h]
    rcases opL_cases h with rfl | rfl | rfl | rfl | rfl | rfl | rfl | rfl | rfl | rfl <;> decide
theorem opL_low (n : Int) : (opL n).all isLow = true := by
  unfold opL
  by_cases h : n < 1 ∨ 10 < n
  · rw [if_pos h]; rfl
  · rw [if_neg h]
    rcases opL_cases h with rfl | rfl | rfl | rfl | rfl | rfl | rfl | rfl | rfl | rfl <;> decide
theorem getI_op {n : Int} (h : ¬ (n < 1 ∨ 10 < n)) : getI opW (IntKind.i64.wrap (n - 1)) = some (mk (opL n)) := by
  rcases opL_cases h with rfl | rfl | rfl | rfl | rfl | rfl | rfl | rfl | rfl | rfl <;> rfl
def insOk (i : CodeIns) : Bool := if i.op = 1 then decide (-100000000000000000 < i.a ∧ i.a < 100000000000000000) else if i.op = 2 then decide (i.a = 0 ∨ i.a = 1) else if i.op = 9 then decide (i.a = 0) else decide ((1 ≤ i.op ∧ i.op ≤ 10) ∧ 0 ≤ i.a ∧ i.a ≤ 1000)
theorem insOk_d {i : CodeIns} (h : insOk i = true) : ¬ (i.op < 1 ∨ 10 < i.op) ∧ -100000000000000000 < i.a ∧ i.a < 100000000000000000 := by
  unfold insOk at h
  split at h
  · simp only [decide_eq_true_eq] at h; omega
  · split at h
    · simp only [decide_eq_true_eq] at h; omega
    · split at h
      · simp only [decide_eq_true_eq] at h; omega
      · simp only [decide_eq_true_eq] at h; omega
theorem n112_p (i : CodeIns) : n112 i = some (insOk i) := by
  rw [n112_eq]
  unfold insOk
  split
  · congr 1; rw [← Bool.decide_and]; congr 1; rw [and_comm]
  · split
    · congr 1; rw [Bool.decide_or]
    · split
      · rfl
      · congr 1
        rw [← Bool.decide_and]; congr 1; rw [and_assoc]
theorem n91_p (i : CodeIns) : n91 i = some (insOk i) := by
  rw [n91_eq]
  unfold insOk
  split
  · rw [n131_eq, n57_eq, ← Bool.decide_and]; congr 2
    apply propext; omega
  · split
    · rw [n57_eq, ← Bool.decide_and]; congr 2
      apply propext; omega
    · split
      · rfl
      · rw [n57_eq, n57_eq]
        simp only [Option.bind_some, ← Bool.decide_and, decide_eq_true_eq]
        by_cases h : 1 ≤ i.op ∧ i.op ≤ 10
        · rw [if_pos h]; simp [h]
        · rw [if_neg h]; simp [h]
def mainW : ByteArray := ByteArray.mk #[109, 97, 105, 110]
def refOk (r : CodeRef) : Bool := lexName r.name && (decide (r.mod = ByteArray.mk #[]) || lexName r.mod)
def sumC (fs : List CodeFun) : Nat := (fs.map (·.code.length)).sum
def headOk (f : CodeFun) : Bool := ((lexName f.name || decide (f.name = mainW)) && (decide (f.args.length ≤ 4) && f.args.all isTy)) && (isTy f.type && decide (0 ≤ f.slots ∧ f.slots ≤ 1000))
def funOk (f : CodeFun) : Bool := headOk f && f.code.all insOk
def objOk (o : CodeObj) : Bool := decide (o.refs.length ≤ 40 ∧ o.funs.length ≤ 9) && o.refs.all refOk && o.funs.all funOk && decide (sumC o.funs ≤ 460)

theorem l74_9p {f : CodeFun} (hx : f.code.length < 1000000000) : ∀ (post pre : List CodeIns), f.code = pre ++ post → l74_9 f (pre.length : Int) = some (post.all insOk)
  | [], pre, h => by rw [l74_9_eq, if_neg (by rw [h]; simp)]; rfl
  | y :: ys, pre, h => by
    have hl : pre.length < f.code.length := by rw [h]; simp
    have hg : getI f.code (pre.length : Int) = some y := by rw [h]; exact getI_at _ _ _
    have ih := l74_9p hx ys (pre ++ [y]) (by rw [h]; simp)
    simp only [List.length_append, List.length_singleton] at ih
    rw [l74_9_eq, if_pos (by omega), hg, w1 (by omega)]
    simp only [Option.bind_some]
    rw [n112_p, ih, List.all_cons]
    simp only [Option.bind_some]
    cases insOk y <;> simp
theorem l74_4p {f : CodeFun} (hx : f.args.length < 1000000000) (hc : f.code.length < 1000000000) : ∀ (post pre : List Int), f.args = pre ++ post → l74_4 f (pre.length : Int) = some (post.all isTy && f.code.all insOk)
  | [], pre, h => by
    rw [l74_4_eq, if_neg (by rw [h]; simp)]
    exact l74_9p hc f.code [] rfl
  | y :: ys, pre, h => by
    have hl : pre.length < f.args.length := by rw [h]; simp
    have hg : getI f.args (pre.length : Int) = some y := by rw [h]; exact getI_at _ _ _
    have ih := l74_4p hx hc ys (pre ++ [y]) (by rw [h]; simp)
    simp only [List.length_append, List.length_singleton] at ih
    rw [l74_4_eq, if_pos (by omega), hg, w1 (by omega)]
    simp only [Option.bind_some]
    rw [n76_p]
    simp only [Option.bind_some, mk_ne, tyL_nil]
    rw [ih, List.all_cons]
    cases isTy y <;> simp
theorem n111_p (a : ByteArray) : n111 a = some (lexName a || decide (a = mainW)) := by
  rw [n111_eq, n54_q]
  simp only [Option.bind_some]
  unfold mainW
  cases lexName a <;> rfl
theorem n74_p (f : CodeFun) : n74 f = some (funOk f && decide (f.code.length ≤ 460)) := by
  rw [n74_eq, n111_p]
  simp only [Option.bind_some]
  rw [n76_p]
  simp only [Option.bind_some, mk_ne, tyL_nil]
  unfold funOk headOk
  cases lexName f.name || decide (f.name = mainW) with
  | false => rw [if_pos (.inl rfl), bindB_t, if_pos (.inl (.inl (.inl rfl)))]; rfl
  | true =>
    by_cases h4 : f.args.length ≤ 4
    · rw [if_neg (by simp; omega), bindB_t]
      cases ht : isTy f.type with
      | false => rw [if_pos (.inl (.inl (.inl (by decide))))]; simp
      | true =>
        by_cases hs : 0 ≤ f.slots ∧ f.slots ≤ 1000
        · by_cases hc : f.code.length ≤ 460
          · have := l74_4p (f := f) (by omega) (by omega) f.args [] rfl
            have e0 : (([] : List Int).length : Int) = 0 := rfl
            rw [e0] at this
            rw [if_neg (by simp; omega), this]
            simp [h4, hs, hc]
          · rw [if_pos (by right; omega)]
            simp [hc]
        · rw [if_pos (by omega)]
          simp [hs]
    · rw [if_pos (by right; omega), bindB_t, if_pos (.inl (.inl (.inl rfl)))]
      simp [h4]
theorem l102_10p {o : CodeObj} (hx : o.funs.length < 1000000000) : ∀ (post pre : List CodeFun) (t : Nat), o.funs = pre ++ post → t ≤ 460 →
    l102_10 o (t : Int) (pre.length : Int) = some (post.all funOk && decide (t + sumC post ≤ 460))
  | [], pre, t, h, ht => by rw [l102_10_eq, if_neg (by rw [h]; simp)]; simp [sumC, ht]
  | f :: fs, pre, t, h, ht => by
    have hl : pre.length < o.funs.length := by rw [h]; simp
    have hg : getI o.funs (pre.length : Int) = some f := by rw [h]; exact getI_at _ _ _
    rw [l102_10_eq, if_pos (by omega), hg, w1 (by omega)]
    simp only [Option.bind_some]
    rw [n74_p]
    simp only [Option.bind_some]
    have e2 : t + sumC (f :: fs) = (t + f.code.length) + sumC fs := by simp [sumC]; omega
    rw [e2, List.all_cons]
    by_cases hc : f.code.length ≤ 460
    · cases hf : funOk f with
      | false => rw [if_pos (.inl rfl)]; simp
      | true =>
        have e1 : IntKind.i64.wrap ((t : Int) + (f.code.length : Int)) = ((t + f.code.length : Nat) : Int) := by rw [wrap64 (by omega) (by omega)]; omega
        rw [e1]
        by_cases h4 : t + f.code.length ≤ 460
        · have ih := l102_10p hx fs (pre ++ [f]) (t + f.code.length) (by rw [h]; simp) h4
          simp only [List.length_append, List.length_singleton] at ih
          rw [if_neg (by simp [hc]; omega), ih]; simp
        · rw [if_pos (by right; omega)]
          have : ¬ (t + f.code.length + sumC fs ≤ 460) := by omega
          simp [this]
    · rw [if_pos (.inl (by simp [hc]))]
      have : ¬ (t + f.code.length + sumC fs ≤ 460) := by omega
      simp [this]
theorem l102_4p {o : CodeObj} (hx : o.funs.length < 1000000000) (hy : o.refs.length < 1000000000) : ∀ (post pre : List CodeRef), o.refs = pre ++ post →
    l102_4 o (pre.length : Int) = some (post.all refOk && (o.funs.all funOk && decide (sumC o.funs ≤ 460)))
  | [], pre, h => by
    rw [l102_4_eq, if_neg (by rw [h]; simp)]
    have := l102_10p hx o.funs [] 0 rfl (by omega)
    simpa using this
  | r :: rs, pre, h => by
    have hl : pre.length < o.refs.length := by rw [h]; simp
    have hg : getI o.refs (pre.length : Int) = some r := by rw [h]; exact getI_at _ _ _
    have ih := l102_4p hx hy rs (pre ++ [r]) (by rw [h]; simp)
    simp only [List.length_append, List.length_singleton] at ih
    rw [l102_4_eq, if_pos (by omega), hg, w1 (by omega), ih]
    simp only [Option.bind_some]
    rw [n54_q]
    simp only [Option.bind_some]
    rw [n54_q]
    simp only [Option.bind_some, List.all_cons]
    unfold refOk
    cases lexName r.name with
    | false => simp [bindB_t]
    | true =>
      by_cases hm : r.mod = ByteArray.mk #[]
      · simp [bindB_t, hm]
      · cases lexName r.mod <;> simp [bindB_t, hm]
theorem n102_p (o : CodeObj) : n102 o = some (objOk o) := by
  rw [n102_eq]
  unfold objOk
  by_cases h : o.refs.length ≤ 40 ∧ o.funs.length ≤ 9
  · have := l102_4p (o := o) (by omega) (by omega) o.refs [] rfl
    have e0 : (([] : List CodeRef).length : Int) = 0 := rfl
    rw [e0] at this
    rw [if_neg (by omega), this]
    simp [h, Bool.and_assoc]
  · rw [if_pos (by omega)]; simp [h]

theorem l130_p {ns : List CodeIns} (hx : ns.length < 4611686018427387904) : ∀ (post pre : List CodeIns), ns = pre ++ post → ∃ v, l130_174_2 ns (pre.length : Int) = some v ∧ decide (0 ≤ v) = !post.all insOk
  | [], pre, h => ⟨-1, by rw [l130_174_2_eq, if_neg (by rw [h]; simp)], rfl⟩
  | y :: ys, pre, h => by
    have hl : pre.length < ns.length := by rw [h]; simp
    have hg : getI ns (pre.length : Int) = some y := by rw [h]; exact getI_at _ _ _
    rw [l130_174_2_eq, if_pos (by omega), hg, w1 (by omega)]
    simp only [Option.bind_some]
    rw [n174_eq, n91_p]
    simp only [Option.bind_some]
    cases e : insOk y with
    | false => exact ⟨_, rfl, by simp [e]⟩
    | true =>
      obtain ⟨v, h1, h2⟩ := l130_p hx ys (pre ++ [y]) (by rw [h]; simp)
      simp only [List.length_append, List.length_singleton] at h1
      exact ⟨v, by simpa using h1, by rw [h2]; simp [e]⟩
theorem n89_p {ns : List CodeIns} (hx : ns.length < 4611686018427387904) : n89 ns (Fv.mk (D.f 174 [])) = some !ns.all insOk := by
  rw [n89_174_eq, n130_174_eq]
  obtain ⟨v, h1, h2⟩ := l130_p hx ns [] rfl
  have e0 : (([] : List CodeIns).length : Int) = 0 := rfl
  rw [e0] at h1
  rw [h1]
  simp only [Option.bind_some]
  rw [h2]
theorem n176_p {r : CodeRef} (h1 : r.name.size < 4611686018427387904) (h2 : r.mod.size < 4611686018427387904) : n176 r = some !refOk r := by
  rw [n176_eq, n62_p h1]
  simp only [Option.bind_some]
  rw [n62_p h2]
  simp only [Option.bind_some]
  unfold refOk
  cases lexName r.name with
  | false => rfl
  | true =>
    by_cases hm : r.mod = ByteArray.mk #[]
    · simp [hm]
    · simp [hm]
theorem l194_p {rs : List CodeRef} (hx : rs.length < 4611686018427387904) (hn : ∀ r ∈ rs, r.name.size < 4611686018427387904 ∧ r.mod.size < 4611686018427387904) : ∀ (post pre : List CodeRef), rs = pre ++ post → ∃ v, l194_176_2 rs (pre.length : Int) = some v ∧ decide (0 ≤ v) = !post.all refOk
  | [], pre, h => ⟨-1, by rw [l194_176_2_eq, if_neg (by rw [h]; simp)], rfl⟩
  | y :: ys, pre, h => by
    have hl : pre.length < rs.length := by rw [h]; simp
    have hg : getI rs (pre.length : Int) = some y := by rw [h]; exact getI_at _ _ _
    have hy := hn y (by rw [h]; simp)
    rw [l194_176_2_eq, if_pos (by omega), hg, w1 (by omega)]
    simp only [Option.bind_some]
    rw [n176_p hy.1 hy.2]
    simp only [Option.bind_some]
    cases e : refOk y with
    | false => exact ⟨_, rfl, by simp [e]⟩
    | true =>
      obtain ⟨v, h1, h2⟩ := l194_p hx hn ys (pre ++ [y]) (by rw [h]; simp)
      simp only [List.length_append, List.length_singleton] at h1
      exact ⟨v, by simpa using h1, by rw [h2]; simp [e]⟩
theorem n175_p {rs : List CodeRef} (hx : rs.length < 4611686018427387904) (hn : ∀ r ∈ rs, r.name.size < 4611686018427387904 ∧ r.mod.size < 4611686018427387904) : n175 rs (Fv.mk (D.f 176 [])) = some !rs.all refOk := by
  rw [n175_176_eq, n194_176_eq]
  obtain ⟨v, h1, h2⟩ := l194_p hx hn rs [] rfl
  have e0 : (([] : List CodeRef).length : Int) = 0 := rfl
  rw [e0] at h1
  rw [h1]
  simp only [Option.bind_some]
  rw [h2]
theorem n88_p {f : CodeFun} (h1 : f.name.size < 4611686018427387904) : n88 f.name f.args f.type f.slots = some (headOk f) := by
  rw [n88_eq, n62_p h1]
  simp only [Option.bind_some]
  rw [n128_p, n129_p, n57_eq]
  unfold headOk mainW
  have e : (lexName f.name = true ∨ f.name = ByteArray.mk #[109, 97, 105, 110]) ↔ (lexName f.name || decide (f.name = ByteArray.mk #[109, 97, 105, 110])) = true := by simp
  simp only [e]
  cases lexName f.name || decide (f.name = ByteArray.mk #[109, 97, 105, 110]) with
  | false => simp [bindB_t]
  | true =>
    cases decide (f.args.length ≤ 4) && f.args.all isTy with
    | false => simp [bindB_t]
    | true => cases isTy f.type <;> simp [bindB_t]
theorem l143_p {o : CodeObj} (hx : o.funs.length < 1000000000) (hy : o.refs.length < 1000000000) (hc : sumC o.funs < 1000000000) (hn : ∀ f ∈ o.funs, f.name.size < 4611686018427387904) (hr : ∀ r ∈ o.refs, r.name.size < 4611686018427387904 ∧ r.mod.size < 4611686018427387904) :
    ∀ (post pre : List CodeFun) (t : Nat), o.funs = pre ++ post → t + sumC post = sumC o.funs → l143_3 o (t : Int) (pre.length : Int) = some (post.all funOk && (decide ((o.refs.length ≤ 40 ∧ o.funs.length ≤ 9) ∧ sumC o.funs ≤ 460) && o.refs.all refOk))
  | [], pre, t, h, ht => by
    have ht : t = sumC o.funs := by rw [← ht]; simp [sumC]
    rw [l143_3_eq, if_neg (by rw [h]; simp), n175_p (by omega) hr]
    simp only [Option.bind_some, List.all_nil, Bool.true_and, Bool.not_not]
    by_cases e : (o.refs.length ≤ 40 ∧ o.funs.length ≤ 9) ∧ sumC o.funs ≤ 460
    · rw [if_pos (by omega)]; simp [e]
    · rw [if_neg (by omega)]; simp [e]
  | f :: fs, pre, t, h, ht => by
    have hl : pre.length < o.funs.length := by rw [h]; simp
    have hg : getI o.funs (pre.length : Int) = some f := by rw [h]; exact getI_at _ _ _
    have e2 : t + sumC (f :: fs) = (t + f.code.length) + sumC fs := by simp [sumC]; omega
    have e1 : IntKind.i64.wrap ((t : Int) + (f.code.length : Int)) = ((t + f.code.length : Nat) : Int) := by rw [wrap64 (by omega) (by omega)]; omega
    have ih := l143_p hx hy hc hn hr fs (pre ++ [f]) (t + f.code.length) (by rw [h]; simp) (by omega)
    simp only [List.length_append, List.length_singleton] at ih
    rw [l143_3_eq, if_pos (by omega), hg, w1 (by omega)]
    simp only [Option.bind_some]
    rw [n88_p (hn f (by rw [h]; simp)), e1, ih]
    simp only [Option.bind_some]
    rw [n89_p (by omega)]
    simp only [List.all_cons, funOk]
    cases headOk f with
    | false => simp [bindB_t]
    | true => cases f.code.all insOk <;> simp [bindB_t]
theorem n143_p {o : CodeObj} (hx : o.funs.length < 1000000000) (hy : o.refs.length < 1000000000) (hc : sumC o.funs < 1000000000) (hn : ∀ f ∈ o.funs, f.name.size < 4611686018427387904) (hr : ∀ r ∈ o.refs, r.name.size < 4611686018427387904 ∧ r.mod.size < 4611686018427387904) : n143 o = some (objOk o) := by
  rw [n143_eq]
  have := l143_p hx hy hc hn hr o.funs [] 0 rfl (by omega)
  have e0 : (([] : List CodeFun).length : Int) = 0 := rfl
  have e1 : ((0 : Nat) : Int) = 0 := rfl
  rw [e0, e1] at this
  rw [this]
  unfold objOk
  congr 1
  rw [Bool.decide_and, Bool.decide_and]
  cases o.funs.all funOk <;> cases o.refs.all refOk <;> cases decide (o.refs.length ≤ 40) <;> cases decide (o.funs.length ≤ 9) <;> cases decide (sumC o.funs ≤ 460) <;> rfl
end Go.Fs.Se
namespace Go.Fs.Se
open Go.Fs Go.Fs.Pl
open Go.Lib (decDigits itoa)
def refWd : Bs := [114, 101, 102]
def funWd : Bs := [102, 117, 110]
def objWd : Bs := [111, 98, 106, 101, 99, 116]
def pubWd (p : Bool) : Bs := if p = true then [112, 117, 98] else [111, 119, 110]
def kindsX (ns : List Int) : Bs := if kindsL ns = [] then [45] else kindsL ns
def refL (r : CodeRef) : Bs := refWd ++ 32 :: (un r.mod ++ 46 :: un r.name) ++ [10]
def insL (i : CodeIns) : Bs := opL i.op ++ 32 :: itoa i.a ++ [10]
def headL (f : CodeFun) : Bs := funWd ++ 32 :: (un f.name ++ 32 :: (pubWd f.pub ++ 32 :: (kindsX f.args ++ 32 :: (tyL f.type ++ 32 :: itoa f.slots)))) ++ [10]
def funL (f : CodeFun) : Bs := headL f ++ f.code.flatMap insL
def objL (o : CodeObj) : Bs := objWd ++ [10] ++ o.refs.flatMap refL ++ o.funs.flatMap funL
theorem itoaI_len {n : Int} (h : -100000000000000000 < n) (h2 : n < 100000000000000000) : (itoa n).length ≤ 18 := itoa_len h h2
theorem kindsX_len (ns : List Int) : (kindsX ns).length ≤ 5 * ns.length + 1 := by
  unfold kindsX
  have := kindsL_len ns
  split
  · simp
  · omega
theorem refOk_d {r : CodeRef} (h : refOk r = true) : lexName r.name = true ∧ (un r.mod = [] ∨ lexName r.mod = true) := by
  unfold refOk at h
  simp only [Bool.and_eq_true, Bool.or_eq_true, decide_eq_true_eq] at h
  refine ⟨h.1, h.2.imp (fun e => by rw [e]; rfl) id⟩
theorem headOk_d {f : CodeFun} (h : headOk f = true) : (lexName f.name = true ∨ f.name = mainW) ∧ f.args.length ≤ 4 ∧ f.args.all isTy = true ∧ isTy f.type = true ∧ 0 ≤ f.slots ∧ f.slots ≤ 1000 := by
  unfold headOk at h
  simp only [Bool.and_eq_true, Bool.or_eq_true, decide_eq_true_eq] at h
  exact ⟨h.1.1, h.1.2.1, h.1.2.2, h.2.1, h.2.2.1, h.2.2.2⟩
/-- A name, or 'main'. -/
theorem name_d {a : ByteArray} (h : lexName a = true ∨ a = mainW) : (1 ≤ (un a).length ∧ (un a).length ≤ 8) ∧ ∀ c ∈ un a, isLow c = true := by
  rcases h with h | rfl
  · exact lexName_d h
  · have e : un mainW = [109, 97, 105, 110] := rfl
    rw [e]
    exact ⟨by decide, by decide⟩
theorem refL_len {r : CodeRef} (h : refOk r = true) : (refL r).length ≤ 22 := by
  obtain ⟨h1, h2⟩ := refOk_d h
  have h1 := (lexName_d h1).1
  have h3 : (un r.mod).length ≤ 8 := by
    rcases h2 with h2 | h2
    · rw [h2]; simp
    · exact (lexName_d h2).1.2
  simp only [refL, refWd, List.length_append, List.length_cons, List.length_nil]
  omega
theorem insL_len {i : CodeIns} (h : insOk i = true) : (insL i).length ≤ 26 := by
  obtain ⟨h1, h2, h3⟩ := insOk_d h
  have h4 := itoaI_len h2 h3
  have h5 := opL_len i.op
  simp only [insL, List.length_append, List.length_cons, List.length_nil]
  omega
theorem pubWd_len (p : Bool) : (pubWd p).length = 3 := by cases p <;> rfl
theorem headL_len {f : CodeFun} (h : headOk f = true) : (headL f).length ≤ 70 := by
  obtain ⟨h1, h2, h3, h4, h5, h6⟩ := headOk_d h
  have h1 := (name_d h1).1
  have h7 := kindsX_len f.args
  have h8 := tyL_len f.type
  have h9 := itoaI_len (n := f.slots) (by omega) (by omega)
  have h10 := pubWd_len f.pub
  simp only [headL, funWd, List.length_append, List.length_cons, List.length_nil]
  omega
theorem flat_len {α : Type} (g : α → Bs) (k : Nat) : ∀ (xs : List α), (∀ x ∈ xs, (g x).length ≤ k) → (xs.flatMap g).length ≤ k * xs.length
  | [], _ => by simp
  | x :: xs, h => by
    have h1 := h x (by simp)
    have h2 := flat_len g k xs fun y hy => h y (by simp [hy])
    simp only [List.flatMap_cons, List.length_append, List.length_cons, Nat.mul_add]
    omega
theorem funL_len {f : CodeFun} (h : funOk f = true) : (funL f).length ≤ 70 + 26 * f.code.length := by
  unfold funOk at h
  simp only [Bool.and_eq_true] at h
  have h1 := headL_len h.1
  have h2 := flat_len insL 26 f.code fun i hi => insL_len (List.all_eq_true.1 h.2 i hi)
  simp only [funL, List.length_append]
  omega
theorem funs_len : ∀ {fs : List CodeFun}, fs.all funOk = true → (fs.flatMap funL).length ≤ 70 * fs.length + 26 * sumC fs
  | [], _ => by simp
  | f :: fs, h => by
    rw [List.all_cons, Bool.and_eq_true] at h
    have h1 := funL_len h.1
    have h2 := funs_len h.2
    have e : sumC (f :: fs) = f.code.length + sumC fs := by simp [sumC]
    simp only [List.flatMap_cons, List.length_append, List.length_cons, e]
    omega
theorem objOk_d {o : CodeObj} (h : objOk o = true) : (o.refs.length ≤ 40 ∧ o.funs.length ≤ 9) ∧ o.refs.all refOk = true ∧ o.funs.all funOk = true ∧ sumC o.funs ≤ 460 := by
  unfold objOk at h
  simp only [Bool.and_eq_true, decide_eq_true_eq] at h
  exact ⟨h.1.1.1, h.1.1.2, h.1.2, h.2⟩
theorem objL_len {o : CodeObj} (h : objOk o = true) : (objL o).length ≤ 20000 := by
  obtain ⟨⟨h1, h2⟩, h3, h4, h5⟩ := objOk_d h
  have h6 := flat_len refL 22 o.refs fun i hi => refL_len (List.all_eq_true.1 h3 i hi)
  have h7 := funs_len h4
  simp only [objL, objWd, List.length_append, List.length_cons, List.length_nil]
  omega

theorem eS : ByteArray.mk #[102, 117, 110, 32] = mk (funWd ++ [32]) := rfl
theorem eR : ByteArray.mk #[114, 101, 102, 32] = mk (refWd ++ [32]) := rfl
theorem e46 : ByteArray.mk #[46] = mk [46] := rfl
theorem e45 : ByteArray.mk #[45] = mk [45] := rfl
theorem eP : ByteArray.mk #[112, 117, 98] = mk (pubWd true) := rfl
theorem eO : ByteArray.mk #[111, 119, 110] = mk (pubWd false) := rfl
theorem eJ : ByteArray.mk #[111, 98, 106, 101, 99, 116, 10] = mk (objWd ++ [10]) := rfl
theorem n139_p {f : CodeFun} (h : headOk f = true) : n139 f = some (mk (headL f)) := by
  obtain ⟨h1, h2, h3, h4, h5, h6⟩ := headOk_d h
  have h1 := (name_d h1).1
  have h7 := kindsL_len f.args
  have h8 := tyL_len f.type
  have h9 := itoaI_len (n := f.slots) (by omega) (by omega)
  have h75 := n75_p (ns := f.args) (by omega)
  have h76 := n76_p f.type
  have h30 := n30_p (n := f.slots) (by omega) (by omega)
  have hl : funWd.length = 3 := rfl
  have hl1 := pubWd_len true
  have hl2 := pubWd_len false
  rw [n139_eq, h75, h76, h30]
  simp only [Option.bind_some, mk_ne, eS, e32, eP, eO, e45, e10]
  unfold headL kindsX
  generalize hn : un f.name = nm at h1
  have hn : f.name = mk nm := by rw [← hn, mk_un]
  rw [hn]
  cases f.pub <;> by_cases hk : kindsL f.args = []
  all_goals
    simp only [hk, if_true, if_false, Bool.false_eq_true]
    repeat rw [cat_mk (by simp only [List.length_append, List.length_cons, List.length_nil]; omega), Option.bind_some]
    rw [cat_mk (by simp only [List.length_append, List.length_cons, List.length_nil]; omega)]
    simp only [List.append_assoc, List.cons_append, List.nil_append, List.append_nil]
end Go.Fs.Se
namespace Go.Fs.Se
open Go.Fs Go.Fs.Pl
open Go.Lib (decDigits itoa)
theorem funOk_d {f : CodeFun} (h : funOk f = true) : headOk f = true ∧ f.code.all insOk = true := by
  unfold funOk at h
  simpa using h
theorem fM_cons {α : Type} (g : α → Bs) (x : α) (xs : List α) : (x :: xs).flatMap g = g x ++ xs.flatMap g := rfl
theorem l103_13p {o : CodeObj} {f : CodeFun} {fs pre : List CodeFun} (ho : o.funs = pre ++ f :: fs) (hp : pre.length < 1000000000) (hc : f.code.length < 1000000000) : ∀ (post cpre : List CodeIns) (T : Bs), f.code = cpre ++ post → post.all insOk = true → T.length + (post.flatMap insL).length ≤ 1000000000000000 →
    l103_13 o (mk T) (pre.length : Int) (cpre.length : Int) = l103_9 o (mk (T ++ post.flatMap insL)) ((pre.length + 1 : Nat) : Int)
  | [], cpre, T, h, ha, ht => by
    have hg : getI o.funs (pre.length : Int) = some f := by rw [ho]; exact getI_at _ _ _
    rw [l103_13_eq, hg]
    simp only [Option.bind_some]
    rw [if_neg (by rw [h]; simp), w1 (by omega)]
    simp
  | i :: is, cpre, T, h, ha, ht => by
    have hg : getI o.funs (pre.length : Int) = some f := by rw [ho]; exact getI_at _ _ _
    have hl : cpre.length < f.code.length := by rw [h]; simp
    have hg2 : getI f.code (cpre.length : Int) = some i := by rw [h]; exact getI_at _ _ _
    rw [List.all_cons, Bool.and_eq_true] at ha
    obtain ⟨k1, k2, k3⟩ := insOk_d ha.1
    rw [fM_cons, List.length_append] at ht
    have ht2 : (insL i).length = (opL i.op).length + 1 + (itoa i.a).length + 1 := by simp [insL]; omega
    have ih := l103_13p ho hp hc is (cpre ++ [i]) (T ++ insL i) (by rw [h]; simp) ha.2 (by rw [List.length_append]; omega)
    simp only [List.length_append, List.length_singleton] at ih
    rw [l103_13_eq, hg]
    simp only [Option.bind_some]
    rw [if_pos (by omega), hg2, w1 (by omega), Option.bind_some, n73_p, n30_p (by omega) (by omega), e32, e10]
    simp only [Option.bind_some]
    repeat rw [cat_mk (by (try simp only [List.length_append, List.length_cons, List.length_nil]); omega), Option.bind_some]
    rw [fM_cons, ← List.append_assoc T (insL i), ← ih]
    simp only [insL, List.append_assoc, List.cons_append, List.nil_append]
theorem l103_9p {o : CodeObj} (hx : o.funs.length < 1000000000) : ∀ (post pre : List CodeFun) (T : Bs), o.funs = pre ++ post → post.all funOk = true → sumC post < 1000000000 → T.length + (post.flatMap funL).length ≤ 1000000000000000 →
    l103_9 o (mk T) (pre.length : Int) = some (mk (T ++ post.flatMap funL))
  | [], pre, T, h, ha, hs, ht => by rw [l103_9_eq, if_neg (by rw [h]; simp)]; simp
  | f :: fs, pre, T, h, ha, hs, ht => by
    have hl : pre.length < o.funs.length := by rw [h]; simp
    have hg : getI o.funs (pre.length : Int) = some f := by rw [h]; exact getI_at _ _ _
    rw [List.all_cons, Bool.and_eq_true] at ha
    obtain ⟨k1, k2⟩ := funOk_d ha.1
    rw [fM_cons, List.length_append] at ht
    have e2 : sumC (f :: fs) = f.code.length + sumC fs := by simp [sumC]
    have ht2 : (funL f).length = (headL f).length + (f.code.flatMap insL).length := by simp [funL]
    have ih := l103_9p hx fs (pre ++ [f]) (T ++ funL f) (by rw [h]; simp) ha.2 (by omega) (by rw [List.length_append]; omega)
    simp only [List.length_append, List.length_singleton] at ih
    have i13 := l103_13p h (by omega) (by omega) f.code [] (T ++ headL f) rfl k2 (by rw [List.length_append]; omega)
    have e0 : (([] : List CodeIns).length : Int) = 0 := rfl
    rw [e0] at i13
    rw [l103_9_eq, if_pos (by omega), hg]
    simp only [Option.bind_some]
    rw [n139_p k1]
    simp only [Option.bind_some]
    rw [cat_mk (by omega), Option.bind_some, i13, fM_cons, ← List.append_assoc T (funL f), ← ih]
    simp only [funL, List.append_assoc]
theorem l103_5p {o : CodeObj} (hx : o.refs.length < 1000000000) : ∀ (post pre : List CodeRef) (T : Bs), o.refs = pre ++ post → T.length + (post.flatMap refL).length ≤ 1000000000000000 →
    l103_5 o (mk T) (pre.length : Int) = l103_9 o (mk (T ++ post.flatMap refL)) 0
  | [], pre, T, h, ht => by rw [l103_5_eq, if_neg (by rw [h]; simp)]; simp
  | r :: rs, pre, T, h, ht => by
    have hl : pre.length < o.refs.length := by rw [h]; simp
    have hg : getI o.refs (pre.length : Int) = some r := by rw [h]; exact getI_at _ _ _
    rw [fM_cons, List.length_append] at ht
    have ht2 : (refL r).length = 3 + (un r.mod).length + 1 + (un r.name).length + 2 := by simp [refL, refWd]; omega
    have hw : refWd.length = 3 := rfl
    have ih := l103_5p hx rs (pre ++ [r]) (T ++ refL r) (by rw [h]; simp) (by rw [List.length_append]; omega)
    simp only [List.length_append, List.length_singleton] at ih
    rw [l103_5_eq, if_pos (by omega), hg, w1 (by omega), eR, e46, e10]
    simp only [Option.bind_some]
    rw [← mk_un r.mod, ← mk_un r.name]
    simp only [mk_un r.mod, mk_un r.name] 
    generalize hm : un r.mod = md at ht2
    generalize hn : un r.name = nm at ht2
    have hm : r.mod = mk md := by rw [← hm, mk_un]
    have hn : r.name = mk nm := by rw [← hn, mk_un]
    rw [hm, hn]
    repeat rw [cat_mk (by (try simp only [List.length_append, List.length_cons, List.length_nil]); omega), Option.bind_some]
    rw [fM_cons, ← List.append_assoc T (refL r), ← ih]
    simp only [refL, hm, hn, un_mk, List.append_assoc, List.cons_append, List.nil_append]
theorem n103_p (o : CodeObj) : n103 o = some (if objOk o = true then mk (objL o) else mk []) := by
  rw [n103_eq, n102_p]
  simp only [Option.bind_some]
  cases e : objOk o with
  | false => simp; rfl
  | true =>
    obtain ⟨⟨h1, h2⟩, h3, h4, h5⟩ := objOk_d e
    have hl := objL_len e
    have hw : (objWd ++ [10] : Bs).length = 7 := rfl
    simp only [objL, List.length_append] at hl hw
    rw [if_neg (by decide), if_pos rfl, eJ]
    have a := l103_5p (o := o) (by omega) o.refs [] (objWd ++ [10]) rfl (by simp only [List.length_append]; omega)
    have b := l103_9p (o := o) (by omega) o.funs [] (objWd ++ [10] ++ o.refs.flatMap refL) rfl h4 (by omega) (by simp only [List.length_append]; omega)
    have e0 : (([] : List CodeRef).length : Int) = 0 := rfl
    have e1 : (([] : List CodeFun).length : Int) = 0 := rfl
    rw [e0] at a
    rw [e1] at b
    rw [a, b]
    rfl

theorem n86_p {ns : List Int} {t s : Int} (h1 : ns.length ≤ 4) (h2 : -100000000000000000 < s) (h3 : s < 100000000000000000) : n86 ns t s = some (mk (kindsX ns ++ 32 :: (tyL t ++ 32 :: itoa s))) := by
  have h7 := kindsL_len ns
  have h8 := tyL_len t
  have h9 := itoaI_len h2 h3
  rw [n86_eq, n126_p (by omega), n127_p, lItoa_mk (by omega) (by omega), e45, e32]
  simp only [Option.bind_some, mk_ne]
  unfold kindsX
  by_cases hk : kindsL ns = []
  all_goals
    simp only [hk, if_true, if_false]
    repeat rw [cat_mk (by (try simp only [List.length_append, List.length_cons, List.length_nil]); omega), Option.bind_some]
    rw [cat_mk (by (try simp only [List.length_append, List.length_cons, List.length_nil]); omega)]
    simp only [List.append_assoc, List.cons_append, List.nil_append, List.append_nil]
theorem bld_ok {l m : Bs} (h : l.length + m.length ≤ 1000000000000) : (mk l).size + (mk m).size ≤ 140737488355328 := by rw [mk_size, mk_size]; omega
theorem l87_p {is : List CodeIns} (hx : is.length < 1000000000) : ∀ (post pre : List CodeIns) (T : Bs), is = pre ++ post → post.all insOk = true → T.length + (post.flatMap insL).length ≤ 1000000000000 →
    l87_3 is (pre.length : Int) (mk T) = some (mk (T ++ post.flatMap insL))
  | [], pre, T, h, ha, ht => by rw [l87_3_eq, if_neg (by rw [h]; simp)]; simp
  | i :: js, pre, T, h, ha, ht => by
    have hl : pre.length < is.length := by rw [h]; simp
    have hg : getI is (pre.length : Int) = some i := by rw [h]; exact getI_at _ _ _
    rw [List.all_cons, Bool.and_eq_true] at ha
    obtain ⟨k1, k2, k3⟩ := insOk_d ha.1
    rw [fM_cons, List.length_append] at ht
    have ht2 : (insL i).length = (opL i.op).length + 1 + (itoa i.a).length + 1 := by simp [insL]; omega
    have ih := l87_p hx js (pre ++ [i]) (T ++ insL i) (by rw [h]; simp) ha.2 (by rw [List.length_append]; omega)
    simp only [List.length_append, List.length_singleton] at ih
    rw [l87_3_eq, if_pos (by omega), hg, w1 (by omega)]
    simp only [Option.bind_some]
    rw [getI_op k1, lItoa_mk (by omega) (by omega), e32, e10]
    simp only [Option.bind_some]
    repeat rw [cat_mk (by (try simp only [List.length_append, List.length_cons, List.length_nil]); omega), Option.bind_some]
    rw [if_pos (bld_ok (by (try simp only [List.length_append, List.length_cons, List.length_nil]); omega)), mk_append, fM_cons, ← List.append_assoc T (insL i), ← ih]
    simp only [insL, List.append_assoc, List.cons_append, List.nil_append]
theorem n87_p {is : List CodeIns} (hx : is.length < 1000000000) (ha : is.all insOk = true) (ht : (is.flatMap insL).length ≤ 1000000000000) : n87 is = some (mk (is.flatMap insL)) := by
  rw [n87_eq, mk_empty]
  have := l87_p hx is [] [] rfl ha (by simpa using ht)
  simpa using this
theorem eS2 : ByteArray.mk #[102, 117, 110, 32] = mk (funWd ++ [32]) := rfl
theorem l109_11p {o : CodeObj} (hx : o.funs.length < 1000000000) : ∀ (post pre : List CodeFun) (T : Bs), o.funs = pre ++ post → post.all funOk = true → sumC post < 1000000000 → T.length + (post.flatMap funL).length ≤ 1000000000000 →
    l109_11 o (pre.length : Int) (mk T) = some (mk (T ++ post.flatMap funL))
  | [], pre, T, h, ha, hs, ht => by rw [l109_11_eq, if_neg (by rw [h]; simp)]; simp
  | f :: fs, pre, T, h, ha, hs, ht => by
    have hl : pre.length < o.funs.length := by rw [h]; simp
    have hg : getI o.funs (pre.length : Int) = some f := by rw [h]; exact getI_at _ _ _
    rw [List.all_cons, Bool.and_eq_true] at ha
    obtain ⟨k1, k2⟩ := funOk_d ha.1
    obtain ⟨q1, q2, q3, q4, q5, q6⟩ := headOk_d k1
    rw [fM_cons, List.length_append] at ht
    have e2 : sumC (f :: fs) = f.code.length + sumC fs := by simp [sumC]
    have ht2 : (funL f).length = (headL f).length + (f.code.flatMap insL).length := by simp [funL]
    have hw : funWd.length = 3 := rfl
    have hl1 := pubWd_len true
    have hl2 := pubWd_len false
    have ht3 : (headL f).length = 3 + (un f.name).length + 3 + (kindsX f.args).length + (tyL f.type).length + (itoa f.slots).length + 6 := by
      have := pubWd_len f.pub
      simp only [headL, List.length_append, List.length_cons, List.length_nil]; omega
    have ih := l109_11p hx fs (pre ++ [f]) (T ++ funL f) (by rw [h]; simp) ha.2 (by omega) (by rw [List.length_append]; omega)
    simp only [List.length_append, List.length_singleton] at ih
    have h87 := n87_p (is := f.code) (by omega) k2 (by omega)
    have h86 := n86_p (ns := f.args) (t := f.type) (s := f.slots) q2 (by omega) (by omega)
    rw [l109_11_eq, if_pos (by omega), hg, w1 (by omega), eS2, e32, eP, eO, e10]
    simp only [Option.bind_some]
    rw [h86, h87]
    simp only [Option.bind_some]
    rw [fM_cons, ← List.append_assoc T (funL f), ← ih]
    simp only [funL, headL]
    generalize hn : un f.name = nm at ht3
    have hn : f.name = mk nm := by rw [← hn, mk_un]
    rw [hn]
    cases hp : f.pub
    all_goals
      simp only [if_true, if_false, Bool.false_eq_true]
      repeat rw [cat_mk (by (try simp only [List.length_append, List.length_cons, List.length_nil]); omega), Option.bind_some]
      rw [if_pos (bld_ok (by (try simp only [List.length_append, List.length_cons, List.length_nil]); omega)), mk_append]
      simp only [List.append_assoc, List.cons_append, List.nil_append]
theorem l109_6p {o : CodeObj} (hx : o.refs.length < 1000000000) : ∀ (post pre : List CodeRef) (T : Bs), o.refs = pre ++ post → T.length + (post.flatMap refL).length ≤ 1000000000000 →
    l109_6 o (pre.length : Int) (mk T) = l109_11 o 0 (mk (T ++ post.flatMap refL))
  | [], pre, T, h, ht => by rw [l109_6_eq, if_neg (by rw [h]; simp)]; simp
  | r :: rs, pre, T, h, ht => by
    have hl : pre.length < o.refs.length := by rw [h]; simp
    have hg : getI o.refs (pre.length : Int) = some r := by rw [h]; exact getI_at _ _ _
    rw [fM_cons, List.length_append] at ht
    have ht2 : (refL r).length = 3 + (un r.mod).length + 1 + (un r.name).length + 2 := by simp [refL, refWd]; omega
    have hw : refWd.length = 3 := rfl
    have ih := l109_6p hx rs (pre ++ [r]) (T ++ refL r) (by rw [h]; simp) (by rw [List.length_append]; omega)
    simp only [List.length_append, List.length_singleton] at ih
    rw [l109_6_eq, if_pos (by omega), hg, w1 (by omega), eR, e46, e10]
    simp only [Option.bind_some]
    rw [fM_cons, ← List.append_assoc T (refL r), ← ih]
    simp only [refL]
    generalize hm : un r.mod = md at ht2
    generalize hn : un r.name = nm at ht2
    have hm : r.mod = mk md := by rw [← hm, mk_un]
    have hn : r.name = mk nm := by rw [← hn, mk_un]
    rw [hm, hn]
    repeat rw [cat_mk (by (try simp only [List.length_append, List.length_cons, List.length_nil]); omega), Option.bind_some]
    rw [if_pos (bld_ok (by (try simp only [List.length_append, List.length_cons, List.length_nil]); omega)), mk_append]
    simp only [List.append_assoc, List.cons_append, List.nil_append]
/-- The program's writer writes what is right as the spec's does. -/
theorem n109_p {o : CodeObj} (hx : o.funs.length < 1000000000) (hy : o.refs.length < 1000000000) (hc : sumC o.funs < 1000000000) (hn : ∀ f ∈ o.funs, f.name.size < 4611686018427387904) (hr : ∀ r ∈ o.refs, r.name.size < 4611686018427387904 ∧ r.mod.size < 4611686018427387904) :
    n109 o = some (if objOk o = true then mk (objL o) else mk []) := by
  rw [n109_eq, n143_p hx hy hc hn hr]
  simp only [Option.bind_some]
  cases e : objOk o with
  | false => simp; rfl
  | true =>
    obtain ⟨⟨h1, h2⟩, h3, h4, h5⟩ := objOk_d e
    have hl := objL_len e
    have hw : (objWd ++ [10] : Bs).length = 7 := rfl
    simp only [objL, List.length_append] at hl hw
    rw [if_neg (by decide), if_pos (by decide), if_pos rfl, eJ, mk_empty, mk_append]
    have a := l109_6p (o := o) (by omega) o.refs [] ([] ++ (objWd ++ [10])) rfl (by simp only [List.length_append, List.length_nil]; omega)
    have b := l109_11p (o := o) (by omega) o.funs [] ([] ++ (objWd ++ [10]) ++ o.refs.flatMap refL) rfl h4 (by omega) (by simp only [List.length_append, List.length_nil]; omega)
    have e0 : (([] : List CodeRef).length : Int) = 0 := rfl
    have e1 : (([] : List CodeFun).length : Int) = 0 := rfl
    rw [e0] at a
    rw [e1] at b
    rw [a, b]
    rfl
end Go.Fs.Se
namespace Go.Fs.Se
open Go.Fs Go.Fs.Pl
open Go.Lib (decDigits itoa)
def updC (f : CodeFun) (i : CodeIns) : CodeFun := CodeFun.mk f.name f.pub f.args f.type f.slots (f.code ++ [i])
def addI : List CodeFun → CodeIns → List CodeFun
  | [], _ => []
  | [f], i => [updC f i]
  | f :: g :: r, i => f :: addI (g :: r) i
theorem addI_last : ∀ (fs : List CodeFun) (f : CodeFun) (i : CodeIns), addI (fs ++ [f]) i = fs ++ [updC f i]
  | [], _, _ => rfl
  | [g], _, _ => rfl
  | g :: h :: r, f, i => by
    have := addI_last (h :: r) f i
    simp only [List.cons_append, addI] at this ⊢
    rw [this]
abbrev OSt := List CodeRef × List CodeFun
def stepG (R : Bs → Option CodeRef) (H : Bs → Bs → Bs → Bs → Bs → CodeFun) (I : Bs → Bs → CodeIns) (st : OSt) (ws : List Bs) : OSt := match ws with
  | [a, b] => if a = refWd then (match R b with | some r => (st.1 ++ [r], st.2) | none => st) else (st.1, addI st.2 (I a b))
  | [a, b, c, d, e, f] => if a = funWd then (st.1, st.2 ++ [H b c d e f]) else st
  | _ => st
theorem stepG_else {R : Bs → Option CodeRef} {H : Bs → Bs → Bs → Bs → Bs → CodeFun} {I : Bs → Bs → CodeIns} {st : OSt} {ws : List Bs} (h2 : ws.length ≠ 2) (h6 : ws.length ≠ 6) : stepG R H I st ws = st := by
  unfold stepG
  split
  · simp at h2
  · simp at h6
  · rfl
theorem six {α : Type} : ∀ {ws : List α}, ws.length = 6 → ∃ a b c d e f, ws = [a, b, c, d, e, f]
  | [a, b, c, d, e, f], _ => ⟨a, b, c, d, e, f, rfl⟩
theorem two {α : Type} : ∀ {ws : List α}, ws.length = 2 → ∃ a b, ws = [a, b]
  | [a, b], _ => ⟨a, b, rfl⟩
structure Inv (M n : Nat) (st : OSt) : Prop where
  cnt : st.1.length + st.2.length + sumC st.2 ≤ n
  ref : ∀ r ∈ st.1, r.name.size ≤ M ∧ r.mod.size ≤ M
  fn : ∀ f ∈ st.2, f.name.size ≤ M
theorem inv_mono {M n m : Nat} {st : OSt} (h : Inv M n st) (hnm : n ≤ m) : Inv M m st := ⟨Nat.le_trans h.cnt hnm, h.ref, h.fn⟩
theorem sumC_app (fs gs : List CodeFun) : sumC (fs ++ gs) = sumC fs + sumC gs := by simp [sumC]
theorem inv_step {M n : Nat} {st : OSt} (h : Inv M n st) {R : Bs → Option CodeRef} {H : Bs → Bs → Bs → Bs → Bs → CodeFun} {I : Bs → Bs → CodeIns}
    (hR : ∀ b r, R b = some r → r.name.size ≤ b.length ∧ r.mod.size ≤ b.length) (hH : ∀ b c d e f, (H b c d e f).name = mk b ∧ (H b c d e f).code = []) {ws : List Bs} (hw : ∀ w ∈ ws, w.length ≤ M) : Inv M (n + 1) (stepG R H I st ws) := by
  obtain ⟨rs, fs⟩ := st
  by_cases h2 : ws.length = 2
  · obtain ⟨a, b, rfl⟩ := two h2
    unfold stepG
    simp only
    have hb := hw b (by simp)
    split
    · cases hr : R b with
      | none => exact inv_mono h (Nat.le_succ _)
      | some r =>
        have h3 := hR b r hr
        refine ⟨?_, ?_, h.fn⟩
        · have := h.cnt
          simp only [List.length_append, List.length_singleton] at this ⊢; omega
        · intro x hx
          simp only [List.mem_append, List.mem_singleton] at hx
          rcases hx with hx | rfl
          · exact h.ref x hx
          · exact ⟨by omega, by omega⟩
    · rcases List.eq_nil_or_concat fs with rfl | ⟨gs, g, rfl⟩
      · exact inv_mono h (Nat.le_succ _)
      · rw [List.concat_eq_append] at h ⊢
        rw [addI_last]
        have h1 := h.cnt
        have h3 := h.fn
        refine ⟨?_, h.ref, ?_⟩
        · simp only [List.length_append, List.length_singleton, sumC_app] at h1 ⊢
          simp only [sumC, List.map_cons, List.map_nil, List.sum_cons, List.sum_nil, updC, List.length_append, List.length_singleton] at h1 ⊢
          omega
        · intro x hx
          simp only [List.mem_append, List.mem_singleton] at hx
          rcases hx with hx | rfl
          · exact h3 x (by simp [hx])
          · exact h3 g (by simp)
  · by_cases h6 : ws.length = 6
    · obtain ⟨a, b, c, d, e, f, rfl⟩ := six h6
      unfold stepG
      simp only
      have hb := hw b (by simp)
      split
      · obtain ⟨h3, h4⟩ := hH b c d e f
        refine ⟨?_, h.ref, ?_⟩
        · have := h.cnt
          simp only [List.length_append, List.length_singleton, sumC_app] at this ⊢
          simp only [sumC, List.map_cons, List.map_nil, List.sum_cons, List.sum_nil, h4, List.length_nil] at this ⊢
          omega
        · intro x hx
          simp only [List.mem_append, List.mem_singleton] at hx
          rcases hx with hx | rfl
          · exact h.fn x hx
          · rw [h3, mk_size]; exact hb
      · exact inv_mono h (Nat.le_succ _)
    · rw [stepG_else h2 h6]; exact inv_mono h (Nat.le_succ _)

def opFind : Nat → Int → Bs → Int
  | 0, _, _ => 0
  | k + 1, t, a => if a = opL t then t else opFind k (t + 1) a
def insS (a b : Bs) : CodeIns := if opFind 10 1 a = 0 then CodeIns.mk 0 0 else CodeIns.mk (opFind 10 1 a) (numS b).1
theorem opFind_hit {k : Nat} {t : Int} {a : Bs} (h : a = opL t) : opFind (k + 1) t a = t := by unfold opFind; rw [if_pos h]
theorem opFind_miss {k : Nat} {t : Int} {a : Bs} (h : a ≠ opL t) : opFind (k + 1) t a = opFind k (t + 1) a := by
  show (if a = opL t then t else opFind k (t + 1) a) = _
  rw [if_neg h]
theorem l41_p {a b : Bs} (hb : b.length < 4611686018427387904) : ∀ (k : Nat) (t : Int), t = 11 - (k : Int) → 1 ≤ t → l41_2 [mk a, mk b] t = some (if opFind k t a = 0 then CodeIns.mk 0 0 else CodeIns.mk (opFind k t a) (numS b).1)
  | 0, t, h, h1 => by
    rw [l41_2_eq, if_neg (by omega)]; rfl
  | k + 1, t, h, h1 => by
    have e0 : getI [mk a, mk b] 0 = some (mk a) := rfl
    have e1 : getI [mk a, mk b] 1 = some (mk b) := rfl
    rw [l41_2_eq, if_pos (by omega), e0, e1]
    simp only [Option.bind_some]
    rw [n73_p, n40_p hb]
    simp only [Option.bind_some, mk_inj]
    by_cases e : a = opL t
    · simp only [opFind_hit e]
      rw [if_pos e, if_neg (by omega)]
    · simp only [opFind_miss e]
      rw [if_neg e, wrap64 (by omega) (by omega), l41_p hb k (t + 1) (by omega) (by omega)]
theorem n41_p {a b : Bs} (hb : b.length < 4611686018427387904) : n41 [mk a, mk b] = some (insS a b) := by
  rw [n41_eq, l41_p hb 10 1 (by decide) (by decide)]; rfl
theorem insS_op {i : CodeIns} (h : insOk i = true) : insS (opL i.op) (itoa i.a) = i := by
  obtain ⟨k1, k2, k3⟩ := insOk_d h
  have e : opFind 10 1 (opL i.op) = i.op := by
    rcases opL_cases k1 with h | h | h | h | h | h | h | h | h | h <;> rw [h] <;> decide
  unfold insS
  rw [e, if_neg (by omega), numS_itoa k2 k3]
/-- A list of types, or '-'. -/
def kindsD (d : Bs) : List Int := if d = [45] then [] else kindsI d
def hdS (b c d e f : Bs) : CodeFun := CodeFun.mk (mk b) (decide (c = [112, 117, 98])) (kindsD d) (kindI e) (numS f).1 []
theorem n138_p {a b c d e f : Bs} (hd : d.length < 4294967281) (hf : f.length < 4294967281) : n138 [mk a, mk b, mk c, mk d, mk e, mk f] = some (hdS b c d e f) := by
  have e1 : getI [mk a, mk b, mk c, mk d, mk e, mk f] 1 = some (mk b) := rfl
  have e2 : getI [mk a, mk b, mk c, mk d, mk e, mk f] 2 = some (mk c) := rfl
  have e3 : getI [mk a, mk b, mk c, mk d, mk e, mk f] 3 = some (mk d) := rfl
  have e4 : getI [mk a, mk b, mk c, mk d, mk e, mk f] 4 = some (mk e) := rfl
  have e5 : getI [mk a, mk b, mk c, mk d, mk e, mk f] 5 = some (mk f) := rfl
  have ep : ByteArray.mk #[112, 117, 98] = mk [112, 117, 98] := rfl
  rw [n138_eq, e1, e2, e3, e4, e5, ep, e45]
  simp only [Option.bind_some, mk_inj]
  rw [n71_p]
  simp only [Option.bind_some]
  unfold hdS kindsD
  by_cases hk : d = [45]
  · rw [if_neg (by simp [hk]), if_pos hk, n40_p (by omega)]; rfl
  · rw [if_pos (by simp [hk]), if_neg hk, n72_p (by omega)]
    simp only [Option.bind_some]
    rw [n40_p (by omega)]; rfl
theorem kindsD_X {ns : List Int} (h : ns.all isTy = true) : kindsD (kindsX ns) = ns := by
  unfold kindsX kindsD
  by_cases hk : kindsL ns = []
  · rw [if_pos hk, if_pos rfl]
    cases ns with
    | nil => rfl
    | cons n r =>
      rw [List.all_cons, Bool.and_eq_true] at h
      exact absurd hk (kindsL_ne h.1 r)
  · rw [if_neg hk, if_neg, kindsI_L h]
    intro e
    have : (45 : UInt8) ∉ kindsL ns := kindsL_no (by decide) (by decide) ns
    rw [e] at this; simp at this
theorem hdS_f {f : CodeFun} (h : headOk f = true) : hdS (un f.name) (pubWd f.pub) (kindsX f.args) (tyL f.type) (itoa f.slots) = CodeFun.mk f.name f.pub f.args f.type f.slots [] := by
  obtain ⟨h1, h2, h3, h4, h5, h6⟩ := headOk_d h
  unfold hdS
  rw [mk_un, kindsD_X h3, kindI_ty h4, numS_itoa (by omega) (by omega)]
  congr 1
  cases f.pub <;> decide
def refS (b : Bs) : Option CodeRef := match idx 46 b with
  | some i => some (CodeRef.mk (mk (b.take i)) (mk (b.drop (i + 1))))
  | none => none
theorem refS_len (b : Bs) (r : CodeRef) (h : refS b = some r) : r.name.size ≤ b.length ∧ r.mod.size ≤ b.length := by
  unfold refS at h
  split at h
  · cases h
    rw [mk_size, mk_size, List.length_drop, List.length_take]; omega
  · cases h
theorem mod_no {r : CodeRef} (h : refOk r = true) {c : UInt8} (hc : isLow c = false) : c ∉ un r.mod := by
  obtain ⟨_, h2⟩ := refOk_d h
  rcases h2 with h2 | h2
  · rw [h2]; simp
  · exact name_no h2 hc
theorem refS_r {r : CodeRef} (h : refOk r = true) : refS (un r.mod ++ 46 :: un r.name) = some r := by
  unfold refS
  rw [idx_at _ (mod_no h (by decide))]
  simp only [List.take_left]
  rw [← List.drop_drop, List.drop_left]
  simp

def insI (a b : Bs) : CodeIns := CodeIns.mk (IntKind.i64.wrap ((match idxW (mk a) opW with | some i => (i : Int) | none => -1) + 1)) (numI b).1
theorem n49_p {a b : Bs} (hb : b.length ≤ 281474976710656) : n49 [mk a, mk b] = some (insI a b) := by
  have e0 : getI [mk a, mk b] 0 = some (mk a) := rfl
  have e1 : getI [mk a, mk b] 1 = some (mk b) := rfl
  rw [n49_eq, e0, e1]
  simp only [Option.bind_some]
  rw [n46_p hb]
  simp only [Option.bind_some]
  rw [n85_p (by rw [opW_eq]; decide)]
  rfl
theorem insI_op {i : CodeIns} (h : insOk i = true) : insI (opL i.op) (itoa i.a) = i := by
  obtain ⟨k1, k2, k3⟩ := insOk_d h
  unfold insI
  rw [numI_itoa (by omega) (by omega), opW_eq]
  have e : IntKind.i64.wrap ((match idxW (mk (opL i.op)) (opWs.map mk) with | some i => (i : Int) | none => -1) + 1) = i.op := by
    rcases opL_cases k1 with h | h | h | h | h | h | h | h | h | h <;> rw [h] <;> simp only [opWs, opL, List.map_cons, List.map_nil, idxW, mk_inj] <;> decide
  rw [e]
def hdI (b c d e f : Bs) : CodeFun := CodeFun.mk (mk b) (decide (c = [112, 117, 98])) (kindsD d) (kindI e) (numI f).1 []
theorem n48_p {d e f : Bs} (hd : d.length < 4294967281) (hf : f.length < 4294967281) : n48 [mk d, mk e, mk f] = some (T3.mk (kindsD d) (kindI e) (numI f).1) := by
  have e3 : getI [mk d, mk e, mk f] 0 = some (mk d) := rfl
  have e4 : getI [mk d, mk e, mk f] 1 = some (mk e) := rfl
  have e5 : getI [mk d, mk e, mk f] 2 = some (mk f) := rfl
  rw [n48_eq, e3, e4, e5, e45]
  simp only [Option.bind_some, mk_inj]
  unfold kindsD
  by_cases hk : d = [45]
  · rw [if_neg (by simp [hk]), if_pos hk, n46_p (by omega)]
    simp only [Option.bind_some]
    rw [n84_p]; rfl
  · rw [if_pos (by simp [hk]), if_neg hk, n83_p (by omega)]
    simp only [Option.bind_some]
    rw [n46_p (by omega)]
    simp only [Option.bind_some]
    rw [n84_p]; rfl
theorem hdI_f {f : CodeFun} (h : headOk f = true) : hdI (un f.name) (pubWd f.pub) (kindsX f.args) (tyL f.type) (itoa f.slots) = CodeFun.mk f.name f.pub f.args f.type f.slots [] := by
  obtain ⟨h1, h2, h3, h4, h5, h6⟩ := headOk_d h
  unfold hdI
  rw [mk_un, kindsD_X h3, kindI_ty h4, numI_itoa (by omega) (by omega)]
  congr 1
  cases f.pub <;> decide
def refI (b : Bs) : Option CodeRef := some (CodeRef.mk (mk (cutA 46 b)) (mk (cutZ 46 b)))
theorem refI_len (b : Bs) (r : CodeRef) (h : refI b = some r) : r.name.size ≤ b.length ∧ r.mod.size ≤ b.length := by
  unfold refI at h
  cases h
  exact ⟨by rw [mk_size]; exact cutZ_len _ _, by rw [mk_size]; exact cutA_len _ _⟩
theorem refI_r {r : CodeRef} (h : refOk r = true) : refI (un r.mod ++ 46 :: un r.name) = some r := by
  unfold refI
  obtain ⟨a, b⟩ := cut_at (c := 46) (un r.name) (mod_no h (c := 46) (by decide))
  rw [a, b]
  simp
end Go.Fs.Se
namespace Go.Fs.Se
open Go.Fs Go.Fs.Pl
open Go.Lib (decDigits itoa)
theorem wordsS_mem (y : Bs) : ∀ w ∈ wordsS y, w.length ≤ y.length := fun w hw => by
  have := splitG_mem 32 y [] w (List.mem_filter.1 hw).1
  simpa using this
theorem updAt (fs : List CodeFun) (f g : CodeFun) (h : fs.length < 1000000000) : IntKind.i64.wrap ((((fs ++ [f]).length : Nat) : Int) - 1) = (fs.length : Int) ∧ getI (fs ++ [f]) (fs.length : Int) = some f ∧ (fs ++ [f])[((fs.length : Int)).toNat]? = some f ∧ (fs ++ [f]).set ((fs.length : Int)).toNat g = fs ++ [g] := by
  refine ⟨?_, getI_at fs [] f, ?_, ?_⟩
  · rw [List.length_append, List.length_singleton, wrap64 (by omega) (by omega)]; omega
  · simp
  · simp
theorem cap32 {n : Nat} (h : n < 1000000000) : (n + 1) * 32 ≤ 140737488355328 ∧ n ≤ 140737488355327 := by omega
theorem cap88 {n : Nat} (h : n < 1000000000) : (n + 1) * 88 ≤ 140737488355328 ∧ n ≤ 140737488355327 := by omega
theorem cap16 {n : Nat} (h : n < 1000000000) : (n + 1) * 16 ≤ 140737488355328 ∧ n ≤ 140737488355327 := by omega
theorem l101_step {a0 : List ByteArray} {t : Nat} {y : Bs} {r4 : List CodeRef} {r5 : List CodeFun} {M : Nat} (ht : t + 1 < a0.length) (hT : t < 100000000) (hg : getI a0 (t : Int) = some (mk y)) (hy : y.length < 4294967281) (hi : Inv M t (r4, r5)) :
    l101_3 a0 (t : Int) r4 r5 = l101_3 a0 ((t + 1 : Nat) : Int) (stepG refS hdS insS (r4, r5) (wordsS y)).1 (stepG refS hdS insS (r4, r5) (wordsS y)).2 := by
  have hc := hi.cnt
  simp only at hc
  have hm := wordsS_mem y
  rw [l101_3_eq, w1 (by omega), if_pos (by omega), hg, Option.bind_some, n38_p (by omega), Option.bind_some]
  generalize wordsS y = ws at hm
  by_cases h2 : ws.length = 2
  · obtain ⟨a, b, rfl⟩ := two h2
    have hb := hm b (by simp)
    have e0 : getI ([a, b].map mk) 0 = some (mk a) := rfl
    have e1 : getI ([a, b].map mk) 1 = some (mk b) := rfl
    have el : ((([a, b].map mk).length : Nat) : Int) = 2 := rfl
    have er : (mk a = ByteArray.mk #[114, 101, 102]) ↔ a = refWd := mk_inj (m := refWd)
    rw [e0, e1, el, if_pos rfl, Option.bind_some, bindB_t]
    simp only [er, stepG]
    by_cases e : a = refWd
    · rw [if_pos (by simp [e]), if_pos e, Option.bind_some]
      have h70 := n70_p (a := b) (by omega) 46
      have e46' : U8.mk (((46 : UInt8).toNat : Nat) : Int) = U8.mk 46 := rfl
      rw [e46'] at h70
      rw [h70, Option.bind_some]
      unfold refS
      cases hidx : idx 46 b with
      | none => rw [if_neg (by simp)]
      | some i =>
        have hi' := idx_lt hidx
        simp only [Option.bind_some]
        have e1 : ((i : Int)).toNat = i := by omega
        have e3 : ((i + 1 : Nat) : Int).toNat = i + 1 := by omega
        rw [w1 (by omega), e1, e3, mk_size, if_pos (by omega), if_pos (by omega), if_pos (by omega), if_pos (by omega), if_pos (by omega), if_pos (cap32 (by omega)), mk_extract, mk_extract]
        simp
    · rw [if_neg (by simp [e]), if_neg e, if_neg (by decide), bindB_t, if_neg (by decide)]
      rcases List.eq_nil_or_concat r5 with rfl | ⟨gs, g, rfl⟩
      · have ew : IntKind.i64.wrap (((([] : List CodeFun).length : Nat) : Int) - 1) = -1 := by decide
        rw [ew, if_neg (by simp)]
        rfl
      · rw [List.concat_eq_append] at hc ⊢
        simp only [List.length_append, List.length_singleton, sumC_app] at hc
        have hgc : sumC [g] = g.code.length := by simp [sumC]
        obtain ⟨u1, u2, u3, u4⟩ := updAt gs g (updC g (insS a b)) (by omega)
        have e41 : n41 ([a, b].map mk) = some (insS a b) := n41_p (by omega)
        rw [u1, u2, u3, if_pos ⟨trivial, by omega⟩, e41]
        simp only [Option.bind_some]
        rw [if_pos (cap16 (by omega))]
        have u4' : (gs ++ [g]).set ((gs.length : Int)).toNat { name := g.name, pub := g.pub, args := g.args, type := g.type, slots := g.slots, code := g.code ++ [insS a b] } = gs ++ [updC g (insS a b)] := u4
        rw [u4', addI_last]
  · have hl2 : ¬ (((ws.map mk).length : Nat) : Int) = 2 := by rw [List.length_map]; omega
    rw [if_neg hl2, bindB_t, if_neg (by decide)]
    by_cases h6 : ws.length = 6
    · obtain ⟨a, b, c, d, e, f, rfl⟩ := six h6
      have hd := hm d (by simp)
      have hf := hm f (by simp)
      have e0 : getI ([a, b, c, d, e, f].map mk) 0 = some (mk a) := rfl
      have el : ((([a, b, c, d, e, f].map mk).length : Nat) : Int) = 6 := rfl
      have er : (mk a = ByteArray.mk #[102, 117, 110]) ↔ a = funWd := mk_inj (m := funWd)
      have e138 : n138 ([a, b, c, d, e, f].map mk) = some (hdS b c d e f) := n138_p (by omega) (by omega)
      rw [e0, el, if_pos rfl, Option.bind_some, bindB_t, e138]
      simp only [er, stepG]
      by_cases e : a = funWd
      · rw [if_pos (by simp [e]), if_pos e, Option.bind_some, if_pos (cap88 (by omega))]
      · rw [if_neg (by simp [e]), if_neg e, if_neg (by simp)]
    · have hl6 : ¬ (((ws.map mk).length : Nat) : Int) = 6 := by rw [List.length_map]; omega
      rw [if_neg hl6, bindB_t, if_neg (by decide), if_neg (fun h => hl2 h.1), stepG_else h2 h6]
def foldG (R : Bs → Option CodeRef) (H : Bs → Bs → Bs → Bs → Bs → CodeFun) (I : Bs → Bs → CodeIns) (ls : List (List Bs)) (st : OSt) : OSt := ls.foldl (stepG R H I) st
theorem foldG_inv {M : Nat} {R : Bs → Option CodeRef} {H : Bs → Bs → Bs → Bs → Bs → CodeFun} {I : Bs → Bs → CodeIns}
    (hR : ∀ b r, R b = some r → r.name.size ≤ b.length ∧ r.mod.size ≤ b.length) (hH : ∀ b c d e f, (H b c d e f).name = mk b ∧ (H b c d e f).code = []) : ∀ (ls : List (List Bs)) (n : Nat) (st : OSt), Inv M n st → (∀ l ∈ ls, ∀ w ∈ l, w.length ≤ M) → Inv M (n + ls.length) (foldG R H I ls st)
  | [], n, st, h, _ => h
  | l :: ls, n, st, h, hw => by
    have := foldG_inv (I := I) hR hH ls (n + 1) _ (inv_step (I := I) h hR hH (hw l (by simp))) fun l' hl' => hw l' (by simp [hl'])
    have e : n + 1 + ls.length = n + (l :: ls).length := by simp; omega
    rw [e] at this
    exact this
theorem l101_p {a0 : List ByteArray} {xs : List Bs} {h z : Bs} {M : Nat} (ha : a0 = (h :: (xs ++ [z])).map mk) (hx : xs.length < 10000000) (hw : ∀ w ∈ xs, w.length ≤ M) (hM : M < 4294967281) : ∀ (post pre : List Bs) (r4 : List CodeRef) (r5 : List CodeFun), xs = pre ++ post → Inv M (pre.length + 1) (r4, r5) →
    l101_3 a0 ((pre.length + 1 : Nat) : Int) r4 r5 = some (CodeObj.mk (foldG refS hdS insS (post.map wordsS) (r4, r5)).1 (foldG refS hdS insS (post.map wordsS) (r4, r5)).2)
  | [], pre, r4, r5, he, hi => by
    have hp : pre = xs := by rw [he]; simp
    rw [l101_3_eq, w1 (by rw [hp]; omega), if_neg (by rw [ha, hp]; simp)]
    rfl
  | y :: ys, pre, r4, r5, he, hi => by
    have hl : pre.length < xs.length := by rw [he]; simp
    have hy := hw y (by rw [he]; simp)
    have hg : getI a0 ((pre.length + 1 : Nat) : Int) = some (mk y) := by
      rw [ha, he]
      have := getI_at ((h :: pre).map mk) ((ys ++ [z]).map mk) (mk y)
      rw [List.length_map] at this
      simpa using this
    rw [l101_step (M := M) (by rw [ha]; simp; omega) (by omega) hg (by omega) hi]
    have hi2 := inv_step (I := insS) hi refS_len (fun b c d e f => ⟨rfl, rfl⟩ : ∀ b c d e f, (hdS b c d e f).name = mk b ∧ (hdS b c d e f).code = []) (ws := wordsS y) fun w hw' => Nat.le_trans (wordsS_mem y w hw') hy
    have ih := l101_p ha hx hw hM ys (pre ++ [y]) (stepG refS hdS insS (r4, r5) (wordsS y)).1 (stepG refS hdS insS (r4, r5) (wordsS y)).2 (by rw [he]; simp) (by rw [List.length_append, List.length_singleton]; exact hi2)
    simp only [List.length_append, List.length_singleton] at ih
    rw [ih]
    rfl
theorem inv0 (M n : Nat) : Inv M n ([], []) := ⟨by simp [sumC], (fun _ h => by cases h), (fun _ h => by cases h)⟩
/-- What the spec reads of lines. -/
theorem n101_p {ws : List Bs} {z : Bs} {M : Nat} (hx : ws.length < 10000000) (hw : ∀ w ∈ ws, w.length ≤ M) (hM : M < 4294967281) :
    n101 ((ws ++ [z]).map mk) = some (CodeObj.mk (foldG refS hdS insS ((ws.drop 1).map wordsS) ([], [])).1 (foldG refS hdS insS ((ws.drop 1).map wordsS) ([], [])).2) := by
  rw [n101_eq]
  cases ws with
  | nil =>
    rw [l101_3_eq, if_neg (by rw [show IntKind.i64.wrap ((1 : Int) + 1) = 2 by decide]; simp)]
    rfl
  | cons h xs =>
    exact l101_p (h := h) (z := z) (xs := xs) (M := M) rfl (by simp at hx; omega) (fun w hw' => hw w (by simp [hw'])) hM xs [] [] [] rfl (inv0 M _)

def refW (r : CodeRef) : List Bs := [refWd, un r.mod ++ 46 :: un r.name]
def insW (i : CodeIns) : List Bs := [opL i.op, itoa i.a]
def headW (f : CodeFun) : List Bs := [funWd, un f.name, pubWd f.pub, kindsX f.args, tyL f.type, itoa f.slots]
def objLines (o : CodeObj) : List (List Bs) := o.refs.map refW ++ o.funs.flatMap fun f => headW f :: f.code.map insW
def jn : List Bs → Bs
  | [] => []
  | [w] => w
  | w :: v :: r => w ++ 32 :: jn (v :: r)
theorem op_ne {i : CodeIns} (h : insOk i = true) : opL i.op ≠ refWd ∧ opL i.op ≠ [] := by
  obtain ⟨k1, _, _⟩ := insOk_d h
  rcases opL_cases k1 with h | h | h | h | h | h | h | h | h | h <;> rw [h] <;> decide
section fold
variable {R : Bs → Option CodeRef} {H : Bs → Bs → Bs → Bs → Bs → CodeFun} {I : Bs → Bs → CodeIns}
theorem fold_refs (hR : ∀ r, refOk r = true → R (un r.mod ++ 46 :: un r.name) = some r) : ∀ (rs : List CodeRef) (r4 : List CodeRef) (r5 : List CodeFun), rs.all refOk = true → foldG R H I (rs.map refW) (r4, r5) = (r4 ++ rs, r5)
  | [], r4, r5, _ => by simp [foldG]
  | r :: rs, r4, r5, h => by
    rw [List.all_cons, Bool.and_eq_true] at h
    have e : stepG R H I (r4, r5) (refW r) = (r4 ++ [r], r5) := by
      unfold refW stepG
      simp only [if_true, hR r h.1]
    have ih := fold_refs hR rs (r4 ++ [r]) r5 h.2
    unfold foldG at ih ⊢
    rw [List.map_cons, List.foldl_cons, e, ih]
    simp
theorem fold_ins (hI : ∀ i, insOk i = true → I (opL i.op) (itoa i.a) = i) : ∀ (is : List CodeIns) (r4 : List CodeRef) (r5 : List CodeFun) (f : CodeFun), is.all insOk = true →
    foldG R H I (is.map insW) (r4, r5 ++ [f]) = (r4, r5 ++ [CodeFun.mk f.name f.pub f.args f.type f.slots (f.code ++ is)])
  | [], r4, r5, f, _ => by simp [foldG]
  | i :: is, r4, r5, f, h => by
    rw [List.all_cons, Bool.and_eq_true] at h
    have e : stepG R H I (r4, r5 ++ [f]) (insW i) = (r4, r5 ++ [updC f i]) := by
      unfold insW stepG
      simp only [if_neg (op_ne h.1).1, hI i h.1, addI_last]
    have ih := fold_ins hI is r4 r5 (updC f i) h.2
    unfold foldG at ih ⊢
    rw [List.map_cons, List.foldl_cons, e, ih]
    simp [updC]
theorem foldG_app (a b : List (List Bs)) (st : OSt) : foldG R H I (a ++ b) st = foldG R H I b (foldG R H I a st) := by simp [foldG]
theorem fold_funs (hH : ∀ f, headOk f = true → H (un f.name) (pubWd f.pub) (kindsX f.args) (tyL f.type) (itoa f.slots) = CodeFun.mk f.name f.pub f.args f.type f.slots []) (hI : ∀ i, insOk i = true → I (opL i.op) (itoa i.a) = i) :
    ∀ (fs : List CodeFun) (r4 : List CodeRef) (r5 : List CodeFun), fs.all funOk = true → foldG R H I (fs.flatMap fun f => headW f :: f.code.map insW) (r4, r5) = (r4, r5 ++ fs)
  | [], r4, r5, _ => by simp [foldG]
  | f :: fs, r4, r5, h => by
    rw [List.all_cons, Bool.and_eq_true] at h
    obtain ⟨k1, k2⟩ := funOk_d h.1
    have e : stepG R H I (r4, r5) (headW f) = (r4, r5 ++ [CodeFun.mk f.name f.pub f.args f.type f.slots []]) := by
      unfold headW stepG
      simp only [if_true, hH f k1]
    have e2 := fold_ins (R := R) (H := H) hI f.code r4 r5 (CodeFun.mk f.name f.pub f.args f.type f.slots []) k2
    have ih := fold_funs hH hI fs r4 (r5 ++ [f]) h.2
    rw [List.flatMap_cons, List.cons_append, ← List.singleton_append, foldG_app, foldG_app]
    have e1 : foldG R H I [headW f] (r4, r5) = (r4, r5 ++ [CodeFun.mk f.name f.pub f.args f.type f.slots []]) := e
    rw [e1, e2]
    simp only [List.nil_append]
    have e3 : CodeFun.mk f.name f.pub f.args f.type f.slots f.code = f := rfl
    rw [e3, ih]
    simp
theorem fold_obj (hR : ∀ r, refOk r = true → R (un r.mod ++ 46 :: un r.name) = some r) (hH : ∀ f, headOk f = true → H (un f.name) (pubWd f.pub) (kindsX f.args) (tyL f.type) (itoa f.slots) = CodeFun.mk f.name f.pub f.args f.type f.slots []) (hI : ∀ i, insOk i = true → I (opL i.op) (itoa i.a) = i)
    {o : CodeObj} (h : objOk o = true) : foldG R H I (objLines o) ([], []) = (o.refs, o.funs) := by
  obtain ⟨_, h3, h4, _⟩ := objOk_d h
  unfold objLines
  rw [foldG_app, fold_refs hR o.refs [] [] h3, fold_funs hH hI o.funs _ _ h4]
  simp
end fold
/-- Words that may be written. -/
def gd (w : Bs) : Prop := w ≠ [] ∧ (32 : UInt8) ∉ w ∧ (10 : UInt8) ∉ w
theorem split_jn : ∀ {ws : List Bs}, ws ≠ [] → (∀ w ∈ ws, gd w) → splitG 32 [] (jn ws) = ws
  | [], h, _ => absurd rfl h
  | [w], _, h => by
    show splitG 32 [] w = [w]
    rw [splitG_one [] (h w (by simp)).2.1]; rfl
  | w :: v :: r, _, h => by
    show splitG 32 [] (w ++ 32 :: jn (v :: r)) = _
    rw [splitG_cons [] _ (h w (by simp)).2.1, split_jn (by simp) fun x hx => h x (by simp [hx])]
    rfl
theorem words_jn {ws : List Bs} (h0 : ws ≠ []) (h : ∀ w ∈ ws, gd w) : wordsS (jn ws) = ws := by
  unfold wordsS
  rw [split_jn h0 h, List.filter_eq_self]
  intro w hw
  simp [(h w hw).1]
theorem jn_no {ws : List Bs} (h : ∀ w ∈ ws, gd w) : (10 : UInt8) ∉ jn ws := by
  match ws with
  | [] => simp [jn]
  | [w] => exact (h w (by simp)).2.2
  | w :: v :: r =>
    show (10 : UInt8) ∉ w ++ 32 :: jn (v :: r)
    simp only [List.mem_append, List.mem_cons, not_or]
    exact ⟨(h w (by simp)).2.2, by decide, jn_no fun x hx => h x (by simp only [List.mem_cons] at hx ⊢; exact .inr hx)⟩
theorem itoa_gd (n : Int) : gd (itoa n) := by
  refine ⟨?_, ?_, ?_⟩
  · unfold itoa
    split
    · simp
    · exact dd_ne _
  · intro h
    rcases itoa_mem _ h with h | h
    · simp at h
    · simp at h
  · intro h
    rcases itoa_mem _ h with h | h
    · simp at h
    · simp at h
theorem kindsX_gd {ns : List Int} : gd (kindsX ns) := by
  unfold kindsX
  split
  · exact ⟨by simp, by decide, by decide⟩
  · next h => exact ⟨h, kindsL_no (by decide) (by decide) _, kindsL_no (by decide) (by decide) _⟩
theorem low_gd {w : Bs} (h0 : w ≠ []) (h : ∀ c ∈ w, isLow c = true) : gd w := by
  refine ⟨h0, fun hm => ?_, fun hm => ?_⟩
  · have := h _ hm; exact absurd this (by decide)
  · have := h _ hm; exact absurd this (by decide)
theorem name_gd {a : ByteArray} (h : lexName a = true ∨ a = mainW) : gd (un a) := by
  obtain ⟨h1, h2⟩ := name_d h
  exact low_gd (fun e => by rw [e] at h1; simp at h1) h2
theorem objLines_gd {o : CodeObj} (h : objOk o = true) : ∀ ws ∈ objLines o, ws ≠ [] ∧ ∀ w ∈ ws, gd w := by
  obtain ⟨_, h3, h4, _⟩ := objOk_d h
  intro ws hws
  unfold objLines at hws
  simp only [List.mem_append, List.mem_map, List.mem_flatMap, List.mem_cons] at hws
  rcases hws with ⟨r, hr, rfl⟩ | ⟨f, hf, rfl | ⟨i, hi, rfl⟩⟩
  · have hr := List.all_eq_true.1 h3 r hr
    refine ⟨by simp [refW], fun w hw => ?_⟩
    simp only [refW, List.mem_cons, List.not_mem_nil, or_false] at hw
    rcases hw with rfl | rfl
    · exact ⟨by decide, by decide, by decide⟩
    · have hn := name_gd (.inl (refOk_d hr).1)
      refine ⟨by simp, ?_, ?_⟩
      · simp only [List.mem_append, List.mem_cons, not_or]
        exact ⟨mod_no hr (by decide), by decide, hn.2.1⟩
      · simp only [List.mem_append, List.mem_cons, not_or]
        exact ⟨mod_no hr (by decide), by decide, hn.2.2⟩
  · obtain ⟨k1, k2⟩ := funOk_d (List.all_eq_true.1 h4 f hf)
    obtain ⟨q1, q2, q3, q4, q5, q6⟩ := headOk_d k1
    refine ⟨by simp [headW], fun w hw => ?_⟩
    simp only [headW, List.mem_cons, List.not_mem_nil, or_false] at hw
    rcases hw with rfl | rfl | rfl | rfl | rfl | rfl
    · exact ⟨by decide, by decide, by decide⟩
    · exact name_gd q1
    · cases f.pub <;> exact ⟨by decide, by decide, by decide⟩
    · exact kindsX_gd
    · refine low_gd (fun e => ?_) fun c hc => List.all_eq_true.1 (tyL_low _) c hc
      rw [tyL_nil, q4] at e; cases e
    · exact itoa_gd _
  · obtain ⟨k1, k2⟩ := funOk_d (List.all_eq_true.1 h4 f hf)
    have k3 := List.all_eq_true.1 k2 i hi
    refine ⟨by simp [insW], fun w hw => ?_⟩
    simp only [insW, List.mem_cons, List.not_mem_nil, or_false] at hw
    rcases hw with rfl | rfl
    · exact low_gd (op_ne k3).2 fun c hc => List.all_eq_true.1 (opL_low _) c hc
    · exact itoa_gd _
theorem objL_lines (o : CodeObj) : objL o = (([objWd] :: objLines o).map jn).flatMap (· ++ [10]) := by
  have e1 : ∀ rs : List CodeRef, rs.flatMap refL = ((rs.map refW).map jn).flatMap (· ++ [10]) := fun rs => by
    rw [List.map_map, List.flatMap_map]
    rfl
  have e3 : ∀ is : List CodeIns, is.flatMap insL = ((is.map insW).map jn).flatMap (· ++ [10]) := fun is => by
    rw [List.map_map, List.flatMap_map]
    rfl
  have e2 : ∀ fs : List CodeFun, fs.flatMap funL = ((fs.flatMap fun f => headW f :: f.code.map insW).map jn).flatMap (· ++ [10]) := fun fs => by
    induction fs with
    | nil => rfl
    | cons f fs ih =>
      rw [List.flatMap_cons, List.flatMap_cons, List.map_append, List.flatMap_append, ← ih]
      congr 1
      unfold funL
      rw [e3, List.map_cons, List.flatMap_cons]
      rfl
  unfold objL objLines
  rw [e1, e2]
  simp only [List.map_cons, List.map_append, List.flatMap_cons, List.flatMap_append, List.append_assoc]
  rfl
theorem split_obj {o : CodeObj} (h : objOk o = true) : splitG 10 [] (objL o) = ([objWd] :: objLines o).map jn ++ [[]] := by
  rw [objL_lines, splitG_ends]
  intro w hw
  obtain ⟨ws, h1, rfl⟩ := List.mem_map.1 hw
  rcases List.mem_cons.1 h1 with rfl | h1
  · exact (by decide : (10 : UInt8) ∉ objWd)
  · exact jn_no (objLines_gd h ws h1).2
/-- A text that tells code. -/
def ObjText (a : ByteArray) : Prop := ∃ o, objOk o = true ∧ a = mk (objL o)
theorem ObjText.size {a : ByteArray} (h : ObjText a) : a.size ≤ 20000 := by
  obtain ⟨o, h1, rfl⟩ := h
  have := objL_len h1
  rw [mk_size]; omega
end Go.Fs.Se
namespace Go.Fs.Se
open Go.Fs Go.Fs.Pl
open Go.Lib (decDigits itoa)
theorem map_words {o : CodeObj} (h : objOk o = true) : ((objLines o).map jn).map wordsS = objLines o := by
  rw [List.map_map]
  conv => rhs; rw [← List.map_id (objLines o)]
  exact List.map_congr_left fun ws hws => words_jn (objLines_gd h ws hws).1 (objLines_gd h ws hws).2
theorem map_split {o : CodeObj} (h : objOk o = true) : ((objLines o).map jn).map (splitG 32 []) = objLines o := by
  rw [List.map_map]
  conv => rhs; rw [← List.map_id (objLines o)]
  exact List.map_congr_left fun ws hws => split_jn (objLines_gd h ws hws).1 (objLines_gd h ws hws).2
theorem n56_p (a : ByteArray) : ∃ r, n56 a = some r ∧ (r.2 = true ↔ ObjText a) := by
  rw [n56_eq]
  by_cases h : (30000 : Int) < (a.size : Int)
  · rw [if_pos h]
    exact ⟨_, rfl, by simp; intro hf; have := hf.size; omega⟩
  · rw [if_neg h]
    have hl := un_len a
    have h37 := n37_p (a := un a) (by omega) 10
    have e : U8.mk (((10 : UInt8).toNat : Nat) : Int) = U8.mk 10 := rfl
    rw [e, mk_un] at h37
    rw [h37]
    simp only [Option.bind_some]
    obtain ⟨ws, z, hs⟩ := split_last 10 (un a)
    have hs1 := splitG_len 10 (un a) []
    have hs2 := splitG_mem 10 (un a) []
    rw [hs] at hs1 hs2 ⊢
    simp only [List.length_append, List.length_singleton] at hs1
    have := n101_p (ws := ws) (z := z) (M := 30000) (by omega) (fun w hw => by have := hs2 w (by simp [hw]); simp at this; omega) (by omega)
    rw [this]
    simp only [Option.bind_some]
    rw [n102_p, n103_p]
    have key : ∀ o, objOk o = true → a = mk (objL o) → CodeObj.mk (foldG refS hdS insS ((ws.drop 1).map wordsS) ([], [])).1 (foldG refS hdS insS ((ws.drop 1).map wordsS) ([], [])).2 = o := by
      intro o h1 h2
      have h4 := split_obj h1
      rw [h2, un_mk, h4] at hs
      have hw : ws = ([objWd] :: objLines o).map jn := (List.append_inj' hs rfl).1.symm
      rw [hw, List.map_cons, List.drop_one, List.tail_cons, map_words h1, fold_obj (fun r h => refS_r h) (fun f h => hdS_f h) (fun i h => insS_op h) h1]
    generalize CodeObj.mk (foldG refS hdS insS ((ws.drop 1).map wordsS) ([], [])).1 (foldG refS hdS insS ((ws.drop 1).map wordsS) ([], [])).2 = p at key
    simp only [Option.bind_some]
    cases ho : objOk p with
    | false =>
      refine ⟨_, rfl, ?_⟩
      simp only [Bool.false_eq_true, false_iff]
      rintro ⟨o, h1, h2⟩
      rw [key o h1 h2, h1] at ho; cases ho
    | true =>
      simp only [if_neg (show ¬ (true = false) by decide), if_true, Option.bind_some, bindB_t]
      by_cases he : mk (objL p) = a
      · refine ⟨(p, true), by simp [he], by simp; exact ⟨_, ho, he.symm⟩⟩
      · refine ⟨(CodeObj.mk [] [], false), by simp [he], ?_⟩
        simp only [Bool.false_eq_true, false_iff]
        rintro ⟨o, h1, h2⟩
        rw [key o h1 h2] at he
        exact he h2.symm

theorem cap24 {n : Nat} (h : n < 1000000000) : (n + 1) * 24 ≤ 140737488355328 ∧ n ≤ 140737488355327 := by omega
def spW (l : Bs) : List ByteArray := (splitG 32 [] l).map mk
theorem l45_p {a : ByteArray} {xs : List Bs} (hx : xs.length < 1000000000) (hw : ∀ w ∈ xs, w.length < 4294967281) : ∀ (post pre : List Bs) (r0 : List (List ByteArray)) (fl : Bool), xs = pre ++ post → r0.length ≤ pre.length →
    l45_3 a (xs.map mk) (xs.length : Int) (pre.length : Int) r0 fl = some (r0 ++ post.map spW)
  | [], pre, r0, fl, h, hr => by
    rw [l45_3_eq, if_neg (by rw [h]; simp)]; simp
  | y :: ys, pre, r0, fl, h, hr => by
    have hl : pre.length < xs.length := by rw [h]; simp
    have hg : getI (xs.map mk) (pre.length : Int) = some (mk y) := by
      rw [h]
      have := getI_at (pre.map mk) (ys.map mk) (mk y)
      rw [List.length_map] at this
      simpa using this
    have ih := l45_p (a := a) hx hw ys (pre ++ [y]) (r0 ++ [spW y]) false (by rw [h]; simp) (by simp; omega)
    simp only [List.length_append, List.length_singleton] at ih
    rw [l45_3_eq, if_pos (by omega), hg, w1 (by omega), Option.bind_some, e32, lSplit_mk 32 (hw y (by rw [h]; simp)), Option.bind_some, if_pos (cap24 (by omega))]
    have e : (splitG 32 [] y).map mk = spW y := rfl
    rw [e, ih]
    simp
theorem l66_step {a0 : ByteArray} {tb : List (List ByteArray)} {t : Nat} {y : Bs} {r4 : List CodeRef} {r5 : List CodeFun} {M : Nat} (ht : t < tb.length) (hT : t < 100000000) (hg : getI tb (t : Int) = some (spW y)) (hy : y.length < 4294967281) (hi : Inv M t (r4, r5)) :
    l66_5 a0 tb (tb.length : Int) (t : Int) r4 r5 = l66_5 a0 tb (tb.length : Int) ((t + 1 : Nat) : Int) (stepG refI hdI insI (r4, r5) (splitG 32 [] y)).1 (stepG refI hdI insI (r4, r5) (splitG 32 [] y)).2 := by
  have hc := hi.cnt
  simp only at hc
  have hm := splitG_mem 32 y []
  have hne := splitG_ne 32 y []
  rw [l66_5_eq, w1 (by omega), if_pos (by omega), hg, Option.bind_some]
  unfold spW
  generalize splitG 32 [] y = ws at hm hne
  by_cases h2 : ws.length = 2
  · obtain ⟨a, b, rfl⟩ := two h2
    have hb := hm b (by simp)
    simp only [List.length_nil, Nat.zero_add] at hb
    have e0 : getI ([a, b].map mk) 0 = some (mk a) := rfl
    have e1 : getI ([a, b].map mk) 1 = some (mk b) := rfl
    have el : ((([a, b].map mk).length : Nat) : Int) = 2 := rfl
    have er : (mk a = ByteArray.mk #[114, 101, 102]) ↔ a = refWd := mk_inj (m := refWd)
    rw [e0, e1, el, Option.bind_some]
    simp only [er, stepG]
    by_cases e : a = refWd
    · rw [if_pos ⟨e, trivial⟩, if_pos e, Option.bind_some, e46, lCut_q 46 (by omega), Option.bind_some, if_pos (cap32 (by omega))]
      rfl
    · rw [if_neg (fun h => e h.1), if_neg e, Option.bind_some, if_neg (by simp)]
      rcases List.eq_nil_or_concat r5 with rfl | ⟨gs, g, rfl⟩
      · rw [if_neg (by simp)]
        rfl
      · rw [List.concat_eq_append] at hc ⊢
        simp only [List.length_append, List.length_singleton, sumC_app] at hc
        have hgc : sumC [g] = g.code.length := by simp [sumC]
        obtain ⟨u1, u2, u3, u4⟩ := updAt gs g (updC g (insI a b)) (by omega)
        have e49 : n49 ([a, b].map mk) = some (insI a b) := n49_p (by omega)
        rw [u1, u2, u3, if_pos ⟨trivial, by simp⟩, e49]
        simp only [Option.bind_some]
        rw [if_pos (cap16 (by omega))]
        have u4' : (gs ++ [g]).set ((gs.length : Int)).toNat { name := g.name, pub := g.pub, args := g.args, type := g.type, slots := g.slots, code := g.code ++ [insI a b] } = gs ++ [updC g (insI a b)] := u4
        rw [u4', addI_last]
  · have hl2 : ¬ (((ws.map mk).length : Nat) : Int) = 2 := by rw [List.length_map]; omega
    obtain ⟨w0, hw0⟩ : ∃ w0, getI (ws.map mk) 0 = some (mk w0) := by
      cases ws with
      | nil => exact absurd rfl hne
      | cons w r => exact ⟨w, rfl⟩
    by_cases h6 : ws.length = 6
    · obtain ⟨a, b, c, d, e, f, rfl⟩ := six h6
      have hd := hm d (by simp)
      have hf := hm f (by simp)
      simp only [List.length_nil, Nat.zero_add] at hd hf
      have e0 : getI ([a, b, c, d, e, f].map mk) 0 = some (mk a) := rfl
      have e1 : getI ([a, b, c, d, e, f].map mk) 1 = some (mk b) := rfl
      have e2 : getI ([a, b, c, d, e, f].map mk) 2 = some (mk c) := rfl
      have el : ((([a, b, c, d, e, f].map mk).length : Nat) : Int) = 6 := rfl
      have el2 : ([a, b, c, d, e, f].map mk).length = 6 := rfl
      have er : (mk a = ByteArray.mk #[102, 117, 110]) ↔ a = funWd := mk_inj (m := funWd)
      have e48 : n48 (List.take (6 - 3) (List.drop 3 ([a, b, c, d, e, f].map mk))) = some (T3.mk (kindsD d) (kindI e) (numI f).1) := n48_p (by omega) (by omega)
      have ep : (mk c = ByteArray.mk #[112, 117, 98]) ↔ c = [112, 117, 98] := mk_inj
      rw [e0, e1, e2, el, el2, e48, Option.bind_some, if_neg (by simp), Option.bind_some]
      simp only [er, ep, stepG]
      by_cases e : a = funWd
      · rw [if_pos ⟨e, trivial⟩, if_pos e, Option.bind_some, Option.bind_some, if_pos (by decide), Option.bind_some, if_pos (cap88 (by omega))]
        have epd : decide (mk c = ByteArray.mk #[112, 117, 98]) = decide (c = [112, 117, 98]) := by simp only [ep]
        rw [epd]
        rfl
      · rw [if_neg (fun h => e h.1), if_neg e, if_neg (by simp)]
    · have hl6 : ¬ (((ws.map mk).length : Nat) : Int) = 6 := by rw [List.length_map]; omega
      rw [hw0, Option.bind_some, if_neg (fun h => hl2 h.2), Option.bind_some, if_neg (fun h => hl6 h.2), if_neg (fun h => hl2 h.1), stepG_else h2 h6]
theorem l66_p {a0 : ByteArray} {xs : List Bs} {M : Nat} (hx : xs.length < 10000000) (hw : ∀ w ∈ xs, w.length ≤ M) (hM : M < 4294967281) : ∀ (post pre : List Bs) (r4 : List CodeRef) (r5 : List CodeFun), xs = pre ++ post → Inv M pre.length (r4, r5) →
    l66_5 a0 (xs.map spW) ((xs.map spW).length : Int) (pre.length : Int) r4 r5 = l66_5 a0 (xs.map spW) ((xs.map spW).length : Int) (xs.length : Int) (foldG refI hdI insI (post.map (splitG 32 [])) (r4, r5)).1 (foldG refI hdI insI (post.map (splitG 32 [])) (r4, r5)).2
  | [], pre, r4, r5, he, hi => by
    have hp : pre = xs := by rw [he]; simp
    rw [hp]; rfl
  | y :: ys, pre, r4, r5, he, hi => by
    have hl : pre.length < xs.length := by rw [he]; simp
    have hy := hw y (by rw [he]; simp)
    have hg : getI (xs.map spW) ((pre.length : Nat) : Int) = some (spW y) := by
      rw [he]
      have := getI_at (pre.map spW) (ys.map spW) (spW y)
      rw [List.length_map] at this
      simpa using this
    rw [l66_step (M := M) (by rw [List.length_map]; omega) (by omega) hg (by omega) hi]
    have hi2 := inv_step (I := insI) hi refI_len (fun b c d e f => ⟨rfl, rfl⟩ : ∀ b c d e f, (hdI b c d e f).name = mk b ∧ (hdI b c d e f).code = []) (ws := splitG 32 [] y) fun w hw' => by
      have := splitG_mem 32 y [] w hw'
      simp at this; omega
    have ih := l66_p (a0 := a0) hx hw hM ys (pre ++ [y]) (stepG refI hdI insI (r4, r5) (splitG 32 [] y)).1 (stepG refI hdI insI (r4, r5) (splitG 32 [] y)).2 (by rw [he]; simp) (by rw [List.length_append, List.length_singleton]; exact hi2)
    simp only [List.length_append, List.length_singleton] at ih
    rw [ih]
    rfl
/-- A text without its last line's end. -/
def trimN (a : Bs) : Bs := if a.getLast? = some 10 then a.dropLast else a
theorem trimN_len (a : Bs) : (trimN a).length ≤ a.length := by
  unfold trimN
  split
  · rw [List.length_dropLast]; omega
  · omega
theorem split_trim {ls : List Bs} (h0 : ls ≠ []) (h : ∀ w ∈ ls, (10 : UInt8) ∉ w) : splitG 10 [] (trimN (ls.flatMap (· ++ [10]))) = ls := by
  have hlast : (ls.flatMap (· ++ [10])).getLast? = some 10 := by
    rcases List.eq_nil_or_concat ls with e | ⟨l, g, e⟩
    · exact absurd e h0
    · rw [e, List.concat_eq_append]
      simp [List.flatMap_append]
  have hsp := splitG_ends h
  unfold trimN
  rw [if_pos hlast]
  obtain ⟨ys, hys⟩ := List.getLast?_eq_some_iff.1 hlast
  rw [hys] at hsp ⊢
  rw [List.dropLast_concat]
  have : ∀ (l cur : Bs), splitG 10 cur (l ++ [10]) = splitG 10 cur l ++ [[]] := by
    intro l
    induction l with
    | nil => intro cur; simp [splitG]
    | cons y l ih => intro cur; simp only [List.cons_append, splitG]; split <;> simp [ih]
  rw [this] at hsp
  exact (List.append_inj' hsp rfl).1
theorem n66_p (a : ByteArray) : ∃ r, n66 a = some r ∧ (r.2 = true ↔ ObjText a) := by
  rw [n66_eq]
  by_cases h : (30000 : Int) < (a.size : Int)
  · rw [if_pos h]
    exact ⟨_, rfl, by simp; intro hf; have := hf.size; omega⟩
  · rw [if_neg h, n45_eq, e10]
    have hl := un_len a
    have h80 := n80_p (a := un a) (by omega) 10
    rw [mk_un] at h80
    have ht : (if (un a).getLast? = some 10 then (un a).dropLast else un a) = trimN (un a) := rfl
    rw [h80, ht]
    simp only [Option.bind_some]
    have hb := trimN_len (un a)
    rw [lSplit_mk 10 (by omega)]
    simp only [Option.bind_some]
    have hs1 := splitG_len 10 (trimN (un a)) []
    have hs2 := splitG_mem 10 (trimN (un a)) []
    generalize hxs : splitG 10 [] (trimN (un a)) = xs at hs1 hs2
    have hw : ∀ w ∈ xs, w.length ≤ 30000 := fun w hw => by have := hs2 w hw; simp at this; omega
    have h45 := l45_p (a := a) (xs := xs) (by omega) (fun w hw' => by have := hw w hw'; omega) xs [] [] true rfl (by simp)
    have e0 : (([] : List Bs).length : Int) = 0 := rfl
    rw [e0, List.nil_append] at h45
    rw [List.length_map, h45]
    simp only [Option.bind_some]
    have h66 := l66_p (a0 := a) (xs := xs) (M := 30000) (by omega) hw (by omega) xs [] [] [] rfl (inv0 _ _)
    rw [e0] at h66
    have hinv := foldG_inv (I := insI) refI_len (fun b c d e f => ⟨rfl, rfl⟩ : ∀ b c d e f, (hdI b c d e f).name = mk b ∧ (hdI b c d e f).code = []) (xs.map (splitG 32 [])) 0 ([], []) (inv0 30000 0) (fun l hl w hw' => by
      obtain ⟨y, hy, rfl⟩ := List.mem_map.1 hl
      have h1 := splitG_mem 32 y [] w hw'
      have h2 := hw y hy
      simp at h1; omega)
    have key : ∀ o, objOk o = true → a = mk (objL o) → CodeObj.mk (foldG refI hdI insI (xs.map (splitG 32 [])) ([], [])).1 (foldG refI hdI insI (xs.map (splitG 32 [])) ([], [])).2 = o := by
      intro o h1 h2
      have hw : xs = ([objWd] :: objLines o).map jn := by
        rw [← hxs, h2, un_mk, objL_lines, split_trim (by simp)]
        intro w hw
        obtain ⟨ws, h3, rfl⟩ := List.mem_map.1 hw
        rcases List.mem_cons.1 h3 with rfl | h3
        · exact (by decide : (10 : UInt8) ∉ objWd)
        · exact jn_no (objLines_gd h1 ws h3).2
      have hf : foldG refI hdI insI (splitG 32 [] (jn [objWd]) :: objLines o) ([], []) = foldG refI hdI insI (objLines o) ([], []) := by
        have e1 : splitG 32 [] (jn [objWd]) = [objWd] := splitG_one (c := 32) (w := objWd) [] (by decide)
        rw [e1]
        rfl
      rw [hw, List.map_cons, List.map_cons, map_split h1, hf, fold_obj (fun r h => refI_r h) (fun f h => hdI_f h) (fun i h => insI_op h) h1]
    rw [h66, l66_5_eq, if_neg (by rw [List.length_map]; omega)]
    generalize foldG refI hdI insI (xs.map (splitG 32 [])) ([], []) = st at key hinv
    obtain ⟨rs, fs⟩ := st
    have hcnt := hinv.cnt
    simp only [List.length_map, Nat.zero_add] at hcnt
    have hlen : xs.length ≤ 30001 := by omega
    simp only at key ⊢
    have h109 := n109_p (o := CodeObj.mk rs fs) (by simp only; omega) (by simp only; omega) (by simp only; omega) (fun f hf => by have := hinv.fn f hf; omega) (fun r hr => by have := hinv.ref r hr; omega)
    rw [h109]
    by_cases hz : a = ByteArray.mk #[]
    · rw [if_pos hz, bindB_t, if_pos rfl]
      refine ⟨_, rfl, ?_⟩
      simp only [Bool.false_eq_true, false_iff]
      rintro ⟨o, h1, h2⟩
      rw [hz] at h2
      have : objL o = [] := mk_inj.1 h2.symm
      simp [objL, objWd] at this
    · rw [if_neg hz]
      simp only [Option.bind_some, bindB_t]
      cases ho : objOk (CodeObj.mk rs fs) with
      | false =>
        have hz' : ¬ mk [] = a := fun e => hz e.symm
        refine ⟨(CodeObj.mk [] [], false), by simp [hz'], ?_⟩
        simp only [Bool.false_eq_true, false_iff]
        rintro ⟨o, h1, h2⟩
        rw [key o h1 h2, h1] at ho; cases ho
      | true =>
        simp only [if_true]
        by_cases he : mk (objL (CodeObj.mk rs fs)) = a
        · refine ⟨(CodeObj.mk rs fs, true), by simp [he], by simp; exact ⟨_, ho, he.symm⟩⟩
        · refine ⟨(CodeObj.mk [] [], false), by simp [he], ?_⟩
          simp only [Bool.false_eq_true, false_iff]
          rintro ⟨o, h1, h2⟩
          rw [key o h1 h2] at he
          exact he h2.symm
end Go.Fs.Se
