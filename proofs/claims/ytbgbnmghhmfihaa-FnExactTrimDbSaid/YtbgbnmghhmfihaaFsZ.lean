/- A part of the proof: an evaluator of the program's code over plain data, proved sound, or a function's walk by it. No conditions beyond those in the theorems. -/
import Derived.Test.YtbgbnmghhmfihaaFsW
set_option linter.unusedVariables false
namespace Go.Fs

theorem OkO_some {α : Type} (a : α) (K : α → Prop) : OkO (some a) K = K a := rfl
theorem OkO_none {α : Type} (K : α → Prop) : OkO (none : Option α) K = False := rfl
theorem OkO_ite {α : Type} (c : Prop) [Decidable c] (x : Option α) (K : α → Prop) : OkO (if c then x else none) K = (c ∧ OkO x K) := by
  by_cases h : c
  · rw [if_pos h]; simp [h]
  · rw [if_neg h]; simp [h, OkO]
theorem OkO_bind {α β : Type} (o : Option α) (f : α → Option β) (K : β → Prop) : OkO (o.bind f) K = OkO o (thenF f K) := by cases o <;> rfl
theorem OkO_map {α β : Type} (o : Option α) (f : α → β) (K : β → Prop) : OkO (o.map f) K = OkO o (compK f K) := by cases o <;> rfl
theorem splitB_true (X Y : Prop) : splitB true X Y = X := rfl
theorem splitB_false (X Y : Prop) : splitB false X Y = Y := rfl
theorem upd_at {α : Type} (f : Nat → α) (k : Nat) (x : α) (i : Nat) : upd f k x i = if i = k then x else f i := rfl
theorem awp_skip (A : Env) (Q : Exit → St → Prop) (s : St) : awp A .skip Q s = Q .normal s := by simp only [awp]
theorem awp_region (A : Env) (id : Nat) (ops : Array Oper) (Q : Exit → St → Prop) (s : St) : awp A (.region id ops false) Q s = awpOps A ops.toList (Q .normal) ops.toList s := by simp only [awp]
theorem awp_seq (A : Env) (x y : Code) (Q : Exit → St → Prop) (s : St) : awp A (.seq x y) Q s = awp A x (thenS (awp A y Q) Q) s := by simp only [awp]
theorem awp_cond (A : Env) (t : Nat) (x y : Code) (Q : Exit → St → Prop) (s : St) : awp A (.cond (.tmp t) x y) Q s = match s.env t with
    | .d (.b v) => splitB v (awp A x Q (litS s (.tmp t) true)) (awp A y Q (litS s (.tmp t) false))
    | _ => False := by simp only [awp, St.ev]; rfl
theorem awp_block (A : Env) (id : Nat) (b : Code) (Q : Exit → St → Prop) (s : St) : awp A (.block id b) Q s = awp A b (blkS id Q) s := by simp only [awp]
theorem awp_exit (A : Env) (id : Nat) (Q : Exit → St → Prop) (s : St) : awp A (.exit id) Q s = Q (.exit id) s := by simp only [awp]
theorem awp_ret (A : Env) (Q : Exit → St → Prop) (s : St) : awp A .ret Q s = Q .ret s := by simp only [awp]

theorem thenS_normal (K : St → Prop) (Q : Exit → St → Prop) (s : St) : thenS K Q .normal s = K s := rfl
theorem thenS_exit (K : St → Prop) (Q : Exit → St → Prop) (i : Nat) (s : St) : thenS K Q (.exit i) s = Q (.exit i) s := rfl
theorem thenS_ret (K : St → Prop) (Q : Exit → St → Prop) (s : St) : thenS K Q .ret s = Q .ret s := rfl
theorem blkS_normal (id : Nat) (Q : Exit → St → Prop) (s : St) : blkS id Q .normal s = Q .normal s := rfl
theorem blkS_exit (id : Nat) (Q : Exit → St → Prop) (i : Nat) (s : St) : blkS id Q (.exit i) s = if i = id then Q .normal s else Q (.exit i) s := rfl
theorem blkS_ret (id : Nat) (Q : Exit → St → Prop) (s : St) : blkS id Q .ret s = Q .ret s := rfl
theorem EndA_normal (T : Tab) (aa : AV) (rs : List ResultVar) (out : Ret) (s : St) : EndA T aa rs out .normal s = (outR T s aa rs = some out) := rfl
theorem EndA_ret (T : Tab) (aa : AV) (rs : List ResultVar) (out : Ret) (s : St) : EndA T aa rs out .ret s = (outR T s aa rs = some out) := rfl
def insL : Nat → List In → Nat → AV
  | _, [] => fun _ => .x
  | i, x :: xs => upd (insL (i + 1) xs) i (inAV x)
theorem insL_at : ∀ (ins : List In) (i t : Nat), insL i ins t = if i ≤ t then (ins.map inAV).getD (t - i) .x else .x
  | [], i, t => by simp [insL]
  | x :: xs, i, t => by
    rw [insL, upd]
    by_cases h : t = i
    · subst h; simp
    · rw [if_neg h, insL_at xs (i + 1) t]
      by_cases h2 : i ≤ t
      · have : t - i = t - (i + 1) + 1 := by omega
        rw [if_pos (by omega), if_pos h2, this]
        simp
      · rw [if_neg (by omega), if_neg h2]
theorem inSt_eq (n : Nat) (ins : List In) : inSt n ins = ⟨n, insL 0 ins, inHeap ins⟩ := by
  unfold inSt
  congr 1
  funext t
  rw [insL_at]
  simp
theorem constAV_i (k : IntKind) (n : Int) : constAV (.int k n) = .d (.i k n) := rfl
theorem constAV_b (b : Bool) : constAV (.bool b) = .d (.b b) := rfl
theorem constAV_z : constAV (.slice none 0 0) = .z 0 := rfl
theorem constAV_n : constAV (.pointer none) = .d .n := rfl
theorem constAV_s (b : ByteArray) : constAV (.string b) = .d (.s b) := rfl

/-! ### loops -/
def stL (n : Nat) (L : List (Nat × AV)) (K : List (Nat × Option Ob)) : St := ⟨n, envL L, obL K⟩
def obM (ren : List (Nat × Nat)) : Option Ob → Option Ob
  | some o => some (mapOb ren o)
  | none => none
theorem wkS_stL (live : List Nat) (ren : List (Nat × Nat)) (s : St) : wkS live ren s = stL s.n (live.map fun t => (t, mapA ren (s.env t))) (ren.map fun x => (x.2, obM ren (s.heap x.1))) := by
  rfl
/-- Keys, in the order in which they are met. -/
def keysC : AV → List Nat
  | .r k => [k]
  | .a k _ => [k]
  | .e k _ _ => [k]
  | .m k _ _ _ => [k]
  | .mp k => [k]
  | _ => []
def keysA : AV → List Nat
  | .g cs => cs.flatMap keysC
  | .f _ caps => caps.flatMap keysC
  | .t vs => vs.flatMap keysC
  | av => keysC av
def keysO : Option Ob → List Nat
  | some (.box cs) => cs.flatMap keysC
  | _ => []
def canonGo : List Nat → Nat → List (Nat × Nat) → List (Nat × Nat)
  | [], _, ren => ren
  | k :: ks, n, ren => if ren.any (fun x => x.1 == k) then canonGo ks n ren else if 900000 ≤ k then canonGo ks n (ren ++ [(k, k)]) else canonGo ks (n + 1) (ren ++ [(k, 500000 + n)])
def canon2 (H : Nat → Option Ob) (ks : List Nat) : List (Nat × Nat) := canonGo (ks ++ ks.flatMap fun k => keysO (H k)) 0 []
def canon (aa : AV) (live : List Nat) (s : St) : List (Nat × Nat) := canon2 s.heap (keysA aa ++ live.flatMap fun t => keysA (s.env t))
/-- Behind a round: the state, known by what lives, is one of these. -/
def Back {X : Type} (aa : AV) (live : List Nat) (mk : X → St) (R : X → Prop) (s : St) : Prop :=
  (renOK (canon aa live s) = true ∧ fixAA (canon aa live s) aa = true) ∧ ∃ x, wkS live (canon aa live s) s = mk x ∧ R x
theorem loopW {X : Type} {A : Env} {b : Code} {Q : Exit → St → Prop} {s : St} (live : List Nat) (mk : X → St) (Inv : X → Prop) (μ : X → Nat) (h0 : Back A.aa live mk Inv s)
    (hs : ∀ x, Inv x → awp A b (thenS (Back A.aa live mk fun x' => Inv x' ∧ μ x' < μ x) Q) (mk x)) : awp A (.loop b) Q s := by
  simp only [awp]
  refine ⟨fun n s => ∃ x, s = mk x ∧ Inv x ∧ μ x = n, ?_, ?_⟩
  · obtain ⟨⟨h1, h2⟩, x, h3, h4⟩ := h0
    exact ⟨μ x, live, _, h1, h2, x, h3, h4, rfl⟩
  · rintro n _ ⟨x, rfl, hx, rfl⟩
    have hm : ∀ (c : Code) {Q1 Q2 : Exit → St → Prop}, (∀ e s, Q1 e s → Q2 e s) → ∀ s, awp A c Q1 s → awp A c Q2 s := awp_mono
    refine hm b (fun e s h => ?_) _ (hs x hx)
    cases e with
    | normal =>
      obtain ⟨⟨h1, h2⟩, x', h3, h4, h5⟩ := h
      exact ⟨μ x', h5, live, _, h1, h2, x', h3, h4, rfl⟩
    | _ => exact h

theorem stL_n (n : Nat) (L : List (Nat × AV)) (K : List (Nat × Option Ob)) : (stL n L K).n = n := rfl
theorem stL_env (n : Nat) (L : List (Nat × AV)) (K : List (Nat × Option Ob)) : (stL n L K).env = envL L := rfl
theorem stL_heap (n : Nat) (L : List (Nat × AV)) (K : List (Nat × Option Ob)) : (stL n L K).heap = obL K := rfl
theorem stL_eq {n : Nat} {L L' : List (Nat × AV)} {K K' : List (Nat × Option Ob)} (h : L = L') (k : K = K') : stL n L K = stL n L' K' := by rw [h, k]
theorem envL_cons (x : Nat × AV) (L : List (Nat × AV)) : envL (x :: L) = upd (envL L) x.1 x.2 := rfl
theorem envL_nil : envL [] = fun _ => .x := rfl
theorem obL_cons (x : Nat × Option Ob) (L : List (Nat × Option Ob)) : obL (x :: L) = upd (obL L) x.1 x.2 := rfl
theorem obL_nil : obL [] = fun _ => none := rfl

theorem seqK {A : Env} {x y : Code} {Q : Exit → St → Prop} {s : St} (h : ∀ K : St → Prop, (∀ s, awp A y Q s → K s) → awp A x (thenS K Q) s) : awp A (.seq x y) Q s := by
  rw [awp_seq]
  exact h _ fun _ h => h
theorem keyIn_eq : keyIn = 900000 := rfl
theorem ovr_eq (L : List (Nat × Ob)) (H : Nat → Option Ob) : ovr L H = updL L H := (updL_eq L H).symm
end Go.Fs
