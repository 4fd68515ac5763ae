/- A part of the proof: an evaluator of the program's code over plain data, proved sound, and walks of the program's functions by it. No conditions beyond those in the theorems. -/
import Derived.WalkKit
import Derived.ProofKit
import Derived.OpenShut
import Derived.ShutString
import Derived.ChangeOld
import Derived.Below
import Derived.Carry
import Derived.SizedLaws
import Derived.Test.YtbgbnmghhmfihaaLawGp21
import Derived.Test.YtbgbnmghhmfihaaLawGp22
set_option linter.unusedVariables false
set_option linter.unusedSimpArgs false
set_option linter.constructorNameAsVariable false
set_option linter.unusedSectionVars false
set_option linter.defProp false
set_option linter.unusedVariables false
set_option maxRecDepth 4000
namespace Go.Fs.Se
open Cel (cel unc)
open Dat (enc dec)
open Arg (ea da)
/-! ### folding a module, and how much smaller it gets -/
theorem len_NL : ∀ es : List TreeExpr, es.length ≤ NL es
  | [] => by simp
  | e :: es => by have := len_NL es; have := NE_eq e; rw [NL_cons, List.length_cons]; omega
theorem nodes_ok2 : ∀ e : TreeExpr, NE e ≤ 2097152 → n101 e = some ((NE e : Int), (DE e : Int)) ∧ n107 e = some ((NE e : Int), (DE e : Int)) := by
  intro e
  induction e using tree_ind with
  | h e ih =>
    intro hw
    have hN := NE_eq e
    have hD := DL_le e.kids
    have hL := len_NL e.kids
    have loop : ∀ (ys : List TreeExpr) (i a b : Nat), e.kids.drop i = ys → i ≤ e.kids.length → a + NL ys ≤ 4194304 → b ≤ 4194304 → DL ys ≤ 4194304 →
        l101_4 e (a : Int) (b : Int) (i : Int) = some (((a + NL ys : Nat) : Int), ((max b (DL ys) + 1 : Nat) : Int)) ∧ l107_3 e (a : Int) (b : Int) (i : Int) = some (((a + NL ys : Nat) : Int), ((max b (DL ys) + 1 : Nat) : Int)) := by
      intro ys
      induction ys with
      | nil =>
        intro i a b hd hi ha hb hD
        have := dropEnd hd
        have w : IntKind.i64.wrap ((b : Int) + 1) = ((max b (DL []) + 1 : Nat) : Int) := by rw [wrN (by omega), DL_nil]; congr 1; omega
        rw [l101_4_eq, l107_3_eq, if_neg (by omega), if_neg (by omega), NL_nil, w]
        exact ⟨rfl, rfl⟩
      | cons y ys ihy =>
        intro i a b hd hi ha hb hD
        obtain ⟨d1, d2, d3, d4⟩ := dropAt hd
        have hy := mem_drop hd
        have hwy := NE_mem (es := e.kids) y hy
        obtain ⟨i1, i2⟩ := ih y hy (by omega)
        rw [NL_cons] at ha
        rw [DL_cons] at hD
        have w1 : IntKind.i64.wrap ((a : Int) + (NE y : Int)) = ((a + NE y : Nat) : Int) := by rw [wrap64 (by omega) (by omega)]; omega
        have w2 : max (b : Int) (DE y : Int) = ((max b (DE y) : Nat) : Int) := by omega
        obtain ⟨r1, r2⟩ := ihy (i + 1) (a + NE y) (max b (DE y)) d4 (by omega) (by omega) (by omega) (by omega)
        have e1 : a + NE y + NL ys = a + NL (y :: ys) := by rw [NL_cons]; omega
        have e2 : max (max b (DE y)) (DL ys) = max b (DL (y :: ys)) := by rw [DL_cons]; omega
        rw [e1, e2] at r1 r2
        rw [l101_4_eq, l107_3_eq, if_pos (by omega), if_pos (by omega), d2, Option.bind_some, Option.bind_some, i1, i2, Option.bind_some, Option.bind_some]
        simp only [w1, w2, wrN (n := i) (by omega)]
        refine ⟨?_, r2⟩
        by_cases hlt : (b : Int) < (DE y : Int)
        · rw [if_pos hlt]
          have : max b (DE y) = DE y := by omega
          rw [this] at r1
          exact r1
        · rw [if_neg hlt]
          have : max b (DE y) = b := by omega
          rw [this] at r1
          exact r1
    obtain ⟨r1, r2⟩ := loop e.kids 0 1 0 rfl (by omega) (by omega) (by omega) (by omega)
    have e2 : max 0 (DL e.kids) + 1 = DE e := by rw [DE_eq]; omega
    rw [← NE_eq, e2] at r1 r2
    rw [n101_eq, n107_eq]
    exact ⟨r1, r2⟩
theorem bodies_is2 (m : TreeMod) (hlen : m.funs.length + m.main.length ≤ 1048576) : n120 m = some (bodies m) := by
  have loop : ∀ (ys : List TreeFun) (i : Nat) (r : List TreeExpr) (d : Bool), m.funs.drop i = ys → r.length = i → i ≤ m.funs.length → l120_3 m (i : Int) r d = some (r ++ (ys.map (·.body) ++ m.main)) := by
    intro ys
    induction ys with
    | nil =>
      intro i r d hd hr hi
      have := dropEnd hd
      rw [l120_3_eq, if_neg (by omega), if_pos ⟨by omega, by omega⟩]; simp
    | cons y ys ih =>
      intro i r d hd hr hi
      obtain ⟨d1, d2, d3, d4⟩ := dropAt hd
      rw [l120_3_eq, if_pos (by omega), d2, Option.bind_some, if_pos ⟨by omega, by omega⟩, wrN (by omega), ih (i + 1) _ _ d4 (by simp [hr]) (by omega)]
      simp
  rw [n120_eq]
  simpa [bodies] using loop m.funs 0 [] true rfl rfl (by omega)
theorem count_ok (m : TreeMod) (hlen : m.funs.length + m.main.length ≤ 1048576) (hn : NL (bodies m) ≤ 2097152) : n74 m = some (NL (bodies m) : Int) ∧ n79 m = some (NL (bodies m) : Int) := by
  have hb : NL (bodies m) = NL (m.funs.map (·.body)) + NL m.main := by unfold bodies; rw [NL_app]
  constructor
  · have loop2 : ∀ (ys : List TreeExpr) (i t : Nat), m.main.drop i = ys → i ≤ m.main.length → t + NL ys ≤ 2097152 → l74_8 m (t : Int) (i : Int) = some ((t + NL ys : Nat) : Int) := by
      intro ys
      induction ys with
      | nil =>
        intro i t hd hi ht
        have := dropEnd hd
        rw [l74_8_eq, if_neg (by omega), NL_nil]; rfl
      | cons y ys ih =>
        intro i t hd hi ht
        obtain ⟨d1, d2, d3, d4⟩ := dropAt hd
        rw [NL_cons] at ht ⊢
        obtain ⟨t1, _⟩ := nodes_ok2 y (by omega)
        have w1 : IntKind.i64.wrap ((t : Int) + (NE y : Int)) = ((t + NE y : Nat) : Int) := by rw [wrap64 (by omega) (by omega)]; omega
        rw [l74_8_eq, if_pos (by omega), d2, Option.bind_some, t1, Option.bind_some]
        simp only [w1, wrN (n := i) (by omega)]
        rw [ih (i + 1) (t + NE y) d4 (by omega) (by omega), Nat.add_assoc]
    have loop1 : ∀ (ys : List TreeFun) (i t : Nat), m.funs.drop i = ys → i ≤ m.funs.length → t + NL (ys.map (·.body)) + NL m.main ≤ 2097152 → l74_3 m (t : Int) (i : Int) = some ((t + NL (ys.map (·.body)) + NL m.main : Nat) : Int) := by
      intro ys
      induction ys with
      | nil =>
        intro i t hd hi ht
        have := dropEnd hd
        simp only [List.map_nil, NL_nil] at ht ⊢
        rw [l74_3_eq, if_neg (by omega)]
        have := loop2 m.main 0 t rfl (by omega) (by omega)
        rw [Nat.add_zero]; exact this
      | cons y ys ih =>
        intro i t hd hi ht
        obtain ⟨d1, d2, d3, d4⟩ := dropAt hd
        rw [List.map_cons, NL_cons] at ht ⊢
        obtain ⟨t1, _⟩ := nodes_ok2 y.body (by omega)
        have w1 : IntKind.i64.wrap ((t : Int) + (NE y.body : Int)) = ((t + NE y.body : Nat) : Int) := by rw [wrap64 (by omega) (by omega)]; omega
        rw [l74_3_eq, if_pos (by omega), d2, Option.bind_some, t1, Option.bind_some]
        simp only [w1, wrN (n := i) (by omega)]
        rw [ih (i + 1) (t + NE y.body) d4 (by omega) (by omega), Nat.add_assoc t]
    have := loop1 m.funs 0 0 rfl (by omega) (by omega)
    rw [n74_eq, hb]
    rw [Nat.zero_add] at this
    exact this
  · have loop : ∀ (ys : List TreeExpr) (i t : Nat), (bodies m).drop i = ys → i ≤ (bodies m).length → t + NL ys ≤ 2097152 → l79_3 m (t : Int) (bodies m) ((bodies m).length : Int) (i : Int) = some ((t + NL ys : Nat) : Int) := by
      intro ys
      induction ys with
      | nil =>
        intro i t hd hi ht
        have := dropEnd hd
        rw [l79_3_eq, if_neg (by omega), NL_nil]; rfl
      | cons y ys ih =>
        intro i t hd hi ht
        obtain ⟨d1, d2, d3, d4⟩ := dropAt hd
        rw [NL_cons] at ht ⊢
        obtain ⟨_, t1⟩ := nodes_ok2 y (by omega)
        have hbl := body_len m
        have w1 : IntKind.i64.wrap ((t : Int) + (NE y : Int)) = ((t + NE y : Nat) : Int) := by rw [wrap64 (by omega) (by omega)]; omega
        rw [l79_3_eq, if_pos (by omega), d2, Option.bind_some, t1, Option.bind_some]
        simp only [w1, wrN (n := i) (by omega)]
        rw [ih (i + 1) (t + NE y) d4 (by omega) (by omega), Nat.add_assoc]
    have := loop (bodies m) 0 0 rfl (by omega) (by omega)
    rw [n79_eq, bodies_is2 m hlen, Option.bind_some]
    rw [Nat.zero_add] at this
    exact this
/-- What a function comes to. -/
def FoldF (f g : TreeFun) : Prop := ∃ r, FoldP f.body r ∧ g = TreeFun.mk f.name f.pub f.args f.type r
theorem foldF_nodes : ∀ {fs gs : List TreeFun}, F2 FoldF fs gs → NL (gs.map (·.body)) ≤ NL (fs.map (·.body))
  | _, _, .nil => Nat.le_refl _
  | _, _, .cons hr h => by
    have := foldF_nodes h
    obtain ⟨r, hr, rfl⟩ := hr
    have := hr.2.2.2.2
    rw [List.map_cons, List.map_cons, NL_cons, NL_cons]
    show NE r + _ ≤ _
    omega
theorem foldMod_ok (m : TreeMod) (hok : okM m) (hw : WM m ≤ 1048576) (hp : ImplP m) : ∃ m', n75 m = some m' ∧ n80 m = some m' ∧ m'.uses = m.uses ∧ F2 FoldF m.funs m'.funs ∧ F2 FoldP m.main m'.main := by
  obtain ⟨b, b1, b2, b3⟩ := treeOk m hok hw
  obtain rfl := b3.2 hp
  obtain ⟨⟨p1, p2, p3⟩, _, _, ⟨_, pB⟩, _⟩ := hp
  have hO := body_ok hok
  have hW := body_W hw
  have hlen := hw
  rw [WM_eq] at hlen
  have hF : ∀ e ∈ bodies m, ∃ r, FoldP e r := fun e he => fold_ok e (hO e he) (pB e he).2.2 (hW e he)
  obtain ⟨gs, hgs⟩ := F2.of (R := FoldF) (xs := m.funs) fun f hf => by
    obtain ⟨r, hr⟩ := hF f.body (List.mem_append_left _ (List.mem_map.2 ⟨f, hf, rfl⟩))
    exact ⟨_, r, hr, rfl⟩
  obtain ⟨rs, hrs⟩ := F2.of (R := FoldP) (xs := m.main) fun e he => hF e (List.mem_append_right _ he)
  have loop2 : ∀ (ys zs : List TreeExpr) (i : Nat) (fs : List TreeFun) (acc : List TreeExpr), F2 FoldP ys zs → m.main.drop i = ys → acc.length = i → i ≤ m.main.length →
      l75_12 m (i : Int) fs acc = some (TreeMod.mk m.uses fs (acc ++ zs)) ∧ l80_11 m (i : Int) fs acc = some (TreeMod.mk m.uses fs (acc ++ zs)) := by
    intro ys zs i fs acc h
    induction h generalizing i acc with
    | nil =>
      intro hd ha hi
      have := dropEnd hd
      rw [l75_12_eq, l80_11_eq, if_neg (by omega), if_neg (by omega), List.append_nil]
      exact ⟨rfl, rfl⟩
    | @cons x y xs ys hr h ih =>
      intro hd ha hi
      obtain ⟨d1, d2, d3, d4⟩ := dropAt hd
      obtain ⟨f1, f2, _⟩ := hr
      obtain ⟨r1, r2⟩ := ih (i + 1) (acc ++ [y]) d4 (by simp [ha]) (by omega)
      rw [l75_12_eq, l80_11_eq, if_pos (by omega), if_pos (by omega), d2, Option.bind_some, Option.bind_some, f1, f2, Option.bind_some, Option.bind_some, if_pos ⟨by omega, by omega⟩, if_pos ⟨by omega, by omega⟩, wrN (by omega)]
      rw [List.append_assoc] at r1 r2
      exact ⟨r1, r2⟩
  have loop1 : ∀ (ys zs : List TreeFun) (i : Nat) (acc : List TreeFun), F2 FoldF ys zs → m.funs.drop i = ys → acc.length = i → i ≤ m.funs.length →
      l75_5 m (i : Int) acc = l75_12 m 0 (acc ++ zs) [] ∧ l80_5 m (i : Int) acc = l80_11 m 0 (acc ++ zs) [] := by
    intro ys zs i acc h
    induction h generalizing i acc with
    | nil =>
      intro hd ha hi
      have := dropEnd hd
      rw [l75_5_eq, l80_5_eq, if_neg (by omega), if_neg (by omega), List.append_nil]
      exact ⟨rfl, rfl⟩
    | @cons x y xs ys hr h ih =>
      intro hd ha hi
      obtain ⟨d1, d2, d3, d4⟩ := dropAt hd
      obtain ⟨r, ⟨f1, f2, _⟩, rfl⟩ := hr
      have hxw := WLC_mem (xs := m.funs) x (mem_drop hd)
      rw [WC_F] at hxw
      obtain ⟨r1, r2⟩ := ih (i + 1) (acc ++ [TreeFun.mk x.name x.pub x.args x.type r]) d4 (by simp [ha]) (by omega)
      rw [l75_5_eq, l80_5_eq, if_pos (by omega), if_pos (by omega), d2, Option.bind_some, Option.bind_some, if_pos ⟨by omega, by omega⟩, if_pos ⟨by omega, by omega⟩, f1, f2, Option.bind_some, Option.bind_some, if_pos ⟨by omega, by omega⟩, if_pos ⟨by omega, by omega⟩, wrN (by omega)]
      rw [List.append_assoc] at r1 r2
      exact ⟨r1, r2⟩
  obtain ⟨a1, a2⟩ := loop1 m.funs gs 0 [] hgs rfl rfl (by omega)
  obtain ⟨c1, c2⟩ := loop2 m.main rs 0 gs [] hrs rfl rfl (by omega)
  have z : ((0 : Nat) : Int) = 0 := rfl
  rw [z, List.nil_append] at a1 a2
  rw [z, List.nil_append] at c1 c2
  refine ⟨TreeMod.mk m.uses gs rs, ?_, ?_, rfl, hgs, hrs⟩
  · rw [n75_eq, b1, Option.bind_some, if_neg (by decide), if_pos ⟨by omega, by omega⟩, a1, c1]
  · rw [n80_eq, b2, Option.bind_some, if_neg (by decide), if_pos ⟨by omega, by omega⟩, a2, c2]
theorem gain_ok (m : TreeMod) (hok : okM m) (hw : WM m ≤ 1048576) : ∃ g, n35 m = some g ∧ n37 m = some g := by
  obtain ⟨b, b1, b2, b3⟩ := treeOk m hok hw
  rw [n35_eq, n37_eq, b1, b2]
  cases b with
  | false => exact ⟨0, rfl, rfl⟩
  | true =>
    have hlen := hw
    rw [WM_eq] at hlen
    obtain ⟨m', e1, e2, _, e4, e5⟩ := foldMod_ok m hok hw (b3.1 rfl)
    have hB := bodies_NL hw
    obtain ⟨q1, q2⟩ := count_ok m (by omega) hB
    have l1 := e4.len
    have l2 := e5.len
    have hN : NL (bodies m') ≤ NL (bodies m) := by
      unfold bodies
      rw [NL_app, NL_app]
      have := foldF_nodes e4
      have := e5.nodes
      omega
    obtain ⟨q3, q4⟩ := count_ok m' (by omega) (by omega)
    simp only [Option.bind_some, Bool.true_eq_false, if_false, q1, q2, e1, e2, q3, q4]
    exact ⟨_, rfl, rfl⟩
theorem gain_law (m : TreeMod) (hok : okM m) : n7 m = some true := by
  rw [n7_eq, szMod m hok 1048576 (by decide) (by decide), Option.bind_some]
  by_cases hneg : less 1048576 (WM m) < 0
  · rw [if_pos hneg]
  rw [if_neg hneg]
  have hw : WM m ≤ 1048576 := by unfold less at hneg; split at hneg <;> omega
  obtain ⟨g, g1, g2⟩ := gain_ok m hok hw
  simp only [toMod m hw, g1, g2, eqMod m hok, Option.bind_some, decide_true, Bool.true_eq_false, if_false]

/-! ### from what a claim reads to modules -/
def argS : List Sh := [.s, .i]
def funS : List Sh := [.s, .b, .l argS, .i, .i, .i, .s, .s, .t]
def modS : List Sh := [.l [.s], .l funS, .t]
theorem celL_of {α : Type} [Cel α] : ∀ {xs : List (List D)}, (∀ x ∈ xs, ∃ e : α, x = cel e) → ∃ es : List α, xs = es.map cel
  | [], _ => ⟨[], rfl⟩
  | x :: xs, h => by
    obtain ⟨e, rfl⟩ := h x (.head _)
    obtain ⟨es, rfl⟩ := celL_of (xs := xs) fun y hy => h y (.tail _ hy)
    exact ⟨e :: es, rfl⟩
theorem text_of {ds : List D} (h : shL [.s] ds = true) : ∃ s : ByteArray, ds = cel s := by
  obtain ⟨c1, q1, rfl, a1, h⟩ := shL_cons h
  obtain rfl := shL_nil h
  obtain ⟨s, rfl⟩ := shD_s a1
  exact ⟨s, rfl⟩
theorem arg_of {ds : List D} (h : shL argS ds = true) : ∃ a : TreeArg, ds = cel a := by
  obtain ⟨c1, q1, rfl, a1, h⟩ := shL_cons h
  obtain ⟨c2, q2, rfl, a2, h⟩ := shL_cons h
  obtain rfl := shL_nil h
  obtain ⟨s, rfl⟩ := shD_s a1
  obtain ⟨t, rfl⟩ := shD_i a2
  exact ⟨⟨s, t⟩, rfl⟩
theorem fun_of {ds : List D} (h : shL funS ds = true) : ∃ f : TreeFun, ds = cel f := by
  obtain ⟨c1, q1, rfl, a1, h1⟩ := shL_cons h
  obtain ⟨c2, q2, rfl, a2, h2⟩ := shL_cons h1
  obtain ⟨c3, q3, rfl, a3, h3⟩ := shL_cons h2
  obtain ⟨c4, q4, rfl, a4, h4⟩ := shL_cons h3
  obtain ⟨s, rfl⟩ := shD_s a1
  obtain ⟨b, rfl⟩ := shD_b a2
  obtain ⟨xs, rfl, a3⟩ := shD_l a3
  obtain ⟨t, rfl⟩ := shD_i a4
  obtain ⟨as', rfl⟩ := celL_of (α := TreeArg) fun x hx => arg_of (shLL_len a3 x hx)
  obtain ⟨e, rfl⟩ := tree_of h4
  exact ⟨⟨s, b, as', t, e⟩, rfl⟩
theorem mod_of {ds : List D} (h : shL modS ds = true) : ∃ m : TreeMod, ds = cel m := by
  obtain ⟨c1, q1, rfl, a1, h⟩ := shL_cons h
  obtain ⟨c2, q2, rfl, a2, h⟩ := shL_cons h
  obtain ⟨c3, q3, rfl, a3, h⟩ := shL_cons h
  obtain rfl := shL_nil h
  obtain ⟨xs, rfl, a1⟩ := shD_l a1
  obtain ⟨ys, rfl, a2⟩ := shD_l a2
  obtain ⟨zs, rfl, a3⟩ := shD_t a3
  obtain ⟨us, rfl⟩ := celL_of (α := ByteArray) fun x hx => text_of (shLL_len a1 x hx)
  obtain ⟨fs, rfl⟩ := celL_of (α := TreeFun) fun x hx => fun_of (shLL_len a2 x hx)
  obtain ⟨es, rfl⟩ := celL_of (α := TreeExpr) fun x hx => tree_of (shLL_len a3 x hx)
  exact ⟨⟨us, fs, es⟩, rfl⟩
theorem gain_row {ds : List D} (h1 : shL modS ds = true) (h2 : okL ds = true) : FnOK Go.Proofs.Try.prog 7 [.d (.g ds)] { ret := .b true } := by
  obtain ⟨m, rfl⟩ := mod_of h1
  have h := gain_law m h2
  unfold n7 fnO at h
  obtain ⟨r, hr, hd⟩ := Option.bind_eq_some_iff.1 h
  have e1 : r = .b true := Dat.enc_dec r true hd
  subst e1
  exact lastR_ok mok 7 (.own ((lastR M).o 7)) rfl [enc m] _ hr
end Go.Fs.Se

set_option linter.unusedVariables false
namespace Go.Fs
open Go.RowKit

/-- The last step of a law's row: from the function's contract to its calls. -/
theorem calls_of_fnOK {P : Program} {f : FuncId} {args : List Value} {ins : List In} {out : Ret} (h : FnOK P f ins out) (hc : ∀ (a : Array Value) (w : World), (callFunc f a).run P w = .ok (.enter f a) w) {w : World} {Sd : List Nat} (ha : ArgsR w args ins Sd []) :
    Calls P f args.toArray w fun e w' => ∃ v, e = .returned v ∧ Post w args Sd [] out v w' := by
  rcases h w args Sd [] ha List.nodup_nil (by simp) with ⟨_, h2⟩ | ⟨v, w', h1, _⟩
  · refine h2.mono fun e w' he => ?_
    cases e with
    | returned v => exact ⟨v, rfl, he⟩
    | panicked c => exact he.elim
    | outgrown => exact he.elim
  · rw [hc] at h1; cases h1
theorem Post.below {w w' : World} {args : List Value} {Sd : List Nat} {out : Ret} {v : Value} (h : Post w args Sd [] out v w') : Below w.heap.size w w' :=
  ⟨h.rest.os, h.rest.tape, h.rest.output, h.rest.size, fun k hk => h.keep k hk (by simp)⟩
theorem Post.bool {w w' : World} {args : List Value} {Sd : List Nat} {b : Bool} {v : Value} (h : Post w args Sd [] { ret := .b b } v w') : v = .bool b := by
  obtain ⟨S, Si, h1, _⟩ := h.res
  exact h1.inv_b.1

/-- An argument that is a slice. -/
theorem arg_slice {H : Type} {enc : TypeId × Value → H} {P : Program} {w : World} {t : TypeId} {css : List Sh} (hs : HS P t [.l css]) {v : Value} (hv : ∃ a len cap, v = .slice a len cap) {d : DataW H} {p : List MemPlace} (h : DataW.Trod enc P w 0 (fun _ => true) true t v d p) (hw : (d.weights P t).all (· ≤ reachBytes) = true) :
    ∃ xs S, Tr w false v (.l css.length xs) S ∧ Flat v ∧ shLL css xs = true ∧ okLL xs = true ∧ xs.length ≤ 140737488355328 := by
  obtain ⟨a, len, cap, rfl⟩ := hv
  obtain ⟨n, hn⟩ := h
  obtain ⟨ds, S, h1, h2, h3, h4⟩ := trod_rd n hs _ _ hn hw
  obtain ⟨c, q, rfl, e1, e2⟩ := shL_cons h3
  obtain rfl := shL_nil e2
  obtain ⟨xs, rfl, e3⟩ := shD_l e1
  rw [okL_cons, okD_l] at h4
  have hc : (Value.slice a len cap).cells.toList = [.slice a len cap] := rfl
  rw [hc] at h1 h2
  cases h1 with
  | cons _ _ S1 _ _ S2 ht hts =>
    cases hts
    exact ⟨xs, S1, ht, fun u hu => h2 u (by simpa [Value.cells] using hu), e3, h4.1.2, h4.1.1⟩

theorem SumOK.none (P : Program) : SumOK P fun _ => Option.none := fun f s h => by cases h
theorem SumOK.own {P : Program} {S : Nat → Option Summ} (h : SumOK P S) {f : FuncId} {F : List D → Option D} (hf : ∀ ds r, F ds = some r → FnOK P f (ds.map .d) { ret := r }) : SumOK P (upd S f (some (.own F))) := by
  intro g s hg
  by_cases e : g = f
  · subst e
    rw [upd_same] at hg
    cases hg
    exact hf
  · rw [upd_ne _ _ e] at hg
    exact h g s hg
theorem SumOK.io {P : Program} {S : Nat → Option Summ} (h : SumOK P S) {f : FuncId} {F : D → List D → Option (D × D)} (hf : ∀ x ds r, F x ds = some r → FnOK P f (.io x :: ds.map .d) { ret := r.1, io := some r.2 }) : SumOK P (upd S f (some (.io F))) := by
  intro g s hg
  by_cases e : g = f
  · subst e
    rw [upd_same] at hg
    cases hg
    exact hf
  · rw [upd_ne _ _ e] at hg
    exact h g s hg

/-- An argument that is a struct. -/
theorem arg_struct {H : Type} {enc : TypeId × Value → H} {P : Program} {w : World} {t : TypeId} {css : List Sh} (hs : HS P t css) {v : Value} (hv : ∃ cs, v = .agg cs ∧ cs.size = P.cellsOf t) {d : DataW H} {p : List MemPlace} (h : DataW.Trod enc P w 0 (fun _ => true) true t v d p) (hw : (d.weights P t).all (· ≤ reachBytes) = true) :
    ∃ ds S, Tr w false v (.g ds) S ∧ Flat v ∧ shL css ds = true ∧ okL ds = true := by
  obtain ⟨cs, rfl, _⟩ := hv
  obtain ⟨n, hn⟩ := h
  obtain ⟨ds, S, h1, h2, h3, h4⟩ := trod_rd n hs _ _ hn hw
  exact ⟨ds, S, .g cs ds S h1, h2, h3, h4⟩
end Go.Fs
