/- A part of the proof: an evaluator of the program's code over plain data, proved sound, or a function's walk by it. No conditions beyond those in the theorems. -/
import Derived.Test.YtbgbnmghhmfihaaPA
import Derived.Test.YtbgbnmghhmfihaaPB
import Derived.Test.YtbgbnmghhmfihaaPC
import Derived.Test.YtbgbnmghhmfihaaPD
import Derived.Test.YtbgbnmghhmfihaaPE
import Derived.Test.YtbgbnmghhmfihaaFsRd
set_option linter.unusedVariables false
namespace Go.Fs
open Go.Proofs.Try

theorem SumOK.none (P : Program) : SumOK P fun _ => Option.none := fun f s h => by cases h
theorem SumOK.own {P : Program} {S : Nat → Option Summ} (h : SumOK P S) {f : FuncId} {F : List D → Option D} (hf : ∀ ds r, F ds = some r → FnOK P f (ds.map .d) { ret := r }) : SumOK P (upd S f (some (.own F))) := by
  intro g s hg
  by_cases e : g = f
  · subst e
    rw [upd_same] at hg
    cases hg
    exact hf
  · rw [upd_ne _ _ e] at hg
    exact h g s hg
theorem SumOK.io {P : Program} {S : Nat → Option Summ} (h : SumOK P S) {f : FuncId} {F : D → List D → Option (D × D)} (hf : ∀ x ds r, F x ds = some r → FnOK P f (.io x :: ds.map .d) { ret := r.1, io := some r.2 }) : SumOK P (upd S f (some (.io F))) := by
  intro g s hg
  by_cases e : g = f
  · subst e
    rw [upd_same] at hg
    cases hg
    exact hf
  · rw [upd_ne _ _ e] at hg
    exact h g s hg

theorem trimDb_ok (xs : List (List D)) (h1 : shLL rec5 xs = true) (h2 : okLL xs = true) (h3 : xs.length ≤ 140737488355328) : FnOK prog 3 [.d (.l 5 xs)] { ret := .b true } := by
  have s0 := SumOK.none prog
  have s1 := s0.own (f71_ok s0)
  have s2 := s1.own (f39_ok s1 rfl)
  have s3 := s2.own (f8_ok s2 rfl)
  have s4 := s3.own (f76_ok s3)
  have s5 := s4.own (f41_ok s4 rfl)
  have s6 := s5.own (f10_ok s5 rfl)
  have s7 := s6.own (f81_ok s6)
  have s8 := s7.own (f43_ok s7 rfl)
  have s9 := s8.own (f12_ok s8 rfl)
  have s10 := s9.own (f44_ok s9)
  have s11 := s10.io (f45_ok s10 rfl)
  have s12 := s11.io (f13_ok s11 rfl rfl)
  have s13 := s12.own (f46_ok s12 rfl)
  have s14 := s13.own (f14_ok s13 rfl rfl)
  have s15 := s14.own (f122_ok s14)
  have s16 := s15.own (f40_ok s15)
  have s17 := s16.own (f83_ok s16 rfl)
  have s18 := s17.own (f42_ok s17 rfl)
  have s19 := s18.own (f11_ok s18 rfl)
  have s20 := s19.own (f9_ok s19 rfl)
  exact f3_ok s20 rfl rfl rfl rfl rfl rfl rfl [.l 5 xs] (.b true) (by
    simp only [lawP]; rw [if_pos ⟨rfl, h1, h2, h3⟩])
end Go.Fs
