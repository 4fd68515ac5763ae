/-
  NARROWER THAN 'FOR EVERY INPUT', by the rows' own cells (each row's printed sentence says how): FnExactFoldExpr: loops · FnExactFoldGain: loops.
  DERIVED. THE GIVEN ROWS OF THIS SEAT. 5 by the template 'for every input the law returns true; each argument reads behind the call as it read before'; 0 by the template 'total and deterministic' (their statements: YtbgbnmghhmfihaaTotals.lean).
  GIVEN WITH THE SEED: the statements are not yours to turn. If you find one false, say at which input.
  Laid BY PROGRAM, IN A SANDBOX (cutbox-rows.mjs): the forced cells as the released guide's own fill.sh prints them over the translation 9c9dbb46ccb30a72… (all of the seat's roots in one cut). By AI agents, Wed Nov 11 2026. No macro, syntax, notation, axiom, sorry.
-/
import Derived.Test.YtbgbnmghhmfihaaChecked
import GoSem.Claim
import GoSem.ClaimJoined
import GoSem.ClaimMapViews
import Derived.JoinedTies
import Derived.KernelRfl
namespace Go.Proofs.Ytbgbnmghhmfihaa
/- THE CELL 'sum', in the pinned program and in every row, IS THE sha256 OF THE DUMP (.gsa) THAT YtbgbnmghhmfihaaProg.lean LOADS. Nothing in Lean hashes anything: it is a label: what it is worth is what the hold of that sum in a sandbox is worth. -/
noncomputable def Try.pinned : Pinned := { name := "ytbgbnmghhmfihaa", sum := "9c9dbb46ccb30a721c9ca19f668b7a75198ccd5bafedeb1bf9b0a889cf13c890", checked := Try.checked }
namespace Rows
def none {H : Type} : Left H := { results := [], args := [] }

/-- 'laws.FnExactTrimDb': WHATEVER THE INPUT: true; the input reads as it did. -/
def fnExactTrimDbSpec : ChangeSpec := { name := "fnExactTrimDb", fn := fun _ => fun
  | [d] => { results := [.lit (.bool true)], args := [d] }
  | _ => none }
def fnExactTrimDbRow : OpenClaim := { program := "ytbgbnmghhmfihaa", sum := "9c9dbb46ccb30a721c9ca19f668b7a75198ccd5bafedeb1bf9b0a889cf13c890", func := "loop.example/smithy/laws.FnExactTrimDb", spec := "fnExactTrimDb", apart := false }
def FnExactTrimDbSaid : Prop := fnExactTrimDbRow.holds Try.pinned (OpenSpec.ofChange fnExactTrimDbSpec)

/-- ITS FALSE NEIGHBOUR: 'it returns false'. Refute it at one input. -/
def fnExactTrimDbWrong : ChangeSpec := { name := "fnExactTrimDb", fn := fun _ => fun
  | [d] => { results := [.lit (.bool false)], args := [d] }
  | _ => none }
def FnExactTrimDbWrongFalsely : Prop := fnExactTrimDbRow.holds Try.pinned (OpenSpec.ofChange fnExactTrimDbWrong)

/-- 'laws.FnExactShakeReach': WHATEVER THE INPUT: true; the input reads as it did. -/
def fnExactShakeReachSpec : ChangeSpec := { name := "fnExactShakeReach", fn := fun _ => fun
  | [d] => { results := [.lit (.bool true)], args := [d] }
  | _ => none }
def fnExactShakeReachRow : OpenClaim := { program := "ytbgbnmghhmfihaa", sum := "9c9dbb46ccb30a721c9ca19f668b7a75198ccd5bafedeb1bf9b0a889cf13c890", func := "loop.example/smithy/laws.FnExactShakeReach", spec := "fnExactShakeReach", unfollowed := true, recurses := true, apart := false }
def FnExactShakeReachSaid : Prop := fnExactShakeReachRow.holds Try.pinned (OpenSpec.ofChange fnExactShakeReachSpec)

/-- ITS FALSE NEIGHBOUR: 'it returns false'. Refute it at one input. -/
def fnExactShakeReachWrong : ChangeSpec := { name := "fnExactShakeReach", fn := fun _ => fun
  | [d] => { results := [.lit (.bool false)], args := [d] }
  | _ => none }
def FnExactShakeReachWrongFalsely : Prop := fnExactShakeReachRow.holds Try.pinned (OpenSpec.ofChange fnExactShakeReachWrong)

/-- 'laws.FnExactShakeImage': WHATEVER THE INPUT: true; the input reads as it did. -/
def fnExactShakeImageSpec : ChangeSpec := { name := "fnExactShakeImage", fn := fun _ => fun
  | [d] => { results := [.lit (.bool true)], args := [d] }
  | _ => none }
def fnExactShakeImageRow : OpenClaim := { program := "ytbgbnmghhmfihaa", sum := "9c9dbb46ccb30a721c9ca19f668b7a75198ccd5bafedeb1bf9b0a889cf13c890", func := "loop.example/smithy/laws.FnExactShakeImage", spec := "fnExactShakeImage", unfollowed := true, recurses := true, apart := false }
def FnExactShakeImageSaid : Prop := fnExactShakeImageRow.holds Try.pinned (OpenSpec.ofChange fnExactShakeImageSpec)

/-- ITS FALSE NEIGHBOUR: 'it returns false'. Refute it at one input. -/
def fnExactShakeImageWrong : ChangeSpec := { name := "fnExactShakeImage", fn := fun _ => fun
  | [d] => { results := [.lit (.bool false)], args := [d] }
  | _ => none }
def FnExactShakeImageWrongFalsely : Prop := fnExactShakeImageRow.holds Try.pinned (OpenSpec.ofChange fnExactShakeImageWrong)

/-- 'laws.FnExactFoldExpr': WHATEVER THE INPUT: true; the input reads as it did. -/
def fnExactFoldExprSpec : ChangeSpec := { name := "fnExactFoldExpr", fn := fun _ => fun
  | [d] => { results := [.lit (.bool true)], args := [d] }
  | _ => none }
def fnExactFoldExprRow : OpenClaim := { program := "ytbgbnmghhmfihaa", sum := "9c9dbb46ccb30a721c9ca19f668b7a75198ccd5bafedeb1bf9b0a889cf13c890", func := "loop.example/smithy/laws.FnExactFoldExpr", spec := "fnExactFoldExpr", unfollowed := true, recurses := true, loops := true, apart := false }
def FnExactFoldExprSaid : Prop := fnExactFoldExprRow.holds Try.pinned (OpenSpec.ofChange fnExactFoldExprSpec)

/-- ITS FALSE NEIGHBOUR: 'it returns false'. Refute it at one input. -/
def fnExactFoldExprWrong : ChangeSpec := { name := "fnExactFoldExpr", fn := fun _ => fun
  | [d] => { results := [.lit (.bool false)], args := [d] }
  | _ => none }
def FnExactFoldExprWrongFalsely : Prop := fnExactFoldExprRow.holds Try.pinned (OpenSpec.ofChange fnExactFoldExprWrong)

/-- 'laws.FnExactFoldGain': WHATEVER THE INPUT: true; the input reads as it did. -/
def fnExactFoldGainSpec : ChangeSpec := { name := "fnExactFoldGain", fn := fun _ => fun
  | [d] => { results := [.lit (.bool true)], args := [d] }
  | _ => none }
def fnExactFoldGainRow : OpenClaim := { program := "ytbgbnmghhmfihaa", sum := "9c9dbb46ccb30a721c9ca19f668b7a75198ccd5bafedeb1bf9b0a889cf13c890", func := "loop.example/smithy/laws.FnExactFoldGain", spec := "fnExactFoldGain", unfollowed := true, recurses := true, loops := true, apart := false }
def FnExactFoldGainSaid : Prop := fnExactFoldGainRow.holds Try.pinned (OpenSpec.ofChange fnExactFoldGainSpec)

/-- ITS FALSE NEIGHBOUR: 'it returns false'. Refute it at one input. -/
def fnExactFoldGainWrong : ChangeSpec := { name := "fnExactFoldGain", fn := fun _ => fun
  | [d] => { results := [.lit (.bool false)], args := [d] }
  | _ => none }
def FnExactFoldGainWrongFalsely : Prop := fnExactFoldGainRow.holds Try.pinned (OpenSpec.ofChange fnExactFoldGainWrong)

/- THE SECOND FORM. 'bulk': how many values and letters a reading holds, each counted each time it is reached (what is shared counts as often as it is met; a slice's spare places count too). A statement '..UptoSaid' is the law's where the arguments, and the package variables that the reading takes, are together of bulk at most 1048576: NARROWER than '..Said'. Prove '..Said' where nothing that the law and all that it calls make is longer than what came in: it says more and counts as full. Else prove '..UptoSaid'. A law counts once. -/
mutual
def uptoBulk {H : Type} : DataW H → Nat
  | .lit (.string bytes) => bytes.length + 1
  | .lit _ => 1
  | .nil => 1
  | .ptr d => uptoBulk d + 1
  | .slice elems spare => uptoBulkAll elems + uptoBulkAll spare + 1
  | .agg parts => uptoBulkAll parts + 1
  | .iface _ d => uptoBulk d + 1
  | .map entries => uptoBulkEntries entries + 1
  | .held _ => 1
def uptoBulkAll {H : Type} : List (DataW H) → Nat
  | [] => 0
  | d :: r => uptoBulk d + uptoBulkAll r
def uptoBulkEntries {H : Type} : List (Lit × DataW H) → Nat
  | [] => 0
  | x :: r => uptoBulkEntry x + uptoBulkEntries r
def uptoBulkEntry {H : Type} : Lit × DataW H → Nat
  | (.string bytes, d) => bytes.length + uptoBulk d + 1
  | (_, d) => uptoBulk d + 1
 end
def uptoSmall : (H : Type) → List (DataW H) → Bool := fun _ ds => decide (uptoBulkAll ds ≤ 1048576)
def OpenSpec.upto (s : _root_.Go.ChangeSpec) : _root_.Go.OpenSpec := { _root_.Go.OpenSpec.ofChange s with cond := some uptoSmall }

/-- 'laws.FnExactTrimDb', WHERE WHAT IT READS IS OF BULK AT MOST 1048576: true; the input reads as it did. -/
def fnExactTrimDbUptoRow : OpenClaim := { program := "ytbgbnmghhmfihaa", sum := "9c9dbb46ccb30a721c9ca19f668b7a75198ccd5bafedeb1bf9b0a889cf13c890", func := "loop.example/smithy/laws.FnExactTrimDb", spec := "fnExactTrimDb", apart := false, narrowed := true }
def FnExactTrimDbUptoSaid : Prop := fnExactTrimDbUptoRow.holds Try.pinned (OpenSpec.upto fnExactTrimDbSpec)

/-- 'laws.FnExactShakeReach', WHERE WHAT IT READS IS OF BULK AT MOST 1048576: true; the input reads as it did. -/
def fnExactShakeReachUptoRow : OpenClaim := { program := "ytbgbnmghhmfihaa", sum := "9c9dbb46ccb30a721c9ca19f668b7a75198ccd5bafedeb1bf9b0a889cf13c890", func := "loop.example/smithy/laws.FnExactShakeReach", spec := "fnExactShakeReach", unfollowed := true, recurses := true, apart := false, narrowed := true }
def FnExactShakeReachUptoSaid : Prop := fnExactShakeReachUptoRow.holds Try.pinned (OpenSpec.upto fnExactShakeReachSpec)

/-- 'laws.FnExactShakeImage', WHERE WHAT IT READS IS OF BULK AT MOST 1048576: true; the input reads as it did. -/
def fnExactShakeImageUptoRow : OpenClaim := { program := "ytbgbnmghhmfihaa", sum := "9c9dbb46ccb30a721c9ca19f668b7a75198ccd5bafedeb1bf9b0a889cf13c890", func := "loop.example/smithy/laws.FnExactShakeImage", spec := "fnExactShakeImage", unfollowed := true, recurses := true, apart := false, narrowed := true }
def FnExactShakeImageUptoSaid : Prop := fnExactShakeImageUptoRow.holds Try.pinned (OpenSpec.upto fnExactShakeImageSpec)

/-- 'laws.FnExactFoldExpr', WHERE WHAT IT READS IS OF BULK AT MOST 1048576: true; the input reads as it did. -/
def fnExactFoldExprUptoRow : OpenClaim := { program := "ytbgbnmghhmfihaa", sum := "9c9dbb46ccb30a721c9ca19f668b7a75198ccd5bafedeb1bf9b0a889cf13c890", func := "loop.example/smithy/laws.FnExactFoldExpr", spec := "fnExactFoldExpr", unfollowed := true, recurses := true, loops := true, apart := false, narrowed := true }
def FnExactFoldExprUptoSaid : Prop := fnExactFoldExprUptoRow.holds Try.pinned (OpenSpec.upto fnExactFoldExprSpec)

/-- 'laws.FnExactFoldGain', WHERE WHAT IT READS IS OF BULK AT MOST 1048576: true; the input reads as it did. -/
def fnExactFoldGainUptoRow : OpenClaim := { program := "ytbgbnmghhmfihaa", sum := "9c9dbb46ccb30a721c9ca19f668b7a75198ccd5bafedeb1bf9b0a889cf13c890", func := "loop.example/smithy/laws.FnExactFoldGain", spec := "fnExactFoldGain", unfollowed := true, recurses := true, loops := true, apart := false, narrowed := true }
def FnExactFoldGainUptoSaid : Prop := fnExactFoldGainUptoRow.holds Try.pinned (OpenSpec.upto fnExactFoldGainSpec)

end Rows
end Go.Proofs.Ytbgbnmghhmfihaa
