/-
  DERIVED. GIVEN WITH THE SEED: THE CARDS: each row of YtkgkoolfobmfnaaGreatDoorRows.lean that lists a variable, with what it lists TIED to the program's text (the seventh form; the later family's looks); each row that meets fmt, with fmt's text TOLD by the authors' own Lean function (tested against real Go, not proved from fmt's source: count such statements apart). THE CARD IS WHAT COUNTS. Prove the row's statement (the work); the ties are given (YtkgkoolfobmfnaaGreatDoorTie.lean); close each card by the builder's one call (the guide's Derived/Test/ToyasCard.lean, 'card_holds'). Laid BY PROGRAM, IN A SANDBOX (cutbox-door.mjs). By AI agents, Wed Nov 11 2026. No macro, syntax, notation, axiom, sorry.
-/
import Derived.Test.YtkgkoolfobmfnaaGreatDoorRows
import GoSem.ClaimSeven
namespace Go.Proofs.YtkgkoolfobmfnaaGreatDoor
namespace Rows

/-- THE TIED CARD OF 'laws.FnExactTrimLog'. -/
def fnExactTrimLogCard : Claim7 := { stood := { row := fnExactTrimLogRow, standIns := [], harness := (true, "20aa9a601554909061a069c99b5c7650a88b66e5cf405ac6c21d589ad31280bb"), looks := true }, kinds := [], alts := [], laidByText := true, laidKinds := [.data, .data, .data, .data, .sentinel, .sentinel, .widerDeep, .widerDeep, .pinned], laidTests := true, laidLooks := .later }
def FnExactTrimLogCardSaid : Prop := Claim7.holds Tryz.pinned (.plain (OpenSpec.ofChange fnExactTrimLogSpec)) fnExactTrimLogCard

/-- THE TIED CARD OF 'laws.FnExactTrimGain'. -/
def fnExactTrimGainCard : Claim7 := { stood := { row := fnExactTrimGainRow, standIns := [], harness := (true, "20aa9a601554909061a069c99b5c7650a88b66e5cf405ac6c21d589ad31280bb"), looks := true }, kinds := [], alts := [], laidByText := true, laidKinds := [.data, .data, .data, .data, .sentinel, .sentinel, .widerDeep, .widerDeep, .pinned], laidTests := true, laidLooks := .later }
def FnExactTrimGainCardSaid : Prop := Claim7.holds Tryz.pinned (.plain (OpenSpec.ofChange fnExactTrimGainSpec)) fnExactTrimGainCard

/-- THE TIED CARD OF 'laws.FnExactVowImage'. -/
def fnExactVowImageCard : Claim7 := { stood := { row := fnExactVowImageRow, standIns := [], harness := (true, "20aa9a601554909061a069c99b5c7650a88b66e5cf405ac6c21d589ad31280bb"), looks := true }, kinds := [], alts := [], laidByText := true, laidKinds := [.data, .data, .data, .data, .sentinel, .sentinel, .widerDeep, .widerDeep, .widerDeep, .pinned], laidTests := true, laidLooks := .later }
def FnExactVowImageCardSaid : Prop := Claim7.holds Tryz.pinned (.plain (OpenSpec.ofChange fnExactVowImageSpec)) fnExactVowImageCard

/-- THE SECOND FORM's CARD OF 'laws.FnExactTrimLog'. -/
def fnExactTrimLogUptoCard : Claim7 := { stood := { row := fnExactTrimLogUptoRow, standIns := [], harness := (true, "20aa9a601554909061a069c99b5c7650a88b66e5cf405ac6c21d589ad31280bb"), looks := true }, kinds := [], alts := [], laidByText := true, laidKinds := [.data, .data, .data, .data, .sentinel, .sentinel, .widerDeep, .widerDeep, .pinned], laidTests := true, laidLooks := .later }
def FnExactTrimLogUptoCardSaid : Prop := Claim7.holds Tryz.pinned (.plain (OpenSpec.upto fnExactTrimLogSpec)) fnExactTrimLogUptoCard

/-- THE SECOND FORM's CARD OF 'laws.FnExactTrimGain'. -/
def fnExactTrimGainUptoCard : Claim7 := { stood := { row := fnExactTrimGainUptoRow, standIns := [], harness := (true, "20aa9a601554909061a069c99b5c7650a88b66e5cf405ac6c21d589ad31280bb"), looks := true }, kinds := [], alts := [], laidByText := true, laidKinds := [.data, .data, .data, .data, .sentinel, .sentinel, .widerDeep, .widerDeep, .pinned], laidTests := true, laidLooks := .later }
def FnExactTrimGainUptoCardSaid : Prop := Claim7.holds Tryz.pinned (.plain (OpenSpec.upto fnExactTrimGainSpec)) fnExactTrimGainUptoCard

/-- THE SECOND FORM's CARD OF 'laws.FnExactVowImage'. -/
def fnExactVowImageUptoCard : Claim7 := { stood := { row := fnExactVowImageUptoRow, standIns := [], harness := (true, "20aa9a601554909061a069c99b5c7650a88b66e5cf405ac6c21d589ad31280bb"), looks := true }, kinds := [], alts := [], laidByText := true, laidKinds := [.data, .data, .data, .data, .sentinel, .sentinel, .widerDeep, .widerDeep, .widerDeep, .pinned], laidTests := true, laidLooks := .later }
def FnExactVowImageUptoCardSaid : Prop := Claim7.holds Tryz.pinned (.plain (OpenSpec.upto fnExactVowImageSpec)) fnExactVowImageUptoCard
end Rows
end Go.Proofs.YtkgkoolfobmfnaaGreatDoor
