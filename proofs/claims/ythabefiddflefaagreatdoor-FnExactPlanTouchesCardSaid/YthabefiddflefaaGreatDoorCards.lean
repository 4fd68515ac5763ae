/-
  DERIVED. GIVEN WITH THE SEED: THE CARDS: each row of YthabefiddflefaaGreatDoorRows.lean that lists a variable, with what it lists TIED to the program's text (the seventh form; the later family's looks); each row that meets fmt, with fmt's text TOLD by the authors' own Lean function (tested against real Go, not proved from fmt's source: count such statements apart). THE CARD IS WHAT COUNTS. Prove the row's statement (the work); the ties are given (YthabefiddflefaaGreatDoorTie.lean); close each card by the builder's one call (the guide's Derived/Test/ToyasCard.lean, 'card_holds'). Laid BY PROGRAM, IN A SANDBOX (cutbox-door.mjs). By AI agents, Wed Nov 11 2026. No macro, syntax, notation, axiom, sorry.
-/
import Derived.Test.YthabefiddflefaaGreatDoorRows
import GoSem.ClaimSeven
namespace Go.Proofs.YthabefiddflefaaGreatDoor
namespace Rows

/-- THE TIED CARD OF 'laws.FnExactPlanTouches'. -/
def fnExactPlanTouchesCard : Claim7 := { stood := { row := fnExactPlanTouchesRow, standIns := [], harness := (true, "5bc35ceffc753e9fe6a5f378a5fc25f3e9dcced07480f24326377a1c12042781"), looks := true }, kinds := [], alts := [], laidByText := true, laidKinds := [.data, .data, .data, .sentinel, .sentinel, .widerDeep], laidTests := true, laidLooks := .later }
def FnExactPlanTouchesCardSaid : Prop := Claim7.holds Tryz.pinned (.plain (OpenSpec.ofChange fnExactPlanTouchesSpec)) fnExactPlanTouchesCard

/-- THE TIED CARD OF 'laws.FnExactPlanFaces'. -/
def fnExactPlanFacesCard : Claim7 := { stood := { row := fnExactPlanFacesRow, standIns := [], harness := (true, "5bc35ceffc753e9fe6a5f378a5fc25f3e9dcced07480f24326377a1c12042781"), looks := true }, kinds := [], alts := [], laidByText := true, laidKinds := [.data, .data, .data, .sentinel, .sentinel, .widerDeep], laidTests := true, laidLooks := .later }
def FnExactPlanFacesCardSaid : Prop := Claim7.holds Tryz.pinned (.plain (OpenSpec.ofChange fnExactPlanFacesSpec)) fnExactPlanFacesCard

/-- THE SECOND FORM's CARD OF 'laws.FnExactPlanTouches'. -/
def fnExactPlanTouchesUptoCard : Claim7 := { stood := { row := fnExactPlanTouchesUptoRow, standIns := [], harness := (true, "5bc35ceffc753e9fe6a5f378a5fc25f3e9dcced07480f24326377a1c12042781"), looks := true }, kinds := [], alts := [], laidByText := true, laidKinds := [.data, .data, .data, .sentinel, .sentinel, .widerDeep], laidTests := true, laidLooks := .later }
def FnExactPlanTouchesUptoCardSaid : Prop := Claim7.holds Tryz.pinned (.plain (OpenSpec.upto fnExactPlanTouchesSpec)) fnExactPlanTouchesUptoCard

/-- THE SECOND FORM's CARD OF 'laws.FnExactPlanFaces'. -/
def fnExactPlanFacesUptoCard : Claim7 := { stood := { row := fnExactPlanFacesUptoRow, standIns := [], harness := (true, "5bc35ceffc753e9fe6a5f378a5fc25f3e9dcced07480f24326377a1c12042781"), looks := true }, kinds := [], alts := [], laidByText := true, laidKinds := [.data, .data, .data, .sentinel, .sentinel, .widerDeep], laidTests := true, laidLooks := .later }
def FnExactPlanFacesUptoCardSaid : Prop := Claim7.holds Tryz.pinned (.plain (OpenSpec.upto fnExactPlanFacesSpec)) fnExactPlanFacesUptoCard
end Rows
end Go.Proofs.YthabefiddflefaaGreatDoor
