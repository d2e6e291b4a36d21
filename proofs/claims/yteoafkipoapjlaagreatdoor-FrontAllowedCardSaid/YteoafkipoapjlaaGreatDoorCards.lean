/-
  DERIVED. GIVEN WITH THE SEED: THE CARDS: each row of YteoafkipoapjlaaGreatDoorRows.lean that lists a variable, with what it lists TIED to the program's text (the seventh form; the later family's looks); each row that meets fmt, with fmt's text TOLD by the authors' own Lean function (tested against real Go, not proved from fmt's source: count such statements apart). THE CARD IS WHAT COUNTS. Prove the row's statement (the work); the ties are given (YteoafkipoapjlaaGreatDoorTie.lean); close each card by the builder's one call (the guide's Derived/Test/ToyasCard.lean, 'card_holds'). Laid BY PROGRAM, IN A SANDBOX (cutbox-door.mjs). By AI agents, Wed Nov 11 2026. No macro, syntax, notation, axiom, sorry.
-/
import Derived.Test.YteoafkipoapjlaaGreatDoorRows
import GoSem.ClaimSeven
namespace Go.Proofs.YteoafkipoapjlaaGreatDoor
namespace Rows

/-- THE TIED CARD OF 'pantlerlaw40.FrontIs'. -/
def frontIsCard : Claim7 := { stood := { row := frontIsRow, standIns := [], harness := (true, "ed89915359b3f9450bd4a8db0fd3b998e800ea967d33c05ea22fae11fa7f5ce4"), looks := true }, kinds := [], alts := [], laidByText := true, laidKinds := [.data, .data, .data, .sentinel, .sentinel], laidTests := true, laidLooks := .later }
def FrontIsCardSaid : Prop := Claim7.holds Tryz.pinned (.plain (OpenSpec.ofChange frontIsSpec)) frontIsCard

/-- THE TIED CARD OF 'pantlerlaw40.FrontAllowed'. -/
def frontAllowedCard : Claim7 := { stood := { row := frontAllowedRow, standIns := [], harness := (true, "ed89915359b3f9450bd4a8db0fd3b998e800ea967d33c05ea22fae11fa7f5ce4"), looks := true }, kinds := [], alts := [], laidByText := true, laidKinds := [.data, .data, .data, .sentinel, .sentinel], laidTests := true, laidLooks := .later }
def FrontAllowedCardSaid : Prop := Claim7.holds Tryz.pinned (.plain (OpenSpec.ofChange frontAllowedSpec)) frontAllowedCard

/-- THE SECOND FORM's CARD OF 'pantlerlaw40.FrontIs'. -/
def frontIsUptoCard : Claim7 := { stood := { row := frontIsUptoRow, standIns := [], harness := (true, "ed89915359b3f9450bd4a8db0fd3b998e800ea967d33c05ea22fae11fa7f5ce4"), looks := true }, kinds := [], alts := [], laidByText := true, laidKinds := [.data, .data, .data, .sentinel, .sentinel], laidTests := true, laidLooks := .later }
def FrontIsUptoCardSaid : Prop := Claim7.holds Tryz.pinned (.plain (OpenSpec.upto frontIsSpec)) frontIsUptoCard

/-- THE SECOND FORM's CARD OF 'pantlerlaw40.FrontAllowed'. -/
def frontAllowedUptoCard : Claim7 := { stood := { row := frontAllowedUptoRow, standIns := [], harness := (true, "ed89915359b3f9450bd4a8db0fd3b998e800ea967d33c05ea22fae11fa7f5ce4"), looks := true }, kinds := [], alts := [], laidByText := true, laidKinds := [.data, .data, .data, .sentinel, .sentinel], laidTests := true, laidLooks := .later }
def FrontAllowedUptoCardSaid : Prop := Claim7.holds Tryz.pinned (.plain (OpenSpec.upto frontAllowedSpec)) frontAllowedUptoCard
end Rows
end Go.Proofs.YteoafkipoapjlaaGreatDoor
