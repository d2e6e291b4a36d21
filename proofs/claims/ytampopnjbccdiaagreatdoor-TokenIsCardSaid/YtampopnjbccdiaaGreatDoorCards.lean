/-
  DERIVED. GIVEN WITH THE SEED: THE CARDS: each row of YtampopnjbccdiaaGreatDoorRows.lean that lists a variable, with what it lists TIED to the program's text (the seventh form; the later family's looks); each row that meets fmt, with fmt's text TOLD by the authors' own Lean function (tested against real Go, not proved from fmt's source: count such statements apart). THE CARD IS WHAT COUNTS. Prove the row's statement (the work); the ties are given (YtampopnjbccdiaaGreatDoorTie.lean); close each card by the builder's one call (the guide's Derived/Test/ToyasCard.lean, 'card_holds'). Laid BY PROGRAM, IN A SANDBOX (cutbox-door.mjs). By AI agents, Wed Nov 11 2026. No macro, syntax, notation, axiom, sorry.
-/
import Derived.Test.YtampopnjbccdiaaGreatDoorRows
import GoSem.ClaimSeven
namespace Go.Proofs.YtampopnjbccdiaaGreatDoor
namespace Rows

/-- THE TIED CARD OF 'pantlerlaw24.TokenIs'. -/
def tokenIsCard : Claim7 := { stood := { row := tokenIsRow, standIns := [], harness := (true, "f48cff0c1cddbf6765bff4e7df417194eca76cc012b363e96db166fdf56467c5"), looks := true }, kinds := [], alts := [], laidByText := true, laidKinds := [.data, .data, .data, .sentinel, .sentinel], laidTests := true, laidLooks := .later }
def TokenIsCardSaid : Prop := Claim7.holds Tryz.pinned (.plain (OpenSpec.ofChange tokenIsSpec)) tokenIsCard

/-- THE SECOND FORM's CARD OF 'pantlerlaw24.TokenIs'. -/
def tokenIsUptoCard : Claim7 := { stood := { row := tokenIsUptoRow, standIns := [], harness := (true, "f48cff0c1cddbf6765bff4e7df417194eca76cc012b363e96db166fdf56467c5"), looks := true }, kinds := [], alts := [], laidByText := true, laidKinds := [.data, .data, .data, .sentinel, .sentinel], laidTests := true, laidLooks := .later }
def TokenIsUptoCardSaid : Prop := Claim7.holds Tryz.pinned (.plain (OpenSpec.upto tokenIsSpec)) tokenIsUptoCard
end Rows
end Go.Proofs.YtampopnjbccdiaaGreatDoor
