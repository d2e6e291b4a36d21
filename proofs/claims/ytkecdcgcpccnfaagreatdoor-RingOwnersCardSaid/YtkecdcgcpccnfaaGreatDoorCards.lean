/-
  DERIVED. GIVEN WITH THE SEED: THE CARDS: each row of YtkecdcgcpccnfaaGreatDoorRows.lean that lists a variable, with what it lists TIED to the program's text (the seventh form; the later family's looks); each row that meets fmt, with fmt's text TOLD by the authors' own Lean function (tested against real Go, not proved from fmt's source: count such statements apart). THE CARD IS WHAT COUNTS. Prove the row's statement (the work); the ties are given (YtkecdcgcpccnfaaGreatDoorTie.lean); close each card by the builder's one call (the guide's Derived/Test/ToyasCard.lean, 'card_holds'). Laid BY PROGRAM, IN A SANDBOX (cutbox-door.mjs). By AI agents, Wed Nov 11 2026. No macro, syntax, notation, axiom, sorry.
-/
import Derived.Test.YtkecdcgcpccnfaaGreatDoorRows
import GoSem.ClaimSeven
namespace Go.Proofs.YtkecdcgcpccnfaaGreatDoor
namespace Rows

/-- THE TIED CARD OF 'pantlerlaw14.RingOwners'. -/
def ringOwnersCard : Claim7 := { stood := { row := ringOwnersRow, standIns := [], harness := (true, "82b2a20ac0281921b5a0afa3e961f45311b19fd9f1fdde884e6f4c96a4f6bbc8"), looks := false }, kinds := [], alts := [], laidByText := true, laidKinds := [.data, .data, .data], laidTests := true, laidLooks := .later }
def RingOwnersCardSaid : Prop := Claim7.holds Tryz.pinned (.plain (OpenSpec.ofChange ringOwnersSpec)) ringOwnersCard

/-- THE SECOND FORM's CARD OF 'pantlerlaw14.RingOwners'. -/
def ringOwnersUptoCard : Claim7 := { stood := { row := ringOwnersUptoRow, standIns := [], harness := (true, "82b2a20ac0281921b5a0afa3e961f45311b19fd9f1fdde884e6f4c96a4f6bbc8"), looks := false }, kinds := [], alts := [], laidByText := true, laidKinds := [.data, .data, .data], laidTests := true, laidLooks := .later }
def RingOwnersUptoCardSaid : Prop := Claim7.holds Tryz.pinned (.plain (OpenSpec.upto ringOwnersSpec)) ringOwnersUptoCard
end Rows
end Go.Proofs.YtkecdcgcpccnfaaGreatDoor
