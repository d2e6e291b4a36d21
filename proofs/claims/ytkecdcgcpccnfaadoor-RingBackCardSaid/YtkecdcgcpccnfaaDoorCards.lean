/-
  DERIVED. GIVEN WITH THE SEED: THE CARDS: each row of YtkecdcgcpccnfaaDoorRows.lean that lists a variable, with what it lists TIED to the program's text (the seventh form; the later family's looks); each row that meets fmt, with fmt's text TOLD by the authors' own Lean function (tested against real Go, not proved from fmt's source: count such statements apart). THE CARD IS WHAT COUNTS. Prove the row's statement (the work); the ties are given (YtkecdcgcpccnfaaDoorTie.lean); close each card by the builder's one call (the guide's Derived/Test/ToyasCard.lean, 'card_holds'). Laid BY PROGRAM, IN A SANDBOX (cutbox-door.mjs). By AI agents, Wed Nov 11 2026. No macro, syntax, notation, axiom, sorry.
-/
import Derived.Test.YtkecdcgcpccnfaaDoorRows
import GoSem.ClaimSeven
namespace Go.Proofs.YtkecdcgcpccnfaaDoor
namespace Rows

/-- THE TIED CARD OF 'pantlerlaw14.RingPart'. -/
def ringPartCard : Claim7 := { stood := { row := ringPartRow, standIns := [], harness := (true, "bee045543de78bade6e64e3a756f2e42d88bed6416ae7af7157b56c89c184c70"), looks := false }, kinds := [], alts := [], laidByText := true, laidKinds := [.data, .data, .data], laidTests := true, laidLooks := .later }
def RingPartCardSaid : Prop := Claim7.holds Tryd.pinned (.plain (OpenSpec.ofChange ringPartSpec)) ringPartCard

/-- THE TIED CARD OF 'pantlerlaw14.RingBack'. -/
def ringBackCard : Claim7 := { stood := { row := ringBackRow, standIns := [], harness := (true, "bee045543de78bade6e64e3a756f2e42d88bed6416ae7af7157b56c89c184c70"), looks := false }, kinds := [], alts := [], laidByText := true, laidKinds := [.data, .data, .data], laidTests := true, laidLooks := .later }
def RingBackCardSaid : Prop := Claim7.holds Tryd.pinned (.plain (OpenSpec.ofChange ringBackSpec)) ringBackCard

/-- THE SECOND FORM's CARD OF 'pantlerlaw14.RingPart'. -/
def ringPartUptoCard : Claim7 := { stood := { row := ringPartUptoRow, standIns := [], harness := (true, "bee045543de78bade6e64e3a756f2e42d88bed6416ae7af7157b56c89c184c70"), looks := false }, kinds := [], alts := [], laidByText := true, laidKinds := [.data, .data, .data], laidTests := true, laidLooks := .later }
def RingPartUptoCardSaid : Prop := Claim7.holds Tryd.pinned (.plain (OpenSpec.upto ringPartSpec)) ringPartUptoCard

/-- THE SECOND FORM's CARD OF 'pantlerlaw14.RingBack'. -/
def ringBackUptoCard : Claim7 := { stood := { row := ringBackUptoRow, standIns := [], harness := (true, "bee045543de78bade6e64e3a756f2e42d88bed6416ae7af7157b56c89c184c70"), looks := false }, kinds := [], alts := [], laidByText := true, laidKinds := [.data, .data, .data], laidTests := true, laidLooks := .later }
def RingBackUptoCardSaid : Prop := Claim7.holds Tryd.pinned (.plain (OpenSpec.upto ringBackSpec)) ringBackUptoCard
end Rows
end Go.Proofs.YtkecdcgcpccnfaaDoor
