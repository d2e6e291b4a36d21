/-
  DERIVED. GIVEN WITH THE SEED: THE CARDS: each row of YtampopnjbccdiaaDoorRows.lean that lists a variable, with what it lists TIED to the program's text (the seventh form; the later family's looks); each row that meets fmt, with fmt's text TOLD by the authors' own Lean function (tested against real Go, not proved from fmt's source: count such statements apart). THE CARD IS WHAT COUNTS. Prove the row's statement (the work); the ties are given (YtampopnjbccdiaaDoorTie.lean); close each card by the builder's one call (the guide's Derived/Test/ToyasCard.lean, 'card_holds'). Laid BY PROGRAM, IN A SANDBOX (cutbox-door.mjs). By AI agents, Wed Nov 11 2026. No macro, syntax, notation, axiom, sorry.
-/
import Derived.Test.YtampopnjbccdiaaDoorRows
import GoSem.ClaimSeven
namespace Go.Proofs.YtampopnjbccdiaaDoor
namespace Rows

/-- THE TIED CARD OF 'pantlerlaw24.TokenGood'. -/
def tokenGoodCard : Claim7 := { stood := { row := tokenGoodRow, standIns := [], harness := (true, "a1d6b4be139f847f73273b3a370266cf6929e9590168cd19dd7f98837c518f9c"), looks := true }, kinds := [], alts := [], laidByText := true, laidKinds := [.data, .data, .data, .sentinel, .sentinel], laidTests := true, laidLooks := .later }
def TokenGoodCardSaid : Prop := Claim7.holds Tryd.pinned (.plain (OpenSpec.ofChange tokenGoodSpec)) tokenGoodCard

/-- THE TIED CARD OF 'pantlerlaw24.TokenChanged'. -/
def tokenChangedCard : Claim7 := { stood := { row := tokenChangedRow, standIns := [], harness := (true, "a1d6b4be139f847f73273b3a370266cf6929e9590168cd19dd7f98837c518f9c"), looks := true }, kinds := [], alts := [], laidByText := true, laidKinds := [.data, .data, .data, .sentinel, .sentinel], laidTests := true, laidLooks := .later }
def TokenChangedCardSaid : Prop := Claim7.holds Tryd.pinned (.plain (OpenSpec.ofChange tokenChangedSpec)) tokenChangedCard

/-- THE SECOND FORM's CARD OF 'pantlerlaw24.TokenGood'. -/
def tokenGoodUptoCard : Claim7 := { stood := { row := tokenGoodUptoRow, standIns := [], harness := (true, "a1d6b4be139f847f73273b3a370266cf6929e9590168cd19dd7f98837c518f9c"), looks := true }, kinds := [], alts := [], laidByText := true, laidKinds := [.data, .data, .data, .sentinel, .sentinel], laidTests := true, laidLooks := .later }
def TokenGoodUptoCardSaid : Prop := Claim7.holds Tryd.pinned (.plain (OpenSpec.upto tokenGoodSpec)) tokenGoodUptoCard

/-- THE SECOND FORM's CARD OF 'pantlerlaw24.TokenChanged'. -/
def tokenChangedUptoCard : Claim7 := { stood := { row := tokenChangedUptoRow, standIns := [], harness := (true, "a1d6b4be139f847f73273b3a370266cf6929e9590168cd19dd7f98837c518f9c"), looks := true }, kinds := [], alts := [], laidByText := true, laidKinds := [.data, .data, .data, .sentinel, .sentinel], laidTests := true, laidLooks := .later }
def TokenChangedUptoCardSaid : Prop := Claim7.holds Tryd.pinned (.plain (OpenSpec.upto tokenChangedSpec)) tokenChangedUptoCard
end Rows
end Go.Proofs.YtampopnjbccdiaaDoor
