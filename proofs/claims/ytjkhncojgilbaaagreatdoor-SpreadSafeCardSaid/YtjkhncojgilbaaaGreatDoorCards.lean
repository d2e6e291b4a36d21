/-
  DERIVED. GIVEN WITH THE SEED: THE CARDS: each row of YtjkhncojgilbaaaGreatDoorRows.lean that lists a variable, with what it lists TIED to the program's text (the seventh form; the later family's looks); each row that meets fmt, with fmt's text TOLD by the authors' own Lean function (tested against real Go, not proved from fmt's source: count such statements apart). THE CARD IS WHAT COUNTS. Prove the row's statement (the work); the ties are given (YtjkhncojgilbaaaGreatDoorTie.lean); close each card by the builder's one call (the guide's Derived/Test/ToyasCard.lean, 'card_holds'). Laid BY PROGRAM, IN A SANDBOX (cutbox-door.mjs). By AI agents, Wed Nov 11 2026. No macro, syntax, notation, axiom, sorry.
-/
import Derived.Test.YtjkhncojgilbaaaGreatDoorRows
import GoSem.ClaimSeven
namespace Go.Proofs.YtjkhncojgilbaaaGreatDoor
namespace Rows

/-- THE TIED CARD OF 'pantlerlaw57.SpreadIs'. -/
def spreadIsCard : Claim7 := { stood := { row := spreadIsRow, standIns := [], harness := (true, "daa82fd4780cbda3d4b6ae98c906027b6157fd4cd5c888274da4782d269f8c63"), looks := false }, kinds := [], alts := [], laidByText := true, laidKinds := [.data, .data, .data, .data, .pinned], laidTests := true, laidLooks := .later }
def SpreadIsCardSaid : Prop := Claim7.holds Tryz.pinned (.plain (OpenSpec.ofChange spreadIsSpec)) spreadIsCard

/-- THE TIED CARD OF 'pantlerlaw57.SpreadRacks'. -/
def spreadRacksCard : Claim7 := { stood := { row := spreadRacksRow, standIns := [], harness := (true, "daa82fd4780cbda3d4b6ae98c906027b6157fd4cd5c888274da4782d269f8c63"), looks := false }, kinds := [], alts := [], laidByText := true, laidKinds := [.data, .data, .data, .data, .pinned], laidTests := true, laidLooks := .later }
def SpreadRacksCardSaid : Prop := Claim7.holds Tryz.pinned (.plain (OpenSpec.ofChange spreadRacksSpec)) spreadRacksCard

/-- THE TIED CARD OF 'pantlerlaw57.SpreadSafe'. -/
def spreadSafeCard : Claim7 := { stood := { row := spreadSafeRow, standIns := [], harness := (true, "daa82fd4780cbda3d4b6ae98c906027b6157fd4cd5c888274da4782d269f8c63"), looks := false }, kinds := [], alts := [], laidByText := true, laidKinds := [.data, .data, .data, .data, .pinned], laidTests := true, laidLooks := .later }
def SpreadSafeCardSaid : Prop := Claim7.holds Tryz.pinned (.plain (OpenSpec.ofChange spreadSafeSpec)) spreadSafeCard

/-- THE SECOND FORM's CARD OF 'pantlerlaw57.SpreadIs'. -/
def spreadIsUptoCard : Claim7 := { stood := { row := spreadIsUptoRow, standIns := [], harness := (true, "daa82fd4780cbda3d4b6ae98c906027b6157fd4cd5c888274da4782d269f8c63"), looks := false }, kinds := [], alts := [], laidByText := true, laidKinds := [.data, .data, .data, .data, .pinned], laidTests := true, laidLooks := .later }
def SpreadIsUptoCardSaid : Prop := Claim7.holds Tryz.pinned (.plain (OpenSpec.upto spreadIsSpec)) spreadIsUptoCard

/-- THE SECOND FORM's CARD OF 'pantlerlaw57.SpreadRacks'. -/
def spreadRacksUptoCard : Claim7 := { stood := { row := spreadRacksUptoRow, standIns := [], harness := (true, "daa82fd4780cbda3d4b6ae98c906027b6157fd4cd5c888274da4782d269f8c63"), looks := false }, kinds := [], alts := [], laidByText := true, laidKinds := [.data, .data, .data, .data, .pinned], laidTests := true, laidLooks := .later }
def SpreadRacksUptoCardSaid : Prop := Claim7.holds Tryz.pinned (.plain (OpenSpec.upto spreadRacksSpec)) spreadRacksUptoCard

/-- THE SECOND FORM's CARD OF 'pantlerlaw57.SpreadSafe'. -/
def spreadSafeUptoCard : Claim7 := { stood := { row := spreadSafeUptoRow, standIns := [], harness := (true, "daa82fd4780cbda3d4b6ae98c906027b6157fd4cd5c888274da4782d269f8c63"), looks := false }, kinds := [], alts := [], laidByText := true, laidKinds := [.data, .data, .data, .data, .pinned], laidTests := true, laidLooks := .later }
def SpreadSafeUptoCardSaid : Prop := Claim7.holds Tryz.pinned (.plain (OpenSpec.upto spreadSafeSpec)) spreadSafeUptoCard
end Rows
end Go.Proofs.YtjkhncojgilbaaaGreatDoor
