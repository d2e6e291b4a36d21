/-
  DERIVED. GIVEN WITH THE SEED: THE CARDS: each row of YtgohkhbmpmefoaaDoorRows.lean that lists a variable, with what it lists TIED to the program's text (the seventh form; the later family's looks); each row that meets fmt, with fmt's text TOLD by the authors' own Lean function (tested against real Go, not proved from fmt's source: count such statements apart). THE CARD IS WHAT COUNTS. Prove the row's statement (the work); the ties are given (YtgohkhbmpmefoaaDoorTie.lean); close each card by the builder's one call (the guide's Derived/Test/ToyasCard.lean, 'card_holds'). Laid BY PROGRAM, IN A SANDBOX (cutbox-door.mjs). By AI agents, Wed Nov 11 2026. No macro, syntax, notation, axiom, sorry.
-/
import Derived.Test.YtgohkhbmpmefoaaDoorRows
import GoSem.ClaimSeven
namespace Go.Proofs.YtgohkhbmpmefoaaDoor
namespace Rows

/-- THE TIED CARD OF 'pantlerlaw13.TopoTells'. -/
def topoTellsCard : Claim7 := { stood := { row := topoTellsRow, standIns := [], harness := (true, "6d5906662f55bc4695de93782352f45d107318e86c76dac18cd8184266a978c0"), looks := true }, kinds := [], alts := [], laidByText := true, laidKinds := [.data, .pinned], laidTests := true, laidLooks := .later }
def TopoTellsCardSaid : Prop := Claim7.holds Tryd.pinned (.plain (OpenSpec.ofChange topoTellsSpec)) topoTellsCard

/-- THE TIED CARD OF 'pantlerlaw13.TopoSets'. -/
def topoSetsCard : Claim7 := { stood := { row := topoSetsRow, standIns := [], harness := (true, "6d5906662f55bc4695de93782352f45d107318e86c76dac18cd8184266a978c0"), looks := true }, kinds := [], alts := [], laidByText := true, laidKinds := [.data, .pinned], laidTests := true, laidLooks := .later }
def TopoSetsCardSaid : Prop := Claim7.holds Tryd.pinned (.plain (OpenSpec.ofChange topoSetsSpec)) topoSetsCard

/-- THE TIED CARD OF 'pantlerlaw13.TopoBack'. -/
def topoBackCard : Claim7 := { stood := { row := topoBackRow, standIns := [], harness := (true, "6d5906662f55bc4695de93782352f45d107318e86c76dac18cd8184266a978c0"), looks := true }, kinds := [], alts := [], laidByText := true, laidKinds := [.data, .pinned], laidTests := true, laidLooks := .later }
def TopoBackCardSaid : Prop := Claim7.holds Tryd.pinned (.plain (OpenSpec.ofChange topoBackSpec)) topoBackCard

/-- THE TIED CARD OF 'pantlerlaw05.NameIs'. -/
def nameIsCard : Claim7 := { stood := { row := nameIsRow, standIns := [], harness := (true, "6d5906662f55bc4695de93782352f45d107318e86c76dac18cd8184266a978c0"), looks := true }, kinds := [], alts := [], laidByText := true, laidKinds := [.data, .data, .data, .data, .sentinel, .sentinel, .pinned], laidTests := true, laidLooks := .later }
def NameIsCardSaid : Prop := Claim7.holds Tryd.pinned (.plain (OpenSpec.ofChange nameIsSpec)) nameIsCard

/-- THE TIED CARD OF 'pantlerlaw05.NamePlaces'. -/
def namePlacesCard : Claim7 := { stood := { row := namePlacesRow, standIns := [], harness := (true, "6d5906662f55bc4695de93782352f45d107318e86c76dac18cd8184266a978c0"), looks := true }, kinds := [], alts := [], laidByText := true, laidKinds := [.data, .data, .data, .data, .sentinel, .sentinel, .pinned], laidTests := true, laidLooks := .later }
def NamePlacesCardSaid : Prop := Claim7.holds Tryd.pinned (.plain (OpenSpec.ofChange namePlacesSpec)) namePlacesCard

/-- THE TIED CARD OF 'pantlerlaw05.NameNumbers'. -/
def nameNumbersCard : Claim7 := { stood := { row := nameNumbersRow, standIns := [], harness := (true, "6d5906662f55bc4695de93782352f45d107318e86c76dac18cd8184266a978c0"), looks := true }, kinds := [], alts := [], laidByText := true, laidKinds := [.data, .data, .data, .data, .sentinel, .sentinel, .pinned], laidTests := true, laidLooks := .later }
def NameNumbersCardSaid : Prop := Claim7.holds Tryd.pinned (.plain (OpenSpec.ofChange nameNumbersSpec)) nameNumbersCard

/-- THE SECOND FORM's CARD OF 'pantlerlaw13.TopoTells'. -/
def topoTellsUptoCard : Claim7 := { stood := { row := topoTellsUptoRow, standIns := [], harness := (true, "6d5906662f55bc4695de93782352f45d107318e86c76dac18cd8184266a978c0"), looks := true }, kinds := [], alts := [], laidByText := true, laidKinds := [.data, .pinned], laidTests := true, laidLooks := .later }
def TopoTellsUptoCardSaid : Prop := Claim7.holds Tryd.pinned (.plain (OpenSpec.upto topoTellsSpec)) topoTellsUptoCard

/-- THE SECOND FORM's CARD OF 'pantlerlaw13.TopoSets'. -/
def topoSetsUptoCard : Claim7 := { stood := { row := topoSetsUptoRow, standIns := [], harness := (true, "6d5906662f55bc4695de93782352f45d107318e86c76dac18cd8184266a978c0"), looks := true }, kinds := [], alts := [], laidByText := true, laidKinds := [.data, .pinned], laidTests := true, laidLooks := .later }
def TopoSetsUptoCardSaid : Prop := Claim7.holds Tryd.pinned (.plain (OpenSpec.upto topoSetsSpec)) topoSetsUptoCard

/-- THE SECOND FORM's CARD OF 'pantlerlaw13.TopoBack'. -/
def topoBackUptoCard : Claim7 := { stood := { row := topoBackUptoRow, standIns := [], harness := (true, "6d5906662f55bc4695de93782352f45d107318e86c76dac18cd8184266a978c0"), looks := true }, kinds := [], alts := [], laidByText := true, laidKinds := [.data, .pinned], laidTests := true, laidLooks := .later }
def TopoBackUptoCardSaid : Prop := Claim7.holds Tryd.pinned (.plain (OpenSpec.upto topoBackSpec)) topoBackUptoCard

/-- THE SECOND FORM's CARD OF 'pantlerlaw05.NameIs'. -/
def nameIsUptoCard : Claim7 := { stood := { row := nameIsUptoRow, standIns := [], harness := (true, "6d5906662f55bc4695de93782352f45d107318e86c76dac18cd8184266a978c0"), looks := true }, kinds := [], alts := [], laidByText := true, laidKinds := [.data, .data, .data, .data, .sentinel, .sentinel, .pinned], laidTests := true, laidLooks := .later }
def NameIsUptoCardSaid : Prop := Claim7.holds Tryd.pinned (.plain (OpenSpec.upto nameIsSpec)) nameIsUptoCard

/-- THE SECOND FORM's CARD OF 'pantlerlaw05.NamePlaces'. -/
def namePlacesUptoCard : Claim7 := { stood := { row := namePlacesUptoRow, standIns := [], harness := (true, "6d5906662f55bc4695de93782352f45d107318e86c76dac18cd8184266a978c0"), looks := true }, kinds := [], alts := [], laidByText := true, laidKinds := [.data, .data, .data, .data, .sentinel, .sentinel, .pinned], laidTests := true, laidLooks := .later }
def NamePlacesUptoCardSaid : Prop := Claim7.holds Tryd.pinned (.plain (OpenSpec.upto namePlacesSpec)) namePlacesUptoCard

/-- THE SECOND FORM's CARD OF 'pantlerlaw05.NameNumbers'. -/
def nameNumbersUptoCard : Claim7 := { stood := { row := nameNumbersUptoRow, standIns := [], harness := (true, "6d5906662f55bc4695de93782352f45d107318e86c76dac18cd8184266a978c0"), looks := true }, kinds := [], alts := [], laidByText := true, laidKinds := [.data, .data, .data, .data, .sentinel, .sentinel, .pinned], laidTests := true, laidLooks := .later }
def NameNumbersUptoCardSaid : Prop := Claim7.holds Tryd.pinned (.plain (OpenSpec.upto nameNumbersSpec)) nameNumbersUptoCard
end Rows
end Go.Proofs.YtgohkhbmpmefoaaDoor
