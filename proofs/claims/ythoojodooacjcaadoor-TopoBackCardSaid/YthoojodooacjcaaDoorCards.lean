/-
  DERIVED. GIVEN WITH THE SEED: THE CARDS: each row of YthoojodooacjcaaDoorRows.lean that lists a variable, with what it lists TIED to the program's text (the seventh form; the later family's looks); each row that meets fmt, with fmt's text TOLD by the authors' own Lean function (tested against real Go, not proved from fmt's source: count such statements apart). THE CARD IS WHAT COUNTS. Prove the row's statement (the work); the ties are given (YthoojodooacjcaaDoorTie.lean); close each card by the builder's one call (the guide's Derived/Test/ToyasCard.lean, 'card_holds'). Laid BY PROGRAM, IN A SANDBOX (cutbox-door.mjs). By AI agents, Wed Nov 11 2026. No macro, syntax, notation, axiom, sorry.
-/
import Derived.Test.YthoojodooacjcaaDoorRows
import GoSem.ClaimSeven
namespace Go.Proofs.YthoojodooacjcaaDoor
namespace Rows

/-- THE TIED CARD OF 'pantlerlaw13.TopoTells'. -/
def topoTellsCard : Claim7 := { stood := { row := topoTellsRow, standIns := [], harness := (true, "6a6143d4a2a88b8a0ad3b21713c33d66d9404d065f7567364ed7fec2fa348b7c"), looks := false }, kinds := [], alts := [], laidByText := true, laidKinds := [.data, .pinned], laidTests := true, laidLooks := .later }
def TopoTellsCardSaid : Prop := Claim7.holds Tryd.pinned (.plain (OpenSpec.ofChange topoTellsSpec)) topoTellsCard

/-- THE TIED CARD OF 'pantlerlaw13.TopoSets'. -/
def topoSetsCard : Claim7 := { stood := { row := topoSetsRow, standIns := [], harness := (true, "6a6143d4a2a88b8a0ad3b21713c33d66d9404d065f7567364ed7fec2fa348b7c"), looks := false }, kinds := [], alts := [], laidByText := true, laidKinds := [.data, .pinned], laidTests := true, laidLooks := .later }
def TopoSetsCardSaid : Prop := Claim7.holds Tryd.pinned (.plain (OpenSpec.ofChange topoSetsSpec)) topoSetsCard

/-- THE TIED CARD OF 'pantlerlaw13.TopoBack'. -/
def topoBackCard : Claim7 := { stood := { row := topoBackRow, standIns := [], harness := (true, "6a6143d4a2a88b8a0ad3b21713c33d66d9404d065f7567364ed7fec2fa348b7c"), looks := false }, kinds := [], alts := [], laidByText := true, laidKinds := [.data, .pinned], laidTests := true, laidLooks := .later }
def TopoBackCardSaid : Prop := Claim7.holds Tryd.pinned (.plain (OpenSpec.ofChange topoBackSpec)) topoBackCard

/-- THE SECOND FORM's CARD OF 'pantlerlaw13.TopoTells'. -/
def topoTellsUptoCard : Claim7 := { stood := { row := topoTellsUptoRow, standIns := [], harness := (true, "6a6143d4a2a88b8a0ad3b21713c33d66d9404d065f7567364ed7fec2fa348b7c"), looks := false }, kinds := [], alts := [], laidByText := true, laidKinds := [.data, .pinned], laidTests := true, laidLooks := .later }
def TopoTellsUptoCardSaid : Prop := Claim7.holds Tryd.pinned (.plain (OpenSpec.upto topoTellsSpec)) topoTellsUptoCard

/-- THE SECOND FORM's CARD OF 'pantlerlaw13.TopoSets'. -/
def topoSetsUptoCard : Claim7 := { stood := { row := topoSetsUptoRow, standIns := [], harness := (true, "6a6143d4a2a88b8a0ad3b21713c33d66d9404d065f7567364ed7fec2fa348b7c"), looks := false }, kinds := [], alts := [], laidByText := true, laidKinds := [.data, .pinned], laidTests := true, laidLooks := .later }
def TopoSetsUptoCardSaid : Prop := Claim7.holds Tryd.pinned (.plain (OpenSpec.upto topoSetsSpec)) topoSetsUptoCard

/-- THE SECOND FORM's CARD OF 'pantlerlaw13.TopoBack'. -/
def topoBackUptoCard : Claim7 := { stood := { row := topoBackUptoRow, standIns := [], harness := (true, "6a6143d4a2a88b8a0ad3b21713c33d66d9404d065f7567364ed7fec2fa348b7c"), looks := false }, kinds := [], alts := [], laidByText := true, laidKinds := [.data, .pinned], laidTests := true, laidLooks := .later }
def TopoBackUptoCardSaid : Prop := Claim7.holds Tryd.pinned (.plain (OpenSpec.upto topoBackSpec)) topoBackUptoCard
end Rows
end Go.Proofs.YthoojodooacjcaaDoor
