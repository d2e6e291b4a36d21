/-
  DERIVED. GIVEN WITH THE SEED: THE CARDS: each row of YtgghplnoelkhlaaDoorRows.lean that lists a variable, with what it lists TIED to the program's text (the seventh form; the later family's looks); each row that meets fmt, with fmt's text TOLD by the authors' own Lean function (tested against real Go, not proved from fmt's source: count such statements apart). THE CARD IS WHAT COUNTS. Prove the row's statement (the work); the ties are given (YtgghplnoelkhlaaDoorTie.lean); close each card by the builder's one call (the guide's Derived/Test/ToyasCard.lean, 'card_holds'). Laid BY PROGRAM, IN A SANDBOX (cutbox-door.mjs). By AI agents, Wed Nov 11 2026. No macro, syntax, notation, axiom, sorry.
-/
import Derived.Test.YtgghplnoelkhlaaDoorRows
import GoSem.ClaimSeven
namespace Go.Proofs.YtgghplnoelkhlaaDoor
namespace Rows

/-- THE TIED CARD OF 'pantlerlaw21.PropsOf'. -/
def propsOfCard : Claim7 := { stood := { row := propsOfRow, standIns := [], harness := (true, "c6c997dbc8275405d5365c4855ec212cf61770373e55af4e672f8012c68c8c8b"), looks := true }, kinds := [], alts := [], laidByText := true, laidKinds := [.data, .data, .data, .sentinel, .sentinel], laidTests := true, laidLooks := .later }
def PropsOfCardSaid : Prop := Claim7.holds Tryd.pinned (.plain (OpenSpec.ofChange propsOfSpec)) propsOfCard

/-- THE TIED CARD OF 'pantlerlaw21.PropsSet'. -/
def propsSetCard : Claim7 := { stood := { row := propsSetRow, standIns := [], harness := (true, "c6c997dbc8275405d5365c4855ec212cf61770373e55af4e672f8012c68c8c8b"), looks := true }, kinds := [], alts := [], laidByText := true, laidKinds := [.data, .data, .data, .sentinel, .sentinel], laidTests := true, laidLooks := .later }
def PropsSetCardSaid : Prop := Claim7.holds Tryd.pinned (.plain (OpenSpec.ofChange propsSetSpec)) propsSetCard

/-- THE TIED CARD OF 'pantlerlaw21.PropsMay'. -/
def propsMayCard : Claim7 := { stood := { row := propsMayRow, standIns := [], harness := (true, "c6c997dbc8275405d5365c4855ec212cf61770373e55af4e672f8012c68c8c8b"), looks := true }, kinds := [], alts := [], laidByText := true, laidKinds := [.data, .data, .data, .sentinel, .sentinel], laidTests := true, laidLooks := .later }
def PropsMayCardSaid : Prop := Claim7.holds Tryd.pinned (.plain (OpenSpec.ofChange propsMaySpec)) propsMayCard

/-- THE TIED CARD OF 'pantlerlaw21.PropsSound'. -/
def propsSoundCard : Claim7 := { stood := { row := propsSoundRow, standIns := [], harness := (true, "c6c997dbc8275405d5365c4855ec212cf61770373e55af4e672f8012c68c8c8b"), looks := true }, kinds := [], alts := [], laidByText := true, laidKinds := [.data, .data, .data, .sentinel, .sentinel], laidTests := true, laidLooks := .later }
def PropsSoundCardSaid : Prop := Claim7.holds Tryd.pinned (.plain (OpenSpec.ofChange propsSoundSpec)) propsSoundCard

/-- THE SECOND FORM's CARD OF 'pantlerlaw21.PropsOf'. -/
def propsOfUptoCard : Claim7 := { stood := { row := propsOfUptoRow, standIns := [], harness := (true, "c6c997dbc8275405d5365c4855ec212cf61770373e55af4e672f8012c68c8c8b"), looks := true }, kinds := [], alts := [], laidByText := true, laidKinds := [.data, .data, .data, .sentinel, .sentinel], laidTests := true, laidLooks := .later }
def PropsOfUptoCardSaid : Prop := Claim7.holds Tryd.pinned (.plain (OpenSpec.upto propsOfSpec)) propsOfUptoCard

/-- THE SECOND FORM's CARD OF 'pantlerlaw21.PropsSet'. -/
def propsSetUptoCard : Claim7 := { stood := { row := propsSetUptoRow, standIns := [], harness := (true, "c6c997dbc8275405d5365c4855ec212cf61770373e55af4e672f8012c68c8c8b"), looks := true }, kinds := [], alts := [], laidByText := true, laidKinds := [.data, .data, .data, .sentinel, .sentinel], laidTests := true, laidLooks := .later }
def PropsSetUptoCardSaid : Prop := Claim7.holds Tryd.pinned (.plain (OpenSpec.upto propsSetSpec)) propsSetUptoCard

/-- THE SECOND FORM's CARD OF 'pantlerlaw21.PropsMay'. -/
def propsMayUptoCard : Claim7 := { stood := { row := propsMayUptoRow, standIns := [], harness := (true, "c6c997dbc8275405d5365c4855ec212cf61770373e55af4e672f8012c68c8c8b"), looks := true }, kinds := [], alts := [], laidByText := true, laidKinds := [.data, .data, .data, .sentinel, .sentinel], laidTests := true, laidLooks := .later }
def PropsMayUptoCardSaid : Prop := Claim7.holds Tryd.pinned (.plain (OpenSpec.upto propsMaySpec)) propsMayUptoCard

/-- THE SECOND FORM's CARD OF 'pantlerlaw21.PropsSound'. -/
def propsSoundUptoCard : Claim7 := { stood := { row := propsSoundUptoRow, standIns := [], harness := (true, "c6c997dbc8275405d5365c4855ec212cf61770373e55af4e672f8012c68c8c8b"), looks := true }, kinds := [], alts := [], laidByText := true, laidKinds := [.data, .data, .data, .sentinel, .sentinel], laidTests := true, laidLooks := .later }
def PropsSoundUptoCardSaid : Prop := Claim7.holds Tryd.pinned (.plain (OpenSpec.upto propsSoundSpec)) propsSoundUptoCard
end Rows
end Go.Proofs.YtgghplnoelkhlaaDoor
