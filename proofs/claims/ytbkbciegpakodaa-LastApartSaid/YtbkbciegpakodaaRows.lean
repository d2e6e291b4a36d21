/-
  No cell of these rows narrows 'for every input' (looked for: loops, veiled, ifaces, maps, wideKeys, modest, calm, conditions, laid).
  DERIVED. THE GIVEN ROWS OF THIS SEAT. 4 by the template 'for every input the law returns true; each argument reads behind the call as it read before'; 0 by the template 'total and deterministic' (their statements: YtbkbciegpakodaaTotals.lean).
  GIVEN WITH THE SEED: the statements are not yours to turn. If you find one false, say at which input.
  Laid BY PROGRAM, IN A SANDBOX (cutbox-rows.mjs): the forced cells as the released guide's own fill.sh prints them over the translation d10ae5573f96bd9a… (all of the seat's roots in one cut). By AI agents, Wed Nov 11 2026. No macro, syntax, notation, axiom, sorry.
-/
import Derived.Test.YtbkbciegpakodaaChecked
import GoSem.Claim
import GoSem.ClaimJoined
import GoSem.ClaimMapViews
import Derived.JoinedTies
import Derived.KernelRfl
namespace Go.Proofs.Ytbkbciegpakodaa
/- THE CELL 'sum', in the pinned program and in every row, IS THE sha256 OF THE DUMP (.gsa) THAT YtbkbciegpakodaaProg.lean LOADS. Nothing in Lean hashes anything: it is a label: what it is worth is what the hold of that sum in a sandbox is worth. -/
noncomputable def Try.pinned : Pinned := { name := "ytbkbciegpakodaa", sum := "d10ae5573f96bd9a68c7c02730bdc58ff62e2262660eb7738618da1ecdaa6400", checked := Try.checked }
namespace Rows
def none {H : Type} : Left H := { results := [], args := [] }

/-- 'pantlerlaw08.LastIs': WHATEVER THE INPUT: true; the input reads as it did. -/
def lastIsSpec : ChangeSpec := { name := "lastIs", fn := fun _ => fun
  | [d1, d2, d3] => { results := [.lit (.bool true)], args := [d1, d2, d3] }
  | _ => none }
def lastIsRow : OpenClaim := { program := "ytbkbciegpakodaa", sum := "d10ae5573f96bd9a68c7c02730bdc58ff62e2262660eb7738618da1ecdaa6400", func := "pantler/pantlerlaw08.LastIs", spec := "lastIs", inPlace := ["internal/bytealg.abigen_runtime_cmpstring"], unfollowed := true, recurses := true, apart := false }
def LastIsSaid : Prop := lastIsRow.holds Try.pinned (OpenSpec.ofChange lastIsSpec)

/-- ITS FALSE NEIGHBOUR: 'it returns false'. Refute it at one input. -/
def lastIsWrong : ChangeSpec := { name := "lastIs", fn := fun _ => fun
  | [d1, d2, d3] => { results := [.lit (.bool false)], args := [d1, d2, d3] }
  | _ => none }
def LastIsWrongFalsely : Prop := lastIsRow.holds Try.pinned (OpenSpec.ofChange lastIsWrong)

/-- 'pantlerlaw08.LastApart': WHATEVER THE INPUT: true; the input reads as it did. -/
def lastApartSpec : ChangeSpec := { name := "lastApart", fn := fun _ => fun
  | [d1, d2] => { results := [.lit (.bool true)], args := [d1, d2] }
  | _ => none }
def lastApartRow : OpenClaim := { program := "ytbkbciegpakodaa", sum := "d10ae5573f96bd9a68c7c02730bdc58ff62e2262660eb7738618da1ecdaa6400", func := "pantler/pantlerlaw08.LastApart", spec := "lastApart", inPlace := ["internal/bytealg.abigen_runtime_cmpstring"], unfollowed := true, recurses := true, apart := false }
def LastApartSaid : Prop := lastApartRow.holds Try.pinned (OpenSpec.ofChange lastApartSpec)

/-- ITS FALSE NEIGHBOUR: 'it returns false'. Refute it at one input. -/
def lastApartWrong : ChangeSpec := { name := "lastApart", fn := fun _ => fun
  | [d1, d2] => { results := [.lit (.bool false)], args := [d1, d2] }
  | _ => none }
def LastApartWrongFalsely : Prop := lastApartRow.holds Try.pinned (OpenSpec.ofChange lastApartWrong)

/-- 'pantlerlaw08.LastOrder': WHATEVER THE INPUT: true; the input reads as it did. -/
def lastOrderSpec : ChangeSpec := { name := "lastOrder", fn := fun _ => fun
  | [d1, d2, d3] => { results := [.lit (.bool true)], args := [d1, d2, d3] }
  | _ => none }
def lastOrderRow : OpenClaim := { program := "ytbkbciegpakodaa", sum := "d10ae5573f96bd9a68c7c02730bdc58ff62e2262660eb7738618da1ecdaa6400", func := "pantler/pantlerlaw08.LastOrder", spec := "lastOrder", inPlace := ["internal/bytealg.abigen_runtime_cmpstring"], unfollowed := true, recurses := true, apart := false }
def LastOrderSaid : Prop := lastOrderRow.holds Try.pinned (OpenSpec.ofChange lastOrderSpec)

/-- ITS FALSE NEIGHBOUR: 'it returns false'. Refute it at one input. -/
def lastOrderWrong : ChangeSpec := { name := "lastOrder", fn := fun _ => fun
  | [d1, d2, d3] => { results := [.lit (.bool false)], args := [d1, d2, d3] }
  | _ => none }
def LastOrderWrongFalsely : Prop := lastOrderRow.holds Try.pinned (OpenSpec.ofChange lastOrderWrong)

/-- 'pantlerlaw08.LastOne': WHATEVER THE INPUT: true; the input reads as it did. -/
def lastOneSpec : ChangeSpec := { name := "lastOne", fn := fun _ => fun
  | [d] => { results := [.lit (.bool true)], args := [d] }
  | _ => none }
def lastOneRow : OpenClaim := { program := "ytbkbciegpakodaa", sum := "d10ae5573f96bd9a68c7c02730bdc58ff62e2262660eb7738618da1ecdaa6400", func := "pantler/pantlerlaw08.LastOne", spec := "lastOne", inPlace := ["internal/bytealg.abigen_runtime_cmpstring"], unfollowed := true, recurses := true, apart := false }
def LastOneSaid : Prop := lastOneRow.holds Try.pinned (OpenSpec.ofChange lastOneSpec)

/-- ITS FALSE NEIGHBOUR: 'it returns false'. Refute it at one input. -/
def lastOneWrong : ChangeSpec := { name := "lastOne", fn := fun _ => fun
  | [d] => { results := [.lit (.bool false)], args := [d] }
  | _ => none }
def LastOneWrongFalsely : Prop := lastOneRow.holds Try.pinned (OpenSpec.ofChange lastOneWrong)

/- THE SECOND FORM. 'bulk': how many values and letters a reading holds, each counted each time it is reached (what is shared counts as often as it is met; a slice's spare places count too). A statement '..UptoSaid' is the law's where the arguments, and the package variables that the reading takes, are together of bulk at most 1048576: NARROWER than '..Said'. Prove '..Said' where nothing that the law and all that it calls make is longer than what came in: it says more and counts as full. Else prove '..UptoSaid'. A law counts once. -/
mutual
def uptoBulk {H : Type} : DataW H → Nat
  | .lit (.string bytes) => bytes.length + 1
  | .lit _ => 1
  | .nil => 1
  | .ptr d => uptoBulk d + 1
  | .slice elems spare => uptoBulkAll elems + uptoBulkAll spare + 1
  | .agg parts => uptoBulkAll parts + 1
  | .iface _ d => uptoBulk d + 1
  | .map entries => uptoBulkEntries entries + 1
  | .held _ => 1
def uptoBulkAll {H : Type} : List (DataW H) → Nat
  | [] => 0
  | d :: r => uptoBulk d + uptoBulkAll r
def uptoBulkEntries {H : Type} : List (Lit × DataW H) → Nat
  | [] => 0
  | x :: r => uptoBulkEntry x + uptoBulkEntries r
def uptoBulkEntry {H : Type} : Lit × DataW H → Nat
  | (.string bytes, d) => bytes.length + uptoBulk d + 1
  | (_, d) => uptoBulk d + 1
 end
def uptoSmall : (H : Type) → List (DataW H) → Bool := fun _ ds => decide (uptoBulkAll ds ≤ 1048576)
def OpenSpec.upto (s : _root_.Go.ChangeSpec) : _root_.Go.OpenSpec := { _root_.Go.OpenSpec.ofChange s with cond := some uptoSmall }

/-- 'pantlerlaw08.LastIs', WHERE WHAT IT READS IS OF BULK AT MOST 1048576: true; the input reads as it did. -/
def lastIsUptoRow : OpenClaim := { program := "ytbkbciegpakodaa", sum := "d10ae5573f96bd9a68c7c02730bdc58ff62e2262660eb7738618da1ecdaa6400", func := "pantler/pantlerlaw08.LastIs", spec := "lastIs", inPlace := ["internal/bytealg.abigen_runtime_cmpstring"], unfollowed := true, recurses := true, apart := false, narrowed := true }
def LastIsUptoSaid : Prop := lastIsUptoRow.holds Try.pinned (OpenSpec.upto lastIsSpec)

/-- 'pantlerlaw08.LastApart', WHERE WHAT IT READS IS OF BULK AT MOST 1048576: true; the input reads as it did. -/
def lastApartUptoRow : OpenClaim := { program := "ytbkbciegpakodaa", sum := "d10ae5573f96bd9a68c7c02730bdc58ff62e2262660eb7738618da1ecdaa6400", func := "pantler/pantlerlaw08.LastApart", spec := "lastApart", inPlace := ["internal/bytealg.abigen_runtime_cmpstring"], unfollowed := true, recurses := true, apart := false, narrowed := true }
def LastApartUptoSaid : Prop := lastApartUptoRow.holds Try.pinned (OpenSpec.upto lastApartSpec)

/-- 'pantlerlaw08.LastOrder', WHERE WHAT IT READS IS OF BULK AT MOST 1048576: true; the input reads as it did. -/
def lastOrderUptoRow : OpenClaim := { program := "ytbkbciegpakodaa", sum := "d10ae5573f96bd9a68c7c02730bdc58ff62e2262660eb7738618da1ecdaa6400", func := "pantler/pantlerlaw08.LastOrder", spec := "lastOrder", inPlace := ["internal/bytealg.abigen_runtime_cmpstring"], unfollowed := true, recurses := true, apart := false, narrowed := true }
def LastOrderUptoSaid : Prop := lastOrderUptoRow.holds Try.pinned (OpenSpec.upto lastOrderSpec)

/-- 'pantlerlaw08.LastOne', WHERE WHAT IT READS IS OF BULK AT MOST 1048576: true; the input reads as it did. -/
def lastOneUptoRow : OpenClaim := { program := "ytbkbciegpakodaa", sum := "d10ae5573f96bd9a68c7c02730bdc58ff62e2262660eb7738618da1ecdaa6400", func := "pantler/pantlerlaw08.LastOne", spec := "lastOne", inPlace := ["internal/bytealg.abigen_runtime_cmpstring"], unfollowed := true, recurses := true, apart := false, narrowed := true }
def LastOneUptoSaid : Prop := lastOneUptoRow.holds Try.pinned (OpenSpec.upto lastOneSpec)

end Rows
end Go.Proofs.Ytbkbciegpakodaa
