/-
  No cell of these rows narrows 'for every input' (looked for: loops, veiled, ifaces, maps, wideKeys, modest, calm, conditions, laid).
  DERIVED. THE GIVEN ROWS OF THIS SEAT. 3 by the template 'for every input the law returns true; each argument reads behind the call as it read before'; 0 by the template 'total and deterministic' (their statements: YtbkngbgohlkfoaaTotals.lean).
  GIVEN WITH THE SEED: the statements are not yours to turn. If you find one false, say at which input.
  Laid BY PROGRAM, IN A SANDBOX (cutbox-rows.mjs): the forced cells as the released guide's own fill.sh prints them over the translation 40fa4c61bf2ca25b… (all of the seat's roots in one cut). By AI agents, Wed Nov 11 2026. No macro, syntax, notation, axiom, sorry.
-/
import Derived.Test.YtbkngbgohlkfoaaChecked
import GoSem.Claim
import GoSem.ClaimJoined
import GoSem.ClaimMapViews
import Derived.JoinedTies
import Derived.KernelRfl
namespace Go.Proofs.Ytbkngbgohlkfoaa
/- THE CELL 'sum', in the pinned program and in every row, IS THE sha256 OF THE DUMP (.gsa) THAT YtbkngbgohlkfoaaProg.lean LOADS. Nothing in Lean hashes anything: it is a label: what it is worth is what the hold of that sum in a sandbox is worth. -/
noncomputable def Try.pinned : Pinned := { name := "ytbkngbgohlkfoaa", sum := "40fa4c61bf2ca25bec33f3de69d3004cc8fa6759188096eb2d03dd9f4158cbc6", checked := Try.checked }
namespace Rows
def none {H : Type} : Left H := { results := [], args := [] }

/-- 'pantlerlaw53.WindowIs': WHATEVER THE INPUT: true; the input reads as it did. -/
def windowIsSpec : ChangeSpec := { name := "windowIs", fn := fun _ => fun
  | [d1, d2] => { results := [.lit (.bool true)], args := [d1, d2] }
  | _ => none }
def windowIsRow : OpenClaim := { program := "ytbkngbgohlkfoaa", sum := "40fa4c61bf2ca25bec33f3de69d3004cc8fa6759188096eb2d03dd9f4158cbc6", func := "pantler/pantlerlaw53.WindowIs", spec := "windowIs", unfollowed := true, recurses := true, apart := false }
def WindowIsSaid : Prop := windowIsRow.holds Try.pinned (OpenSpec.ofChange windowIsSpec)

/-- ITS FALSE NEIGHBOUR: 'it returns false'. Refute it at one input. -/
def windowIsWrong : ChangeSpec := { name := "windowIs", fn := fun _ => fun
  | [d1, d2] => { results := [.lit (.bool false)], args := [d1, d2] }
  | _ => none }
def WindowIsWrongFalsely : Prop := windowIsRow.holds Try.pinned (OpenSpec.ofChange windowIsWrong)

/-- 'pantlerlaw53.WindowLet': WHATEVER THE INPUT: true; the input reads as it did. -/
def windowLetSpec : ChangeSpec := { name := "windowLet", fn := fun _ => fun
  | [d1, d2, d3] => { results := [.lit (.bool true)], args := [d1, d2, d3] }
  | _ => none }
def windowLetRow : OpenClaim := { program := "ytbkngbgohlkfoaa", sum := "40fa4c61bf2ca25bec33f3de69d3004cc8fa6759188096eb2d03dd9f4158cbc6", func := "pantler/pantlerlaw53.WindowLet", spec := "windowLet", unfollowed := true, recurses := true, apart := false }
def WindowLetSaid : Prop := windowLetRow.holds Try.pinned (OpenSpec.ofChange windowLetSpec)

/-- ITS FALSE NEIGHBOUR: 'it returns false'. Refute it at one input. -/
def windowLetWrong : ChangeSpec := { name := "windowLet", fn := fun _ => fun
  | [d1, d2, d3] => { results := [.lit (.bool false)], args := [d1, d2, d3] }
  | _ => none }
def WindowLetWrongFalsely : Prop := windowLetRow.holds Try.pinned (OpenSpec.ofChange windowLetWrong)

/-- 'pantlerlaw53.WindowWider': WHATEVER THE INPUT: true; the input reads as it did. -/
def windowWiderSpec : ChangeSpec := { name := "windowWider", fn := fun _ => fun
  | [d1, d2, d3] => { results := [.lit (.bool true)], args := [d1, d2, d3] }
  | _ => none }
def windowWiderRow : OpenClaim := { program := "ytbkngbgohlkfoaa", sum := "40fa4c61bf2ca25bec33f3de69d3004cc8fa6759188096eb2d03dd9f4158cbc6", func := "pantler/pantlerlaw53.WindowWider", spec := "windowWider", unfollowed := true, recurses := true, apart := false }
def WindowWiderSaid : Prop := windowWiderRow.holds Try.pinned (OpenSpec.ofChange windowWiderSpec)

/-- ITS FALSE NEIGHBOUR: 'it returns false'. Refute it at one input. -/
def windowWiderWrong : ChangeSpec := { name := "windowWider", fn := fun _ => fun
  | [d1, d2, d3] => { results := [.lit (.bool false)], args := [d1, d2, d3] }
  | _ => none }
def WindowWiderWrongFalsely : Prop := windowWiderRow.holds Try.pinned (OpenSpec.ofChange windowWiderWrong)

/- THE SECOND FORM. 'bulk': how many values and letters a reading holds, each counted each time it is reached (what is shared counts as often as it is met; a slice's spare places count too). A statement '..UptoSaid' is the law's where the arguments, and the package variables that the reading takes, are together of bulk at most 1048576: NARROWER than '..Said'. Prove '..Said' where nothing that the law and all that it calls make is longer than what came in: it says more and counts as full. Else prove '..UptoSaid'. A law counts once. -/
mutual
def uptoBulk {H : Type} : DataW H → Nat
  | .lit (.string bytes) => bytes.length + 1
  | .lit _ => 1
  | .nil => 1
  | .ptr d => uptoBulk d + 1
  | .slice elems spare => uptoBulkAll elems + uptoBulkAll spare + 1
  | .agg parts => uptoBulkAll parts + 1
  | .iface _ d => uptoBulk d + 1
  | .map entries => uptoBulkEntries entries + 1
  | .held _ => 1
def uptoBulkAll {H : Type} : List (DataW H) → Nat
  | [] => 0
  | d :: r => uptoBulk d + uptoBulkAll r
def uptoBulkEntries {H : Type} : List (Lit × DataW H) → Nat
  | [] => 0
  | x :: r => uptoBulkEntry x + uptoBulkEntries r
def uptoBulkEntry {H : Type} : Lit × DataW H → Nat
  | (.string bytes, d) => bytes.length + uptoBulk d + 1
  | (_, d) => uptoBulk d + 1
 end
def uptoSmall : (H : Type) → List (DataW H) → Bool := fun _ ds => decide (uptoBulkAll ds ≤ 1048576)
def OpenSpec.upto (s : _root_.Go.ChangeSpec) : _root_.Go.OpenSpec := { _root_.Go.OpenSpec.ofChange s with cond := some uptoSmall }

/-- 'pantlerlaw53.WindowIs', WHERE WHAT IT READS IS OF BULK AT MOST 1048576: true; the input reads as it did. -/
def windowIsUptoRow : OpenClaim := { program := "ytbkngbgohlkfoaa", sum := "40fa4c61bf2ca25bec33f3de69d3004cc8fa6759188096eb2d03dd9f4158cbc6", func := "pantler/pantlerlaw53.WindowIs", spec := "windowIs", unfollowed := true, recurses := true, apart := false, narrowed := true }
def WindowIsUptoSaid : Prop := windowIsUptoRow.holds Try.pinned (OpenSpec.upto windowIsSpec)

/-- 'pantlerlaw53.WindowLet', WHERE WHAT IT READS IS OF BULK AT MOST 1048576: true; the input reads as it did. -/
def windowLetUptoRow : OpenClaim := { program := "ytbkngbgohlkfoaa", sum := "40fa4c61bf2ca25bec33f3de69d3004cc8fa6759188096eb2d03dd9f4158cbc6", func := "pantler/pantlerlaw53.WindowLet", spec := "windowLet", unfollowed := true, recurses := true, apart := false, narrowed := true }
def WindowLetUptoSaid : Prop := windowLetUptoRow.holds Try.pinned (OpenSpec.upto windowLetSpec)

/-- 'pantlerlaw53.WindowWider', WHERE WHAT IT READS IS OF BULK AT MOST 1048576: true; the input reads as it did. -/
def windowWiderUptoRow : OpenClaim := { program := "ytbkngbgohlkfoaa", sum := "40fa4c61bf2ca25bec33f3de69d3004cc8fa6759188096eb2d03dd9f4158cbc6", func := "pantler/pantlerlaw53.WindowWider", spec := "windowWider", unfollowed := true, recurses := true, apart := false, narrowed := true }
def WindowWiderUptoSaid : Prop := windowWiderUptoRow.holds Try.pinned (OpenSpec.upto windowWiderSpec)

end Rows
end Go.Proofs.Ytbkngbgohlkfoaa
