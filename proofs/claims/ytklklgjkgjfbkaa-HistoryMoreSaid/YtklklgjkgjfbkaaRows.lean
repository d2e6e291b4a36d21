/-
  No cell of these rows narrows 'for every input' (looked for: loops, veiled, ifaces, maps, wideKeys, modest, calm, conditions, laid).
  DERIVED. THE GIVEN ROWS OF THIS SEAT. 3 by the template 'for every input the law returns true; each argument reads behind the call as it read before'; 0 by the template 'total and deterministic' (their statements: YtklklgjkgjfbkaaTotals.lean).
  GIVEN WITH THE SEED: the statements are not yours to turn. If you find one false, say at which input.
  Laid BY PROGRAM, IN A SANDBOX (cutbox-rows.mjs): the forced cells as the released guide's own fill.sh prints them over the translation d5aa3825e4f30f9c… (all of the seat's roots in one cut). By AI agents, Wed Nov 11 2026. No macro, syntax, notation, axiom, sorry.
-/
import Derived.Test.YtklklgjkgjfbkaaChecked
import GoSem.Claim
import GoSem.ClaimJoined
import GoSem.ClaimMapViews
import Derived.JoinedTies
import Derived.KernelRfl
namespace Go.Proofs.Ytklklgjkgjfbkaa
/- THE CELL 'sum', in the pinned program and in every row, IS THE sha256 OF THE DUMP (.gsa) THAT YtklklgjkgjfbkaaProg.lean LOADS. Nothing in Lean hashes anything: it is a label: what it is worth is what the hold of that sum in a sandbox is worth. -/
noncomputable def Try.pinned : Pinned := { name := "ytklklgjkgjfbkaa", sum := "d5aa3825e4f30f9c0f3f9d0d2442df7152a8d40018bbad01bb148535fe02434b", checked := Try.checked }
namespace Rows
def none {H : Type} : Left H := { results := [], args := [] }

/-- 'pantlerlaw44.HistoryIs': WHATEVER THE INPUT: true; the input reads as it did. -/
def historyIsSpec : ChangeSpec := { name := "historyIs", fn := fun _ => fun
  | [d1, d2] => { results := [.lit (.bool true)], args := [d1, d2] }
  | _ => none }
def historyIsRow : OpenClaim := { program := "ytklklgjkgjfbkaa", sum := "d5aa3825e4f30f9c0f3f9d0d2442df7152a8d40018bbad01bb148535fe02434b", func := "pantler/pantlerlaw44.HistoryIs", spec := "historyIs", inPlace := ["internal/bytealg.abigen_runtime_cmpstring"], unfollowed := true, recurses := true, apart := false }
def HistoryIsSaid : Prop := historyIsRow.holds Try.pinned (OpenSpec.ofChange historyIsSpec)

/-- ITS FALSE NEIGHBOUR: 'it returns false'. Refute it at one input. -/
def historyIsWrong : ChangeSpec := { name := "historyIs", fn := fun _ => fun
  | [d1, d2] => { results := [.lit (.bool false)], args := [d1, d2] }
  | _ => none }
def HistoryIsWrongFalsely : Prop := historyIsRow.holds Try.pinned (OpenSpec.ofChange historyIsWrong)

/-- 'pantlerlaw44.HistoryKeys': WHATEVER THE INPUT: true; the input reads as it did. -/
def historyKeysSpec : ChangeSpec := { name := "historyKeys", fn := fun _ => fun
  | [d] => { results := [.lit (.bool true)], args := [d] }
  | _ => none }
def historyKeysRow : OpenClaim := { program := "ytklklgjkgjfbkaa", sum := "d5aa3825e4f30f9c0f3f9d0d2442df7152a8d40018bbad01bb148535fe02434b", func := "pantler/pantlerlaw44.HistoryKeys", spec := "historyKeys", inPlace := ["internal/bytealg.abigen_runtime_cmpstring"], unfollowed := true, recurses := true, apart := false }
def HistoryKeysSaid : Prop := historyKeysRow.holds Try.pinned (OpenSpec.ofChange historyKeysSpec)

/-- ITS FALSE NEIGHBOUR: 'it returns false'. Refute it at one input. -/
def historyKeysWrong : ChangeSpec := { name := "historyKeys", fn := fun _ => fun
  | [d] => { results := [.lit (.bool false)], args := [d] }
  | _ => none }
def HistoryKeysWrongFalsely : Prop := historyKeysRow.holds Try.pinned (OpenSpec.ofChange historyKeysWrong)

/-- 'pantlerlaw44.HistoryMore': WHATEVER THE INPUT: true; the input reads as it did. -/
def historyMoreSpec : ChangeSpec := { name := "historyMore", fn := fun _ => fun
  | [d1, d2] => { results := [.lit (.bool true)], args := [d1, d2] }
  | _ => none }
def historyMoreRow : OpenClaim := { program := "ytklklgjkgjfbkaa", sum := "d5aa3825e4f30f9c0f3f9d0d2442df7152a8d40018bbad01bb148535fe02434b", func := "pantler/pantlerlaw44.HistoryMore", spec := "historyMore", inPlace := ["internal/bytealg.abigen_runtime_cmpstring"], unfollowed := true, recurses := true, apart := false }
def HistoryMoreSaid : Prop := historyMoreRow.holds Try.pinned (OpenSpec.ofChange historyMoreSpec)

/-- ITS FALSE NEIGHBOUR: 'it returns false'. Refute it at one input. -/
def historyMoreWrong : ChangeSpec := { name := "historyMore", fn := fun _ => fun
  | [d1, d2] => { results := [.lit (.bool false)], args := [d1, d2] }
  | _ => none }
def HistoryMoreWrongFalsely : Prop := historyMoreRow.holds Try.pinned (OpenSpec.ofChange historyMoreWrong)

/- THE SECOND FORM. 'bulk': how many values and letters a reading holds, each counted each time it is reached (what is shared counts as often as it is met; a slice's spare places count too). A statement '..UptoSaid' is the law's where the arguments, and the package variables that the reading takes, are together of bulk at most 1048576: NARROWER than '..Said'. Prove '..Said' where nothing that the law and all that it calls make is longer than what came in: it says more and counts as full. Else prove '..UptoSaid'. A law counts once. -/
mutual
def uptoBulk {H : Type} : DataW H → Nat
  | .lit (.string bytes) => bytes.length + 1
  | .lit _ => 1
  | .nil => 1
  | .ptr d => uptoBulk d + 1
  | .slice elems spare => uptoBulkAll elems + uptoBulkAll spare + 1
  | .agg parts => uptoBulkAll parts + 1
  | .iface _ d => uptoBulk d + 1
  | .map entries => uptoBulkEntries entries + 1
  | .held _ => 1
def uptoBulkAll {H : Type} : List (DataW H) → Nat
  | [] => 0
  | d :: r => uptoBulk d + uptoBulkAll r
def uptoBulkEntries {H : Type} : List (Lit × DataW H) → Nat
  | [] => 0
  | x :: r => uptoBulkEntry x + uptoBulkEntries r
def uptoBulkEntry {H : Type} : Lit × DataW H → Nat
  | (.string bytes, d) => bytes.length + uptoBulk d + 1
  | (_, d) => uptoBulk d + 1
 end
def uptoSmall : (H : Type) → List (DataW H) → Bool := fun _ ds => decide (uptoBulkAll ds ≤ 1048576)
def OpenSpec.upto (s : _root_.Go.ChangeSpec) : _root_.Go.OpenSpec := { _root_.Go.OpenSpec.ofChange s with cond := some uptoSmall }

/-- 'pantlerlaw44.HistoryIs', WHERE WHAT IT READS IS OF BULK AT MOST 1048576: true; the input reads as it did. -/
def historyIsUptoRow : OpenClaim := { program := "ytklklgjkgjfbkaa", sum := "d5aa3825e4f30f9c0f3f9d0d2442df7152a8d40018bbad01bb148535fe02434b", func := "pantler/pantlerlaw44.HistoryIs", spec := "historyIs", inPlace := ["internal/bytealg.abigen_runtime_cmpstring"], unfollowed := true, recurses := true, apart := false, narrowed := true }
def HistoryIsUptoSaid : Prop := historyIsUptoRow.holds Try.pinned (OpenSpec.upto historyIsSpec)

/-- 'pantlerlaw44.HistoryKeys', WHERE WHAT IT READS IS OF BULK AT MOST 1048576: true; the input reads as it did. -/
def historyKeysUptoRow : OpenClaim := { program := "ytklklgjkgjfbkaa", sum := "d5aa3825e4f30f9c0f3f9d0d2442df7152a8d40018bbad01bb148535fe02434b", func := "pantler/pantlerlaw44.HistoryKeys", spec := "historyKeys", inPlace := ["internal/bytealg.abigen_runtime_cmpstring"], unfollowed := true, recurses := true, apart := false, narrowed := true }
def HistoryKeysUptoSaid : Prop := historyKeysUptoRow.holds Try.pinned (OpenSpec.upto historyKeysSpec)

/-- 'pantlerlaw44.HistoryMore', WHERE WHAT IT READS IS OF BULK AT MOST 1048576: true; the input reads as it did. -/
def historyMoreUptoRow : OpenClaim := { program := "ytklklgjkgjfbkaa", sum := "d5aa3825e4f30f9c0f3f9d0d2442df7152a8d40018bbad01bb148535fe02434b", func := "pantler/pantlerlaw44.HistoryMore", spec := "historyMore", inPlace := ["internal/bytealg.abigen_runtime_cmpstring"], unfollowed := true, recurses := true, apart := false, narrowed := true }
def HistoryMoreUptoSaid : Prop := historyMoreUptoRow.holds Try.pinned (OpenSpec.upto historyMoreSpec)

end Rows
end Go.Proofs.Ytklklgjkgjfbkaa
