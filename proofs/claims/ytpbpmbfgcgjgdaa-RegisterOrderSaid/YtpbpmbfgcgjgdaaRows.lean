/-
  No cell of these rows narrows 'for every input' (looked for: loops, veiled, ifaces, maps, wideKeys, modest, calm, conditions, laid).
  DERIVED. THE GIVEN ROWS OF THIS SEAT. 3 by the template 'for every input the law returns true; each argument reads behind the call as it read before'; 0 by the template 'total and deterministic' (their statements: YtpbpmbfgcgjgdaaTotals.lean).
  GIVEN WITH THE SEED: the statements are not yours to turn. If you find one false, say at which input.
  Laid BY PROGRAM, IN A SANDBOX (cutbox-rows.mjs): the forced cells as the released guide's own fill.sh prints them over the translation 534da9f0ff2d9ce5… (all of the seat's roots in one cut). By AI agents, Wed Nov 11 2026. No macro, syntax, notation, axiom, sorry.
-/
import Derived.Test.YtpbpmbfgcgjgdaaChecked
import GoSem.Claim
import GoSem.ClaimJoined
import GoSem.ClaimMapViews
import Derived.JoinedTies
import Derived.KernelRfl
namespace Go.Proofs.Ytpbpmbfgcgjgdaa
/- THE CELL 'sum', in the pinned program and in every row, IS THE sha256 OF THE DUMP (.gsa) THAT YtpbpmbfgcgjgdaaProg.lean LOADS. Nothing in Lean hashes anything: it is a label: what it is worth is what the hold of that sum in a sandbox is worth. -/
noncomputable def Try.pinned : Pinned := { name := "ytpbpmbfgcgjgdaa", sum := "534da9f0ff2d9ce55caae8501516de9ad91cbaab548c47d09f06ace8db637000", checked := Try.checked }
namespace Rows
def none {H : Type} : Left H := { results := [], args := [] }

/-- 'pantlerlaw09.RegisterIs': WHATEVER THE INPUT: true; the input reads as it did. -/
def registerIsSpec : ChangeSpec := { name := "registerIs", fn := fun _ => fun
  | [d1, d2] => { results := [.lit (.bool true)], args := [d1, d2] }
  | _ => none }
def registerIsRow : OpenClaim := { program := "ytpbpmbfgcgjgdaa", sum := "534da9f0ff2d9ce55caae8501516de9ad91cbaab548c47d09f06ace8db637000", func := "pantler/pantlerlaw09.RegisterIs", spec := "registerIs", inPlace := ["internal/bytealg.abigen_runtime_cmpstring"], unfollowed := true, recurses := true, apart := false }
def RegisterIsSaid : Prop := registerIsRow.holds Try.pinned (OpenSpec.ofChange registerIsSpec)

/-- ITS FALSE NEIGHBOUR: 'it returns false'. Refute it at one input. -/
def registerIsWrong : ChangeSpec := { name := "registerIs", fn := fun _ => fun
  | [d1, d2] => { results := [.lit (.bool false)], args := [d1, d2] }
  | _ => none }
def RegisterIsWrongFalsely : Prop := registerIsRow.holds Try.pinned (OpenSpec.ofChange registerIsWrong)

/-- 'pantlerlaw09.RegisterNext': WHATEVER THE INPUT: true; the input reads as it did. -/
def registerNextSpec : ChangeSpec := { name := "registerNext", fn := fun _ => fun
  | [d1, d2, d3] => { results := [.lit (.bool true)], args := [d1, d2, d3] }
  | _ => none }
def registerNextRow : OpenClaim := { program := "ytpbpmbfgcgjgdaa", sum := "534da9f0ff2d9ce55caae8501516de9ad91cbaab548c47d09f06ace8db637000", func := "pantler/pantlerlaw09.RegisterNext", spec := "registerNext", inPlace := ["internal/bytealg.abigen_runtime_cmpstring"], unfollowed := true, recurses := true, apart := false }
def RegisterNextSaid : Prop := registerNextRow.holds Try.pinned (OpenSpec.ofChange registerNextSpec)

/-- ITS FALSE NEIGHBOUR: 'it returns false'. Refute it at one input. -/
def registerNextWrong : ChangeSpec := { name := "registerNext", fn := fun _ => fun
  | [d1, d2, d3] => { results := [.lit (.bool false)], args := [d1, d2, d3] }
  | _ => none }
def RegisterNextWrongFalsely : Prop := registerNextRow.holds Try.pinned (OpenSpec.ofChange registerNextWrong)

/-- 'pantlerlaw09.RegisterOrder': WHATEVER THE INPUT: true; the input reads as it did. -/
def registerOrderSpec : ChangeSpec := { name := "registerOrder", fn := fun _ => fun
  | [d1, d2, d3] => { results := [.lit (.bool true)], args := [d1, d2, d3] }
  | _ => none }
def registerOrderRow : OpenClaim := { program := "ytpbpmbfgcgjgdaa", sum := "534da9f0ff2d9ce55caae8501516de9ad91cbaab548c47d09f06ace8db637000", func := "pantler/pantlerlaw09.RegisterOrder", spec := "registerOrder", inPlace := ["internal/bytealg.abigen_runtime_cmpstring"], unfollowed := true, recurses := true, apart := false }
def RegisterOrderSaid : Prop := registerOrderRow.holds Try.pinned (OpenSpec.ofChange registerOrderSpec)

/-- ITS FALSE NEIGHBOUR: 'it returns false'. Refute it at one input. -/
def registerOrderWrong : ChangeSpec := { name := "registerOrder", fn := fun _ => fun
  | [d1, d2, d3] => { results := [.lit (.bool false)], args := [d1, d2, d3] }
  | _ => none }
def RegisterOrderWrongFalsely : Prop := registerOrderRow.holds Try.pinned (OpenSpec.ofChange registerOrderWrong)

/- THE SECOND FORM. 'bulk': how many values and letters a reading holds, each counted each time it is reached (what is shared counts as often as it is met; a slice's spare places count too). A statement '..UptoSaid' is the law's where the arguments, and the package variables that the reading takes, are together of bulk at most 1048576: NARROWER than '..Said'. Prove '..Said' where nothing that the law and all that it calls make is longer than what came in: it says more and counts as full. Else prove '..UptoSaid'. A law counts once. -/
mutual
def uptoBulk {H : Type} : DataW H → Nat
  | .lit (.string bytes) => bytes.length + 1
  | .lit _ => 1
  | .nil => 1
  | .ptr d => uptoBulk d + 1
  | .slice elems spare => uptoBulkAll elems + uptoBulkAll spare + 1
  | .agg parts => uptoBulkAll parts + 1
  | .iface _ d => uptoBulk d + 1
  | .map entries => uptoBulkEntries entries + 1
  | .held _ => 1
def uptoBulkAll {H : Type} : List (DataW H) → Nat
  | [] => 0
  | d :: r => uptoBulk d + uptoBulkAll r
def uptoBulkEntries {H : Type} : List (Lit × DataW H) → Nat
  | [] => 0
  | x :: r => uptoBulkEntry x + uptoBulkEntries r
def uptoBulkEntry {H : Type} : Lit × DataW H → Nat
  | (.string bytes, d) => bytes.length + uptoBulk d + 1
  | (_, d) => uptoBulk d + 1
 end
def uptoSmall : (H : Type) → List (DataW H) → Bool := fun _ ds => decide (uptoBulkAll ds ≤ 1048576)
def OpenSpec.upto (s : _root_.Go.ChangeSpec) : _root_.Go.OpenSpec := { _root_.Go.OpenSpec.ofChange s with cond := some uptoSmall }

/-- 'pantlerlaw09.RegisterIs', WHERE WHAT IT READS IS OF BULK AT MOST 1048576: true; the input reads as it did. -/
def registerIsUptoRow : OpenClaim := { program := "ytpbpmbfgcgjgdaa", sum := "534da9f0ff2d9ce55caae8501516de9ad91cbaab548c47d09f06ace8db637000", func := "pantler/pantlerlaw09.RegisterIs", spec := "registerIs", inPlace := ["internal/bytealg.abigen_runtime_cmpstring"], unfollowed := true, recurses := true, apart := false, narrowed := true }
def RegisterIsUptoSaid : Prop := registerIsUptoRow.holds Try.pinned (OpenSpec.upto registerIsSpec)

/-- 'pantlerlaw09.RegisterNext', WHERE WHAT IT READS IS OF BULK AT MOST 1048576: true; the input reads as it did. -/
def registerNextUptoRow : OpenClaim := { program := "ytpbpmbfgcgjgdaa", sum := "534da9f0ff2d9ce55caae8501516de9ad91cbaab548c47d09f06ace8db637000", func := "pantler/pantlerlaw09.RegisterNext", spec := "registerNext", inPlace := ["internal/bytealg.abigen_runtime_cmpstring"], unfollowed := true, recurses := true, apart := false, narrowed := true }
def RegisterNextUptoSaid : Prop := registerNextUptoRow.holds Try.pinned (OpenSpec.upto registerNextSpec)

/-- 'pantlerlaw09.RegisterOrder', WHERE WHAT IT READS IS OF BULK AT MOST 1048576: true; the input reads as it did. -/
def registerOrderUptoRow : OpenClaim := { program := "ytpbpmbfgcgjgdaa", sum := "534da9f0ff2d9ce55caae8501516de9ad91cbaab548c47d09f06ace8db637000", func := "pantler/pantlerlaw09.RegisterOrder", spec := "registerOrder", inPlace := ["internal/bytealg.abigen_runtime_cmpstring"], unfollowed := true, recurses := true, apart := false, narrowed := true }
def RegisterOrderUptoSaid : Prop := registerOrderUptoRow.holds Try.pinned (OpenSpec.upto registerOrderSpec)

end Rows
end Go.Proofs.Ytpbpmbfgcgjgdaa
