/-
  No cell of these rows narrows 'for every input' (looked for: loops, veiled, ifaces, maps, wideKeys, modest, calm, conditions, laid).
  DERIVED. THE GIVEN ROWS OF THIS SEAT. 4 by the template 'for every input the law returns true; each argument reads behind the call as it read before'; 0 by the template 'total and deterministic' (their statements: YtmpnhffnkbpcfaaTotals.lean).
  GIVEN WITH THE SEED: the statements are not yours to turn. If you find one false, say at which input.
  Laid BY PROGRAM, IN A SANDBOX (cutbox-rows.mjs): the forced cells as the released guide's own fill.sh prints them over the translation 7528efe1f154d32e… (all of the seat's roots in one cut). By AI agents, Wed Nov 11 2026. No macro, syntax, notation, axiom, sorry.
-/
import Derived.Test.YtmpnhffnkbpcfaaChecked
import GoSem.Claim
import GoSem.ClaimJoined
import GoSem.ClaimMapViews
import Derived.JoinedTies
import Derived.KernelRfl
namespace Go.Proofs.Ytmpnhffnkbpcfaa
/- THE CELL 'sum', in the pinned program and in every row, IS THE sha256 OF THE DUMP (.gsa) THAT YtmpnhffnkbpcfaaProg.lean LOADS. Nothing in Lean hashes anything: it is a label: what it is worth is what the hold of that sum in a sandbox is worth. -/
noncomputable def Try.pinned : Pinned := { name := "ytmpnhffnkbpcfaa", sum := "7528efe1f154d32eece23f72fabee1cda50f8c6d9a1da82c15acc344d55a6cc1", checked := Try.checked }
namespace Rows
def none {H : Type} : Left H := { results := [], args := [] }

/-- 'pantlerlaw10.RegistryIs': WHATEVER THE INPUT: true; the input reads as it did. -/
def registryIsSpec : ChangeSpec := { name := "registryIs", fn := fun _ => fun
  | [d1, d2, d3] => { results := [.lit (.bool true)], args := [d1, d2, d3] }
  | _ => none }
def registryIsRow : OpenClaim := { program := "ytmpnhffnkbpcfaa", sum := "7528efe1f154d32eece23f72fabee1cda50f8c6d9a1da82c15acc344d55a6cc1", func := "pantler/pantlerlaw10.RegistryIs", spec := "registryIs", inPlace := ["internal/bytealg.abigen_runtime_cmpstring"], unfollowed := true, recurses := true, apart := false }
def RegistryIsSaid : Prop := registryIsRow.holds Try.pinned (OpenSpec.ofChange registryIsSpec)

/-- ITS FALSE NEIGHBOUR: 'it returns false'. Refute it at one input. -/
def registryIsWrong : ChangeSpec := { name := "registryIs", fn := fun _ => fun
  | [d1, d2, d3] => { results := [.lit (.bool false)], args := [d1, d2, d3] }
  | _ => none }
def RegistryIsWrongFalsely : Prop := registryIsRow.holds Try.pinned (OpenSpec.ofChange registryIsWrong)

/-- 'pantlerlaw10.RegistryPuts': WHATEVER THE INPUT: true; the input reads as it did. -/
def registryPutsSpec : ChangeSpec := { name := "registryPuts", fn := fun _ => fun
  | [d1, d2, d3] => { results := [.lit (.bool true)], args := [d1, d2, d3] }
  | _ => none }
def registryPutsRow : OpenClaim := { program := "ytmpnhffnkbpcfaa", sum := "7528efe1f154d32eece23f72fabee1cda50f8c6d9a1da82c15acc344d55a6cc1", func := "pantler/pantlerlaw10.RegistryPuts", spec := "registryPuts", inPlace := ["internal/bytealg.abigen_runtime_cmpstring"], unfollowed := true, recurses := true, apart := false }
def RegistryPutsSaid : Prop := registryPutsRow.holds Try.pinned (OpenSpec.ofChange registryPutsSpec)

/-- ITS FALSE NEIGHBOUR: 'it returns false'. Refute it at one input. -/
def registryPutsWrong : ChangeSpec := { name := "registryPuts", fn := fun _ => fun
  | [d1, d2, d3] => { results := [.lit (.bool false)], args := [d1, d2, d3] }
  | _ => none }
def RegistryPutsWrongFalsely : Prop := registryPutsRow.holds Try.pinned (OpenSpec.ofChange registryPutsWrong)

/-- 'pantlerlaw10.RegistrySets': WHATEVER THE INPUT: true; the input reads as it did. -/
def registrySetsSpec : ChangeSpec := { name := "registrySets", fn := fun _ => fun
  | [d1, d2] => { results := [.lit (.bool true)], args := [d1, d2] }
  | _ => none }
def registrySetsRow : OpenClaim := { program := "ytmpnhffnkbpcfaa", sum := "7528efe1f154d32eece23f72fabee1cda50f8c6d9a1da82c15acc344d55a6cc1", func := "pantler/pantlerlaw10.RegistrySets", spec := "registrySets", inPlace := ["internal/bytealg.abigen_runtime_cmpstring"], unfollowed := true, recurses := true, apart := false }
def RegistrySetsSaid : Prop := registrySetsRow.holds Try.pinned (OpenSpec.ofChange registrySetsSpec)

/-- ITS FALSE NEIGHBOUR: 'it returns false'. Refute it at one input. -/
def registrySetsWrong : ChangeSpec := { name := "registrySets", fn := fun _ => fun
  | [d1, d2] => { results := [.lit (.bool false)], args := [d1, d2] }
  | _ => none }
def RegistrySetsWrongFalsely : Prop := registrySetsRow.holds Try.pinned (OpenSpec.ofChange registrySetsWrong)

/-- 'pantlerlaw10.RegistryOrder': WHATEVER THE INPUT: true; the input reads as it did. -/
def registryOrderSpec : ChangeSpec := { name := "registryOrder", fn := fun _ => fun
  | [d1, d2, d3] => { results := [.lit (.bool true)], args := [d1, d2, d3] }
  | _ => none }
def registryOrderRow : OpenClaim := { program := "ytmpnhffnkbpcfaa", sum := "7528efe1f154d32eece23f72fabee1cda50f8c6d9a1da82c15acc344d55a6cc1", func := "pantler/pantlerlaw10.RegistryOrder", spec := "registryOrder", inPlace := ["internal/bytealg.abigen_runtime_cmpstring"], unfollowed := true, recurses := true, apart := false }
def RegistryOrderSaid : Prop := registryOrderRow.holds Try.pinned (OpenSpec.ofChange registryOrderSpec)

/-- ITS FALSE NEIGHBOUR: 'it returns false'. Refute it at one input. -/
def registryOrderWrong : ChangeSpec := { name := "registryOrder", fn := fun _ => fun
  | [d1, d2, d3] => { results := [.lit (.bool false)], args := [d1, d2, d3] }
  | _ => none }
def RegistryOrderWrongFalsely : Prop := registryOrderRow.holds Try.pinned (OpenSpec.ofChange registryOrderWrong)

/- THE SECOND FORM. 'bulk': how many values and letters a reading holds, each counted each time it is reached (what is shared counts as often as it is met; a slice's spare places count too). A statement '..UptoSaid' is the law's where the arguments, and the package variables that the reading takes, are together of bulk at most 1048576: NARROWER than '..Said'. Prove '..Said' where nothing that the law and all that it calls make is longer than what came in: it says more and counts as full. Else prove '..UptoSaid'. A law counts once. -/
mutual
def uptoBulk {H : Type} : DataW H → Nat
  | .lit (.string bytes) => bytes.length + 1
  | .lit _ => 1
  | .nil => 1
  | .ptr d => uptoBulk d + 1
  | .slice elems spare => uptoBulkAll elems + uptoBulkAll spare + 1
  | .agg parts => uptoBulkAll parts + 1
  | .iface _ d => uptoBulk d + 1
  | .map entries => uptoBulkEntries entries + 1
  | .held _ => 1
def uptoBulkAll {H : Type} : List (DataW H) → Nat
  | [] => 0
  | d :: r => uptoBulk d + uptoBulkAll r
def uptoBulkEntries {H : Type} : List (Lit × DataW H) → Nat
  | [] => 0
  | x :: r => uptoBulkEntry x + uptoBulkEntries r
def uptoBulkEntry {H : Type} : Lit × DataW H → Nat
  | (.string bytes, d) => bytes.length + uptoBulk d + 1
  | (_, d) => uptoBulk d + 1
 end
def uptoSmall : (H : Type) → List (DataW H) → Bool := fun _ ds => decide (uptoBulkAll ds ≤ 1048576)
def OpenSpec.upto (s : _root_.Go.ChangeSpec) : _root_.Go.OpenSpec := { _root_.Go.OpenSpec.ofChange s with cond := some uptoSmall }

/-- 'pantlerlaw10.RegistryIs', WHERE WHAT IT READS IS OF BULK AT MOST 1048576: true; the input reads as it did. -/
def registryIsUptoRow : OpenClaim := { program := "ytmpnhffnkbpcfaa", sum := "7528efe1f154d32eece23f72fabee1cda50f8c6d9a1da82c15acc344d55a6cc1", func := "pantler/pantlerlaw10.RegistryIs", spec := "registryIs", inPlace := ["internal/bytealg.abigen_runtime_cmpstring"], unfollowed := true, recurses := true, apart := false, narrowed := true }
def RegistryIsUptoSaid : Prop := registryIsUptoRow.holds Try.pinned (OpenSpec.upto registryIsSpec)

/-- 'pantlerlaw10.RegistryPuts', WHERE WHAT IT READS IS OF BULK AT MOST 1048576: true; the input reads as it did. -/
def registryPutsUptoRow : OpenClaim := { program := "ytmpnhffnkbpcfaa", sum := "7528efe1f154d32eece23f72fabee1cda50f8c6d9a1da82c15acc344d55a6cc1", func := "pantler/pantlerlaw10.RegistryPuts", spec := "registryPuts", inPlace := ["internal/bytealg.abigen_runtime_cmpstring"], unfollowed := true, recurses := true, apart := false, narrowed := true }
def RegistryPutsUptoSaid : Prop := registryPutsUptoRow.holds Try.pinned (OpenSpec.upto registryPutsSpec)

/-- 'pantlerlaw10.RegistrySets', WHERE WHAT IT READS IS OF BULK AT MOST 1048576: true; the input reads as it did. -/
def registrySetsUptoRow : OpenClaim := { program := "ytmpnhffnkbpcfaa", sum := "7528efe1f154d32eece23f72fabee1cda50f8c6d9a1da82c15acc344d55a6cc1", func := "pantler/pantlerlaw10.RegistrySets", spec := "registrySets", inPlace := ["internal/bytealg.abigen_runtime_cmpstring"], unfollowed := true, recurses := true, apart := false, narrowed := true }
def RegistrySetsUptoSaid : Prop := registrySetsUptoRow.holds Try.pinned (OpenSpec.upto registrySetsSpec)

/-- 'pantlerlaw10.RegistryOrder', WHERE WHAT IT READS IS OF BULK AT MOST 1048576: true; the input reads as it did. -/
def registryOrderUptoRow : OpenClaim := { program := "ytmpnhffnkbpcfaa", sum := "7528efe1f154d32eece23f72fabee1cda50f8c6d9a1da82c15acc344d55a6cc1", func := "pantler/pantlerlaw10.RegistryOrder", spec := "registryOrder", inPlace := ["internal/bytealg.abigen_runtime_cmpstring"], unfollowed := true, recurses := true, apart := false, narrowed := true }
def RegistryOrderUptoSaid : Prop := registryOrderUptoRow.holds Try.pinned (OpenSpec.upto registryOrderSpec)

end Rows
end Go.Proofs.Ytmpnhffnkbpcfaa
