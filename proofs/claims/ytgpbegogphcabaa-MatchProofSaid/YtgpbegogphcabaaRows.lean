/-
  No cell of these rows narrows 'for every input' (looked for: loops, veiled, ifaces, maps, wideKeys, modest, calm, conditions, laid).
  DERIVED. THE GIVEN ROWS OF THIS SEAT. 8 by the template 'for every input the law returns true; each argument reads behind the call as it read before'; 0 by the template 'total and deterministic' (their statements: YtgpbegogphcabaaTotals.lean).
  GIVEN WITH THE SEED: the statements are not yours to turn. If you find one false, say at which input.
  Laid BY PROGRAM, IN A SANDBOX (cutbox-rows.mjs): the forced cells as the released guide's own fill.sh prints them over the translation d238607bd1620987… (all of the seat's roots in one cut). By AI agents, Wed Nov 11 2026. No macro, syntax, notation, axiom, sorry.
-/
import Derived.Test.YtgpbegogphcabaaChecked
import GoSem.Claim
import GoSem.ClaimJoined
import GoSem.ClaimMapViews
import Derived.JoinedTies
import Derived.KernelRfl
namespace Go.Proofs.Ytgpbegogphcabaa
/- THE CELL 'sum', in the pinned program and in every row, IS THE sha256 OF THE DUMP (.gsa) THAT YtgpbegogphcabaaProg.lean LOADS. Nothing in Lean hashes anything: it is a label: what it is worth is what the hold of that sum in a sandbox is worth. -/
noncomputable def Try.pinned : Pinned := { name := "ytgpbegogphcabaa", sum := "d238607bd1620987b13d4df28719d32494e8fb7edd18cb6d31faf6d955aa1ceb", checked := Try.checked }
namespace Rows
def none {H : Type} : Left H := { results := [], args := [] }

/-- 'pantlerlaw39.HandPlays': WHATEVER THE INPUT: true; the input reads as it did. -/
def handPlaysSpec : ChangeSpec := { name := "handPlays", fn := fun _ => fun
  | [d1, d2, d3] => { results := [.lit (.bool true)], args := [d1, d2, d3] }
  | _ => none }
def handPlaysRow : OpenClaim := { program := "ytgpbegogphcabaa", sum := "d238607bd1620987b13d4df28719d32494e8fb7edd18cb6d31faf6d955aa1ceb", func := "pantler/pantlerlaw39.HandPlays", spec := "handPlays", unfollowed := true, recurses := true, apart := false }
def HandPlaysSaid : Prop := handPlaysRow.holds Try.pinned (OpenSpec.ofChange handPlaysSpec)

/-- ITS FALSE NEIGHBOUR: 'it returns false'. Refute it at one input. -/
def handPlaysWrong : ChangeSpec := { name := "handPlays", fn := fun _ => fun
  | [d1, d2, d3] => { results := [.lit (.bool false)], args := [d1, d2, d3] }
  | _ => none }
def HandPlaysWrongFalsely : Prop := handPlaysRow.holds Try.pinned (OpenSpec.ofChange handPlaysWrong)

/-- 'pantlerlaw39.HandJust': WHATEVER THE INPUT: true; the input reads as it did. -/
def handJustSpec : ChangeSpec := { name := "handJust", fn := fun _ => fun
  | [d1, d2] => { results := [.lit (.bool true)], args := [d1, d2] }
  | _ => none }
def handJustRow : OpenClaim := { program := "ytgpbegogphcabaa", sum := "d238607bd1620987b13d4df28719d32494e8fb7edd18cb6d31faf6d955aa1ceb", func := "pantler/pantlerlaw39.HandJust", spec := "handJust", unfollowed := true, recurses := true, apart := false }
def HandJustSaid : Prop := handJustRow.holds Try.pinned (OpenSpec.ofChange handJustSpec)

/-- ITS FALSE NEIGHBOUR: 'it returns false'. Refute it at one input. -/
def handJustWrong : ChangeSpec := { name := "handJust", fn := fun _ => fun
  | [d1, d2] => { results := [.lit (.bool false)], args := [d1, d2] }
  | _ => none }
def HandJustWrongFalsely : Prop := handJustRow.holds Try.pinned (OpenSpec.ofChange handJustWrong)

/-- 'pantlerlaw33.NetPlays': WHATEVER THE INPUT: true; the input reads as it did. -/
def netPlaysSpec : ChangeSpec := { name := "netPlays", fn := fun _ => fun
  | [d] => { results := [.lit (.bool true)], args := [d] }
  | _ => none }
def netPlaysRow : OpenClaim := { program := "ytgpbegogphcabaa", sum := "d238607bd1620987b13d4df28719d32494e8fb7edd18cb6d31faf6d955aa1ceb", func := "pantler/pantlerlaw33.NetPlays", spec := "netPlays", recurses := true, apart := false }
def NetPlaysSaid : Prop := netPlaysRow.holds Try.pinned (OpenSpec.ofChange netPlaysSpec)

/-- ITS FALSE NEIGHBOUR: 'it returns false'. Refute it at one input. -/
def netPlaysWrong : ChangeSpec := { name := "netPlays", fn := fun _ => fun
  | [d] => { results := [.lit (.bool false)], args := [d] }
  | _ => none }
def NetPlaysWrongFalsely : Prop := netPlaysRow.holds Try.pinned (OpenSpec.ofChange netPlaysWrong)

/-- 'pantlerlaw33.NetApart': WHATEVER THE INPUT: true; the input reads as it did. -/
def netApartSpec : ChangeSpec := { name := "netApart", fn := fun _ => fun
  | [d1, d2] => { results := [.lit (.bool true)], args := [d1, d2] }
  | _ => none }
def netApartRow : OpenClaim := { program := "ytgpbegogphcabaa", sum := "d238607bd1620987b13d4df28719d32494e8fb7edd18cb6d31faf6d955aa1ceb", func := "pantler/pantlerlaw33.NetApart", spec := "netApart", recurses := true, apart := false }
def NetApartSaid : Prop := netApartRow.holds Try.pinned (OpenSpec.ofChange netApartSpec)

/-- ITS FALSE NEIGHBOUR: 'it returns false'. Refute it at one input. -/
def netApartWrong : ChangeSpec := { name := "netApart", fn := fun _ => fun
  | [d1, d2] => { results := [.lit (.bool false)], args := [d1, d2] }
  | _ => none }
def NetApartWrongFalsely : Prop := netApartRow.holds Try.pinned (OpenSpec.ofChange netApartWrong)

/-- 'pantlerlaw33.NetNobody': WHATEVER THE INPUT: true; the input reads as it did. -/
def netNobodySpec : ChangeSpec := { name := "netNobody", fn := fun _ => fun
  | [d] => { results := [.lit (.bool true)], args := [d] }
  | _ => none }
def netNobodyRow : OpenClaim := { program := "ytgpbegogphcabaa", sum := "d238607bd1620987b13d4df28719d32494e8fb7edd18cb6d31faf6d955aa1ceb", func := "pantler/pantlerlaw33.NetNobody", spec := "netNobody", recurses := true, apart := false }
def NetNobodySaid : Prop := netNobodyRow.holds Try.pinned (OpenSpec.ofChange netNobodySpec)

/-- ITS FALSE NEIGHBOUR: 'it returns false'. Refute it at one input. -/
def netNobodyWrong : ChangeSpec := { name := "netNobody", fn := fun _ => fun
  | [d] => { results := [.lit (.bool false)], args := [d] }
  | _ => none }
def NetNobodyWrongFalsely : Prop := netNobodyRow.holds Try.pinned (OpenSpec.ofChange netNobodyWrong)

/-- 'pantlerlaw16.MatchMax': WHATEVER THE INPUT: true; the input reads as it did. -/
def matchMaxSpec : ChangeSpec := { name := "matchMax", fn := fun _ => fun
  | [d] => { results := [.lit (.bool true)], args := [d] }
  | _ => none }
def matchMaxRow : OpenClaim := { program := "ytgpbegogphcabaa", sum := "d238607bd1620987b13d4df28719d32494e8fb7edd18cb6d31faf6d955aa1ceb", func := "pantler/pantlerlaw16.MatchMax", spec := "matchMax", unfollowed := true, recurses := true, apart := false }
def MatchMaxSaid : Prop := matchMaxRow.holds Try.pinned (OpenSpec.ofChange matchMaxSpec)

/-- ITS FALSE NEIGHBOUR: 'it returns false'. Refute it at one input. -/
def matchMaxWrong : ChangeSpec := { name := "matchMax", fn := fun _ => fun
  | [d] => { results := [.lit (.bool false)], args := [d] }
  | _ => none }
def MatchMaxWrongFalsely : Prop := matchMaxRow.holds Try.pinned (OpenSpec.ofChange matchMaxWrong)

/-- 'pantlerlaw16.MatchProof': WHATEVER THE INPUT: true; the input reads as it did. -/
def matchProofSpec : ChangeSpec := { name := "matchProof", fn := fun _ => fun
  | [d] => { results := [.lit (.bool true)], args := [d] }
  | _ => none }
def matchProofRow : OpenClaim := { program := "ytgpbegogphcabaa", sum := "d238607bd1620987b13d4df28719d32494e8fb7edd18cb6d31faf6d955aa1ceb", func := "pantler/pantlerlaw16.MatchProof", spec := "matchProof", unfollowed := true, recurses := true, apart := false }
def MatchProofSaid : Prop := matchProofRow.holds Try.pinned (OpenSpec.ofChange matchProofSpec)

/-- ITS FALSE NEIGHBOUR: 'it returns false'. Refute it at one input. -/
def matchProofWrong : ChangeSpec := { name := "matchProof", fn := fun _ => fun
  | [d] => { results := [.lit (.bool false)], args := [d] }
  | _ => none }
def MatchProofWrongFalsely : Prop := matchProofRow.holds Try.pinned (OpenSpec.ofChange matchProofWrong)

/-- 'pantlerlaw16.MatchMore': WHATEVER THE INPUT: true; the input reads as it did. -/
def matchMoreSpec : ChangeSpec := { name := "matchMore", fn := fun _ => fun
  | [d1, d2] => { results := [.lit (.bool true)], args := [d1, d2] }
  | _ => none }
def matchMoreRow : OpenClaim := { program := "ytgpbegogphcabaa", sum := "d238607bd1620987b13d4df28719d32494e8fb7edd18cb6d31faf6d955aa1ceb", func := "pantler/pantlerlaw16.MatchMore", spec := "matchMore", unfollowed := true, recurses := true, apart := false }
def MatchMoreSaid : Prop := matchMoreRow.holds Try.pinned (OpenSpec.ofChange matchMoreSpec)

/-- ITS FALSE NEIGHBOUR: 'it returns false'. Refute it at one input. -/
def matchMoreWrong : ChangeSpec := { name := "matchMore", fn := fun _ => fun
  | [d1, d2] => { results := [.lit (.bool false)], args := [d1, d2] }
  | _ => none }
def MatchMoreWrongFalsely : Prop := matchMoreRow.holds Try.pinned (OpenSpec.ofChange matchMoreWrong)

/- THE SECOND FORM. 'bulk': how many values and letters a reading holds, each counted each time it is reached (what is shared counts as often as it is met; a slice's spare places count too). A statement '..UptoSaid' is the law's where the arguments, and the package variables that the reading takes, are together of bulk at most 1048576: NARROWER than '..Said'. Prove '..Said' where nothing that the law and all that it calls make is longer than what came in: it says more and counts as full. Else prove '..UptoSaid'. A law counts once. -/
mutual
def uptoBulk {H : Type} : DataW H → Nat
  | .lit (.string bytes) => bytes.length + 1
  | .lit _ => 1
  | .nil => 1
  | .ptr d => uptoBulk d + 1
  | .slice elems spare => uptoBulkAll elems + uptoBulkAll spare + 1
  | .agg parts => uptoBulkAll parts + 1
  | .iface _ d => uptoBulk d + 1
  | .map entries => uptoBulkEntries entries + 1
  | .held _ => 1
def uptoBulkAll {H : Type} : List (DataW H) → Nat
  | [] => 0
  | d :: r => uptoBulk d + uptoBulkAll r
def uptoBulkEntries {H : Type} : List (Lit × DataW H) → Nat
  | [] => 0
  | x :: r => uptoBulkEntry x + uptoBulkEntries r
def uptoBulkEntry {H : Type} : Lit × DataW H → Nat
  | (.string bytes, d) => bytes.length + uptoBulk d + 1
  | (_, d) => uptoBulk d + 1
 end
def uptoSmall : (H : Type) → List (DataW H) → Bool := fun _ ds => decide (uptoBulkAll ds ≤ 1048576)
def OpenSpec.upto (s : _root_.Go.ChangeSpec) : _root_.Go.OpenSpec := { _root_.Go.OpenSpec.ofChange s with cond := some uptoSmall }

/-- 'pantlerlaw39.HandPlays', WHERE WHAT IT READS IS OF BULK AT MOST 1048576: true; the input reads as it did. -/
def handPlaysUptoRow : OpenClaim := { program := "ytgpbegogphcabaa", sum := "d238607bd1620987b13d4df28719d32494e8fb7edd18cb6d31faf6d955aa1ceb", func := "pantler/pantlerlaw39.HandPlays", spec := "handPlays", unfollowed := true, recurses := true, apart := false, narrowed := true }
def HandPlaysUptoSaid : Prop := handPlaysUptoRow.holds Try.pinned (OpenSpec.upto handPlaysSpec)

/-- 'pantlerlaw39.HandJust', WHERE WHAT IT READS IS OF BULK AT MOST 1048576: true; the input reads as it did. -/
def handJustUptoRow : OpenClaim := { program := "ytgpbegogphcabaa", sum := "d238607bd1620987b13d4df28719d32494e8fb7edd18cb6d31faf6d955aa1ceb", func := "pantler/pantlerlaw39.HandJust", spec := "handJust", unfollowed := true, recurses := true, apart := false, narrowed := true }
def HandJustUptoSaid : Prop := handJustUptoRow.holds Try.pinned (OpenSpec.upto handJustSpec)

/-- 'pantlerlaw33.NetPlays', WHERE WHAT IT READS IS OF BULK AT MOST 1048576: true; the input reads as it did. -/
def netPlaysUptoRow : OpenClaim := { program := "ytgpbegogphcabaa", sum := "d238607bd1620987b13d4df28719d32494e8fb7edd18cb6d31faf6d955aa1ceb", func := "pantler/pantlerlaw33.NetPlays", spec := "netPlays", recurses := true, apart := false, narrowed := true }
def NetPlaysUptoSaid : Prop := netPlaysUptoRow.holds Try.pinned (OpenSpec.upto netPlaysSpec)

/-- 'pantlerlaw33.NetApart', WHERE WHAT IT READS IS OF BULK AT MOST 1048576: true; the input reads as it did. -/
def netApartUptoRow : OpenClaim := { program := "ytgpbegogphcabaa", sum := "d238607bd1620987b13d4df28719d32494e8fb7edd18cb6d31faf6d955aa1ceb", func := "pantler/pantlerlaw33.NetApart", spec := "netApart", recurses := true, apart := false, narrowed := true }
def NetApartUptoSaid : Prop := netApartUptoRow.holds Try.pinned (OpenSpec.upto netApartSpec)

/-- 'pantlerlaw33.NetNobody', WHERE WHAT IT READS IS OF BULK AT MOST 1048576: true; the input reads as it did. -/
def netNobodyUptoRow : OpenClaim := { program := "ytgpbegogphcabaa", sum := "d238607bd1620987b13d4df28719d32494e8fb7edd18cb6d31faf6d955aa1ceb", func := "pantler/pantlerlaw33.NetNobody", spec := "netNobody", recurses := true, apart := false, narrowed := true }
def NetNobodyUptoSaid : Prop := netNobodyUptoRow.holds Try.pinned (OpenSpec.upto netNobodySpec)

/-- 'pantlerlaw16.MatchMax', WHERE WHAT IT READS IS OF BULK AT MOST 1048576: true; the input reads as it did. -/
def matchMaxUptoRow : OpenClaim := { program := "ytgpbegogphcabaa", sum := "d238607bd1620987b13d4df28719d32494e8fb7edd18cb6d31faf6d955aa1ceb", func := "pantler/pantlerlaw16.MatchMax", spec := "matchMax", unfollowed := true, recurses := true, apart := false, narrowed := true }
def MatchMaxUptoSaid : Prop := matchMaxUptoRow.holds Try.pinned (OpenSpec.upto matchMaxSpec)

/-- 'pantlerlaw16.MatchProof', WHERE WHAT IT READS IS OF BULK AT MOST 1048576: true; the input reads as it did. -/
def matchProofUptoRow : OpenClaim := { program := "ytgpbegogphcabaa", sum := "d238607bd1620987b13d4df28719d32494e8fb7edd18cb6d31faf6d955aa1ceb", func := "pantler/pantlerlaw16.MatchProof", spec := "matchProof", unfollowed := true, recurses := true, apart := false, narrowed := true }
def MatchProofUptoSaid : Prop := matchProofUptoRow.holds Try.pinned (OpenSpec.upto matchProofSpec)

/-- 'pantlerlaw16.MatchMore', WHERE WHAT IT READS IS OF BULK AT MOST 1048576: true; the input reads as it did. -/
def matchMoreUptoRow : OpenClaim := { program := "ytgpbegogphcabaa", sum := "d238607bd1620987b13d4df28719d32494e8fb7edd18cb6d31faf6d955aa1ceb", func := "pantler/pantlerlaw16.MatchMore", spec := "matchMore", unfollowed := true, recurses := true, apart := false, narrowed := true }
def MatchMoreUptoSaid : Prop := matchMoreUptoRow.holds Try.pinned (OpenSpec.upto matchMoreSpec)

end Rows
end Go.Proofs.Ytgpbegogphcabaa
