/- What the package-level variables hold that the program's functions read: nothing is asked in this seat. -/
import Derived.WalkKit
namespace Go.Eng
open Go

def gblks : List Nat := []
def GL (_ : World) : Prop := True
theorem GL.mono {w w' : World} (_ : GL w) (_ : ∀ g, g ∈ gblks → w'.heap[g]? = w.heap[g]?) : GL w' := trivial
theorem GL.lt {w : World} (_ : GL w) : ∀ g, g ∈ gblks → g < w.heap.size := fun _ h => absurd h List.not_mem_nil

end Go.Eng
