/- Registers: whether one may be, which of two is newer, what they come to, the next one: the program's functions and the reference's come to the same plain ones. -/
import Derived.Test.YteoafkipoapjlaaGreatDoorM40
import Derived.Test.YteoafkipoapjlaaGreatDoorK05
namespace Go.Eng
open Go Go.Proofs

/-! May a register be? -/
def regB (r : Reg) : Bool := decide ((1 : Int) ≤ r.1) && decide (r.1 ≤ 9007199254740992) && ((r.2.1 == ([] : Str)) || nameS r.2.1) && decide (r.2.2.length ≤ 256)
theorem regMay_run (r : Reg) (h : r.2.1.length ≤ 1000000) : (r09_May_T r).run = some (regB r) := by
  unfold r09_May_T regB
  simp only [Tree.run, r05Is_run _ h, Option.isNone_some, Bool.and_false, cond_false, Option.getD_some]
  have f3 : decide ((r.2.2.length : Int) ≤ 256) = decide (r.2.2.length ≤ 256) := by rw [decide_eq_decide]; omega
  rw [f3]

/-! Which is newer? -/
/-! What two come to. -/
/-! The next one. -/
