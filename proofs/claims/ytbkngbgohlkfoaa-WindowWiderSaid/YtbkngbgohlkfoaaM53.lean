/- The runs of Go's generic library functions in lifted texts. Printed by a program. -/
import Derived.Test.YtbkngbgohlkfoaaL53
import Derived.Test.YtbkngbgohlkfoaaTrI
namespace Go.Eng
open Go Go.Proofs

theorem slices_Clone_int_run (x0 : List Int) (hl : x0.length ≤ 1000000) : (slices_Clone_int_T x0).run = some x0 := by
  unfold slices_Clone_int_T
  cases x0 with
  | nil => simp [Tree.run, Nat.beq]
  | cons x l =>
    have : Nat.beq (x :: l).length 0 = false := rfl
    simp only [Tree.run, this, room_le _ 8 hl (by omega), cond_true, cond_false]

end Go.Eng
