/- The runs of Go's generic library functions in lifted texts. Printed by a program. -/
import Derived.Test.YthmlpkdgmpbffaaGreatDoorL52z
import Derived.Test.YthmlpkdgmpbffaaGreatDoorTrI
namespace Go.Eng
open Go Go.Proofs

theorem slices_Index_string_run (x0 : List Str) (x1 : Str) (hl : x0.length ≤ 1000000) : (slices_Index_string_T x0 x1).run = some (idxI (fun y => (x1 == y)) x0) := by
  unfold slices_Index_string_T
  refine index_tree x0 (fun y => (x1 == y)) _ hl (fun i hi => ?_) ?_
  · unfold slices_Index_string_L2_step
    simp only [Tree.run, Int.ofNat_lt, hi, decide_true, cond_true, inb_nat, Int.toNat_natCast, getD_lt _ _ _ hi]
    cases (x1 == x0[i]) <;> rfl
  · unfold slices_Index_string_L2_step; simp [Tree.run]

end Go.Eng
