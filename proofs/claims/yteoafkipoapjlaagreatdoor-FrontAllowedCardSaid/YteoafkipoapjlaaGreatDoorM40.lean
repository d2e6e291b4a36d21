/- The runs of Go's generic library functions in lifted texts. Printed by a program. -/
import Derived.Test.YteoafkipoapjlaaGreatDoorL40
import Derived.Test.YteoafkipoapjlaaGreatDoorTrI
namespace Go.Eng
open Go Go.Proofs

theorem slices_IndexFunc_Entry_registry_Get_1_run (x0 : List Entry) (x1 : Str) (p : Entry → Bool) (hl : x0.length ≤ 1000000) (hp : ∀ x, x ∈ x0 → (registry_Get_1_T x x1).run = some (p x)) : (slices_IndexFunc_Entry_registry_Get_1_T x0 x1).run = some (idxI p x0) := by
  unfold slices_IndexFunc_Entry_registry_Get_1_T
  refine index_tree x0 p _ hl (fun i hi => ?_) ?_
  · unfold slices_IndexFunc_Entry_registry_Get_1_L2_step
    simp only [Tree.run, Int.ofNat_lt, hi, decide_true, cond_true, inb_nat, Int.toNat_natCast, getD_lt _ _ _ hi, hp _ (List.getElem_mem hi), Option.bind_some]
    cases p x0[i] <;> rfl
  · unfold slices_IndexFunc_Entry_registry_Get_1_L2_step; simp [Tree.run]

end Go.Eng
