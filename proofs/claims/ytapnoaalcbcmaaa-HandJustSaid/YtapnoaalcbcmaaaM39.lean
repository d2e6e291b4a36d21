/- The runs of Go's generic library functions in lifted texts. Printed by a program. -/
import Derived.Test.YtapnoaalcbcmaaaL39
import Derived.Test.YtapnoaalcbcmaaaTrI
namespace Go.Eng
open Go Go.Proofs

theorem slices_IndexFunc_string_hand_Hand_Ready_1_run (x0 : List Str) (x1 : Int) (x2 : Str) (x3 : List (Str × Int)) (p : Str → Bool) (hl : x0.length ≤ 1000000) (hp : ∀ x, x ∈ x0 → (hand_Hand_Ready_1_T x x1 x2 x3).run = some (p x)) : (slices_IndexFunc_string_hand_Hand_Ready_1_T x0 x1 x2 x3).run = some (idxI p x0) := by
  unfold slices_IndexFunc_string_hand_Hand_Ready_1_T
  refine index_tree x0 p _ hl (fun i hi => ?_) ?_
  · unfold slices_IndexFunc_string_hand_Hand_Ready_1_L2_step
    simp only [Tree.run, Int.ofNat_lt, hi, decide_true, cond_true, inb_nat, Int.toNat_natCast, getD_lt _ _ _ hi, hp _ (List.getElem_mem hi), Option.bind_some]
    cases p x0[i] <;> rfl
  · unfold slices_IndexFunc_string_hand_Hand_Ready_1_L2_step; simp [Tree.run]

theorem slices_ContainsFunc_string_hand_Hand_Ready_1_run (x0 : List Str) (x1 : Int) (x2 : Str) (x3 : List (Str × Int)) (p : Str → Bool) (hl : x0.length ≤ 1000000) (hp : ∀ x, x ∈ x0 → (hand_Hand_Ready_1_T x x1 x2 x3).run = some (p x)) : (slices_ContainsFunc_string_hand_Hand_Ready_1_T x0 x1 x2 x3).run = some (x0.any p) := by
  unfold slices_ContainsFunc_string_hand_Hand_Ready_1_T
  simp only [Tree.run, slices_IndexFunc_string_hand_Hand_Ready_1_run x0 x1 x2 x3 p hl hp, Option.bind_some, idxI_any]

theorem slices_IndexFunc_string_hand_Hand_Ready_1__run (x0 : List Str) (x1 : Int) (x2 : Str) (p : Str → Bool) (hl : x0.length ≤ 1000000) (hp : ∀ x, x ∈ x0 → (hand_Hand_Ready_1__T x x1 x2).run = some (p x)) : (slices_IndexFunc_string_hand_Hand_Ready_1__T x0 x1 x2).run = some (idxI p x0) := by
  unfold slices_IndexFunc_string_hand_Hand_Ready_1__T
  refine index_tree x0 p _ hl (fun i hi => ?_) ?_
  · unfold slices_IndexFunc_string_hand_Hand_Ready_1__L2_step
    simp only [Tree.run, Int.ofNat_lt, hi, decide_true, cond_true, inb_nat, Int.toNat_natCast, getD_lt _ _ _ hi, hp _ (List.getElem_mem hi), Option.bind_some]
    cases p x0[i] <;> rfl
  · unfold slices_IndexFunc_string_hand_Hand_Ready_1__L2_step; simp [Tree.run]

theorem slices_ContainsFunc_string_hand_Hand_Ready_1__run (x0 : List Str) (x1 : Int) (x2 : Str) (p : Str → Bool) (hl : x0.length ≤ 1000000) (hp : ∀ x, x ∈ x0 → (hand_Hand_Ready_1__T x x1 x2).run = some (p x)) : (slices_ContainsFunc_string_hand_Hand_Ready_1__T x0 x1 x2).run = some (x0.any p) := by
  unfold slices_ContainsFunc_string_hand_Hand_Ready_1__T
  simp only [Tree.run, slices_IndexFunc_string_hand_Hand_Ready_1__run x0 x1 x2 p hl hp, Option.bind_some, idxI_any]

end Go.Eng
