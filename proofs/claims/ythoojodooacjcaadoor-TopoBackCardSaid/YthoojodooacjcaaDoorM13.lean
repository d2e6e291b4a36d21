/- The runs of Go's generic library functions in lifted texts. Printed by a program. -/
import Derived.Test.YthoojodooacjcaaDoorL13
import Derived.Test.YthoojodooacjcaaDoorTrI
namespace Go.Eng
open Go Go.Proofs

theorem slices_Clone_Entry_run (x0 : List Entry) (hl : x0.length ≤ 1000000) : (slices_Clone_Entry_T x0).run = some x0 := by
  unfold slices_Clone_Entry_T
  cases x0 with
  | nil => simp [Tree.run, Nat.beq]
  | cons x l =>
    have : Nat.beq (x :: l).length 0 = false := rfl
    simp only [Tree.run, this, room_le _ 56 hl (by omega), cond_true, cond_false]

theorem slices_IndexFunc_Entry_registry_Under_1_run (x0 : List Entry) (x1 : Str) (p : Entry → Bool) (hl : x0.length ≤ 1000000) (hp : ∀ x, x ∈ x0 → (registry_Under_1_T x x1).run = some (p x)) : (slices_IndexFunc_Entry_registry_Under_1_T x0 x1).run = some (idxI p x0) := by
  unfold slices_IndexFunc_Entry_registry_Under_1_T
  refine index_tree x0 p _ hl (fun i hi => ?_) ?_
  · unfold slices_IndexFunc_Entry_registry_Under_1_L2_step
    simp only [Tree.run, Int.ofNat_lt, hi, decide_true, cond_true, inb_nat, Int.toNat_natCast, getD_lt _ _ _ hi, hp _ (List.getElem_mem hi), Option.bind_some]
    cases p x0[i] <;> rfl
  · unfold slices_IndexFunc_Entry_registry_Under_1_L2_step; simp [Tree.run]

theorem slices_DeleteFunc_Entry_registry_Under_1_run (x0 : List Entry) (x1 : Str) (p : Entry → Bool) (hl : x0.length ≤ 1000000) (hp : ∀ x, x ∈ x0 → (registry_Under_1_T x x1).run = some (p x)) : (slices_DeleteFunc_Entry_registry_Under_1_T x0 x1).run = some (x0.filter (fun x => !p x), ((x1, ()), ())) := by
  unfold slices_DeleteFunc_Entry_registry_Under_1_T
  refine delete_tree x0 p _ _ _ _ hl (slices_IndexFunc_Entry_registry_Under_1_run x0 x1 p hl hp) (fun i j s hj hij hs hm => ?_) (fun i j s hs hj => ?_)
  · have hi' : i < s.length := by omega
    unfold slices_DeleteFunc_Entry_registry_Under_1_L5_step
    simp only [Tree.run, Int.ofNat_lt, hj, hi', decide_true, cond_true, inb_nat, Int.toNat_natCast, getD_lt _ _ _ hj, hp _ hm, Option.bind_some, w64_i j (by omega), w64_i i (by omega)]
    cases p s[j] <;> rfl
  · subst hj
    unfold slices_DeleteFunc_Entry_registry_Under_1_L5_step
    simp [Tree.run]

theorem slices_Clone_Member_run (x0 : List Member) (hl : x0.length ≤ 1000000) : (slices_Clone_Member_T x0).run = some x0 := by
  unfold slices_Clone_Member_T
  cases x0 with
  | nil => simp [Tree.run, Nat.beq]
  | cons x l =>
    have : Nat.beq (x :: l).length 0 = false := rfl
    simp only [Tree.run, this, room_le _ 56 hl (by omega), cond_true, cond_false]

theorem slices_IndexFunc_Member_topo_Up_1_run (x0 : List Member) (p : Member → Bool) (hl : x0.length ≤ 1000000) (hp : ∀ x, x ∈ x0 → (topo_Up_1_T x).run = some (p x)) : (slices_IndexFunc_Member_topo_Up_1_T x0).run = some (idxI p x0) := by
  unfold slices_IndexFunc_Member_topo_Up_1_T
  refine index_tree x0 p _ hl (fun i hi => ?_) ?_
  · unfold slices_IndexFunc_Member_topo_Up_1_L2_step
    simp only [Tree.run, Int.ofNat_lt, hi, decide_true, cond_true, inb_nat, Int.toNat_natCast, getD_lt _ _ _ hi, hp _ (List.getElem_mem hi), Option.bind_some]
    cases p x0[i] <;> rfl
  · unfold slices_IndexFunc_Member_topo_Up_1_L2_step; simp [Tree.run]

theorem slices_DeleteFunc_Member_topo_Up_1_run (x0 : List Member) (p : Member → Bool) (hl : x0.length ≤ 1000000) (hp : ∀ x, x ∈ x0 → (topo_Up_1_T x).run = some (p x)) : (slices_DeleteFunc_Member_topo_Up_1_T x0).run = some (x0.filter (fun x => !p x), ()) := by
  unfold slices_DeleteFunc_Member_topo_Up_1_T
  refine delete_tree x0 p _ _ _ _ hl (slices_IndexFunc_Member_topo_Up_1_run x0 p hl hp) (fun i j s hj hij hs hm => ?_) (fun i j s hs hj => ?_)
  · have hi' : i < s.length := by omega
    unfold slices_DeleteFunc_Member_topo_Up_1_L5_step
    simp only [Tree.run, Int.ofNat_lt, hj, hi', decide_true, cond_true, inb_nat, Int.toNat_natCast, getD_lt _ _ _ hj, hp _ hm, Option.bind_some, w64_i j (by omega), w64_i i (by omega)]
    cases p s[j] <;> rfl
  · subst hj
    unfold slices_DeleteFunc_Member_topo_Up_1_L5_step
    simp [Tree.run]

end Go.Eng
