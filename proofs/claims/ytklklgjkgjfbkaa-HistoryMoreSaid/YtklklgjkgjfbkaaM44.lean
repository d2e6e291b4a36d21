/- The runs of Go's generic library functions in lifted texts. Printed by a program. -/
import Derived.Test.YtklklgjkgjfbkaaL44
import Derived.Test.YtklklgjkgjfbkaaTrI
namespace Go.Eng
open Go Go.Proofs

theorem slices_Index_int_run (x0 : List Int) (x1 : Int) (hl : x0.length ≤ 1000000) : (slices_Index_int_T x0 x1).run = some (idxI (fun y => (decide (x1 = y))) x0) := by
  unfold slices_Index_int_T
  refine index_tree x0 (fun y => (decide (x1 = y))) _ hl (fun i hi => ?_) ?_
  · unfold slices_Index_int_L2_step
    simp only [Tree.run, Int.ofNat_lt, hi, decide_true, cond_true, inb_nat, Int.toNat_natCast, getD_lt _ _ _ hi]
    cases (decide (x1 = x0[i])) <;> rfl
  · unfold slices_Index_int_L2_step; simp [Tree.run]

theorem slices_Contains_int_run (x0 : List Int) (x1 : Int) (hl : x0.length ≤ 1000000) : (slices_Contains_int_T x0 x1).run = some (x0.any (fun y => (decide (x1 = y)))) := by
  unfold slices_Contains_int_T
  simp only [Tree.run, slices_Index_int_run x0 x1 hl, Option.bind_some, idxI_any]

theorem slices_IndexFunc_Seen_dots_Has_1_run (x0 : List Seen) (x1 : Dot) (p : Seen → Bool) (hl : x0.length ≤ 1000000) (hp : ∀ x, x ∈ x0 → (dots_Has_1_T x x1).run = some (p x)) : (slices_IndexFunc_Seen_dots_Has_1_T x0 x1).run = some (idxI p x0) := by
  unfold slices_IndexFunc_Seen_dots_Has_1_T
  refine index_tree x0 p _ hl (fun i hi => ?_) ?_
  · unfold slices_IndexFunc_Seen_dots_Has_1_L2_step
    simp only [Tree.run, Int.ofNat_lt, hi, decide_true, cond_true, inb_nat, Int.toNat_natCast, getD_lt _ _ _ hi, hp _ (List.getElem_mem hi), Option.bind_some]
    cases p x0[i] <;> rfl
  · unfold slices_IndexFunc_Seen_dots_Has_1_L2_step; simp [Tree.run]

theorem slices_ContainsFunc_Seen_dots_Has_1_run (x0 : List Seen) (x1 : Dot) (p : Seen → Bool) (hl : x0.length ≤ 1000000) (hp : ∀ x, x ∈ x0 → (dots_Has_1_T x x1).run = some (p x)) : (slices_ContainsFunc_Seen_dots_Has_1_T x0 x1).run = some (x0.any p) := by
  unfold slices_ContainsFunc_Seen_dots_Has_1_T
  simp only [Tree.run, slices_IndexFunc_Seen_dots_Has_1_run x0 x1 p hl hp, Option.bind_some, idxI_any]

theorem slices_IndexFunc_int_dots_Covers_2_run (x0 : List Int) (x1 : Seen) (p : Int → Bool) (hl : x0.length ≤ 1000000) (hp : ∀ x, x ∈ x0 → (dots_Covers_2_T x x1).run = some (p x)) : (slices_IndexFunc_int_dots_Covers_2_T x0 x1).run = some (idxI p x0) := by
  unfold slices_IndexFunc_int_dots_Covers_2_T
  refine index_tree x0 p _ hl (fun i hi => ?_) ?_
  · unfold slices_IndexFunc_int_dots_Covers_2_L2_step
    simp only [Tree.run, Int.ofNat_lt, hi, decide_true, cond_true, inb_nat, Int.toNat_natCast, getD_lt _ _ _ hi, hp _ (List.getElem_mem hi), Option.bind_some]
    cases p x0[i] <;> rfl
  · unfold slices_IndexFunc_int_dots_Covers_2_L2_step; simp [Tree.run]

theorem slices_ContainsFunc_int_dots_Covers_2_run (x0 : List Int) (x1 : Seen) (p : Int → Bool) (hl : x0.length ≤ 1000000) (hp : ∀ x, x ∈ x0 → (dots_Covers_2_T x x1).run = some (p x)) : (slices_ContainsFunc_int_dots_Covers_2_T x0 x1).run = some (x0.any p) := by
  unfold slices_ContainsFunc_int_dots_Covers_2_T
  simp only [Tree.run, slices_IndexFunc_int_dots_Covers_2_run x0 x1 p hl hp, Option.bind_some, idxI_any]

theorem slices_IndexFunc_Deed_history_wrote_1_run (x0 : List Deed) (x1 : Deed) (x2 : Deed) (p : Deed → Bool) (hl : x0.length ≤ 1000000) (hp : ∀ x, x ∈ x0 → (history_wrote_1_T x x1 x2).run = some (p x)) : (slices_IndexFunc_Deed_history_wrote_1_T x0 x1 x2).run = some (idxI p x0) := by
  unfold slices_IndexFunc_Deed_history_wrote_1_T
  refine index_tree x0 p _ hl (fun i hi => ?_) ?_
  · unfold slices_IndexFunc_Deed_history_wrote_1_L2_step
    simp only [Tree.run, Int.ofNat_lt, hi, decide_true, cond_true, inb_nat, Int.toNat_natCast, getD_lt _ _ _ hi, hp _ (List.getElem_mem hi), Option.bind_some]
    cases p x0[i] <;> rfl
  · unfold slices_IndexFunc_Deed_history_wrote_1_L2_step; simp [Tree.run]

theorem slices_ContainsFunc_Deed_history_wrote_1_run (x0 : List Deed) (x1 : Deed) (x2 : Deed) (p : Deed → Bool) (hl : x0.length ≤ 1000000) (hp : ∀ x, x ∈ x0 → (history_wrote_1_T x x1 x2).run = some (p x)) : (slices_ContainsFunc_Deed_history_wrote_1_T x0 x1 x2).run = some (x0.any p) := by
  unfold slices_ContainsFunc_Deed_history_wrote_1_T
  simp only [Tree.run, slices_IndexFunc_Deed_history_wrote_1_run x0 x1 x2 p hl hp, Option.bind_some, idxI_any]

theorem slices_IndexFunc_Deed_history_Closed_1_run (x0 : List Deed) (x1 : List Deed) (p : Deed → Bool) (hl : x0.length ≤ 1000000) (hp : ∀ x, x ∈ x0 → (history_Closed_1_T x x1).run = some (p x)) : (slices_IndexFunc_Deed_history_Closed_1_T x0 x1).run = some (idxI p x0) := by
  unfold slices_IndexFunc_Deed_history_Closed_1_T
  refine index_tree x0 p _ hl (fun i hi => ?_) ?_
  · unfold slices_IndexFunc_Deed_history_Closed_1_L2_step
    simp only [Tree.run, Int.ofNat_lt, hi, decide_true, cond_true, inb_nat, Int.toNat_natCast, getD_lt _ _ _ hi, hp _ (List.getElem_mem hi), Option.bind_some]
    cases p x0[i] <;> rfl
  · unfold slices_IndexFunc_Deed_history_Closed_1_L2_step; simp [Tree.run]

theorem slices_ContainsFunc_Deed_history_Closed_1_run (x0 : List Deed) (x1 : List Deed) (p : Deed → Bool) (hl : x0.length ≤ 1000000) (hp : ∀ x, x ∈ x0 → (history_Closed_1_T x x1).run = some (p x)) : (slices_ContainsFunc_Deed_history_Closed_1_T x0 x1).run = some (x0.any p) := by
  unfold slices_ContainsFunc_Deed_history_Closed_1_T
  simp only [Tree.run, slices_IndexFunc_Deed_history_Closed_1_run x0 x1 p hl hp, Option.bind_some, idxI_any]

theorem slices_IndexFunc_Deed_history_Put_1_run (x0 : List Deed) (x1 : Sib) (x2 : Deed) (p : Deed → Bool) (hl : x0.length ≤ 1000000) (hp : ∀ x, x ∈ x0 → (history_Put_1_T x x1 x2).run = some (p x)) : (slices_IndexFunc_Deed_history_Put_1_T x0 x1 x2).run = some (idxI p x0) := by
  unfold slices_IndexFunc_Deed_history_Put_1_T
  refine index_tree x0 p _ hl (fun i hi => ?_) ?_
  · unfold slices_IndexFunc_Deed_history_Put_1_L2_step
    simp only [Tree.run, Int.ofNat_lt, hi, decide_true, cond_true, inb_nat, Int.toNat_natCast, getD_lt _ _ _ hi, hp _ (List.getElem_mem hi), Option.bind_some]
    cases p x0[i] <;> rfl
  · unfold slices_IndexFunc_Deed_history_Put_1_L2_step; simp [Tree.run]

theorem slices_ContainsFunc_Deed_history_Put_1_run (x0 : List Deed) (x1 : Sib) (x2 : Deed) (p : Deed → Bool) (hl : x0.length ≤ 1000000) (hp : ∀ x, x ∈ x0 → (history_Put_1_T x x1 x2).run = some (p x)) : (slices_ContainsFunc_Deed_history_Put_1_T x0 x1 x2).run = some (x0.any p) := by
  unfold slices_ContainsFunc_Deed_history_Put_1_T
  simp only [Tree.run, slices_IndexFunc_Deed_history_Put_1_run x0 x1 x2 p hl hp, Option.bind_some, idxI_any]

theorem slices_IndexFunc_Deed_history_wrote_1__run (x0 : List Deed) (x1 : Deed) (x2 : Deed) (x3 : Sib) (p : Deed → Bool) (hl : x0.length ≤ 1000000) (hp : ∀ x, x ∈ x0 → (history_wrote_1__T x x1 x2 x3).run = some (p x)) : (slices_IndexFunc_Deed_history_wrote_1__T x0 x1 x2 x3).run = some (idxI p x0) := by
  unfold slices_IndexFunc_Deed_history_wrote_1__T
  refine index_tree x0 p _ hl (fun i hi => ?_) ?_
  · unfold slices_IndexFunc_Deed_history_wrote_1__L2_step
    simp only [Tree.run, Int.ofNat_lt, hi, decide_true, cond_true, inb_nat, Int.toNat_natCast, getD_lt _ _ _ hi, hp _ (List.getElem_mem hi), Option.bind_some]
    cases p x0[i] <;> rfl
  · unfold slices_IndexFunc_Deed_history_wrote_1__L2_step; simp [Tree.run]

theorem slices_ContainsFunc_Deed_history_wrote_1__run (x0 : List Deed) (x1 : Deed) (x2 : Deed) (x3 : Sib) (p : Deed → Bool) (hl : x0.length ≤ 1000000) (hp : ∀ x, x ∈ x0 → (history_wrote_1__T x x1 x2 x3).run = some (p x)) : (slices_ContainsFunc_Deed_history_wrote_1__T x0 x1 x2 x3).run = some (x0.any p) := by
  unfold slices_ContainsFunc_Deed_history_wrote_1__T
  simp only [Tree.run, slices_IndexFunc_Deed_history_wrote_1__run x0 x1 x2 x3 p hl hp, Option.bind_some, idxI_any]

theorem slices_IndexFunc_Deed_history_wrote_1___run (x0 : List Deed) (x1 : Deed) (x2 : Deed) (p : Deed → Bool) (hl : x0.length ≤ 1000000) (hp : ∀ x, x ∈ x0 → (history_wrote_1___T x x1 x2).run = some (p x)) : (slices_IndexFunc_Deed_history_wrote_1___T x0 x1 x2).run = some (idxI p x0) := by
  unfold slices_IndexFunc_Deed_history_wrote_1___T
  refine index_tree x0 p _ hl (fun i hi => ?_) ?_
  · unfold slices_IndexFunc_Deed_history_wrote_1___L2_step
    simp only [Tree.run, Int.ofNat_lt, hi, decide_true, cond_true, inb_nat, Int.toNat_natCast, getD_lt _ _ _ hi, hp _ (List.getElem_mem hi), Option.bind_some]
    cases p x0[i] <;> rfl
  · unfold slices_IndexFunc_Deed_history_wrote_1___L2_step; simp [Tree.run]

theorem slices_ContainsFunc_Deed_history_wrote_1___run (x0 : List Deed) (x1 : Deed) (x2 : Deed) (p : Deed → Bool) (hl : x0.length ≤ 1000000) (hp : ∀ x, x ∈ x0 → (history_wrote_1___T x x1 x2).run = some (p x)) : (slices_ContainsFunc_Deed_history_wrote_1___T x0 x1 x2).run = some (x0.any p) := by
  unfold slices_ContainsFunc_Deed_history_wrote_1___T
  simp only [Tree.run, slices_IndexFunc_Deed_history_wrote_1___run x0 x1 x2 p hl hp, Option.bind_some, idxI_any]

theorem slices_IndexFunc_Deed_history_Covers_1_run (x0 : List Deed) (x1 : List Deed) (p : Deed → Bool) (hl : x0.length ≤ 1000000) (hp : ∀ x, x ∈ x0 → (history_Covers_1_T x x1).run = some (p x)) : (slices_IndexFunc_Deed_history_Covers_1_T x0 x1).run = some (idxI p x0) := by
  unfold slices_IndexFunc_Deed_history_Covers_1_T
  refine index_tree x0 p _ hl (fun i hi => ?_) ?_
  · unfold slices_IndexFunc_Deed_history_Covers_1_L2_step
    simp only [Tree.run, Int.ofNat_lt, hi, decide_true, cond_true, inb_nat, Int.toNat_natCast, getD_lt _ _ _ hi, hp _ (List.getElem_mem hi), Option.bind_some]
    cases p x0[i] <;> rfl
  · unfold slices_IndexFunc_Deed_history_Covers_1_L2_step; simp [Tree.run]

theorem slices_ContainsFunc_Deed_history_Covers_1_run (x0 : List Deed) (x1 : List Deed) (p : Deed → Bool) (hl : x0.length ≤ 1000000) (hp : ∀ x, x ∈ x0 → (history_Covers_1_T x x1).run = some (p x)) : (slices_ContainsFunc_Deed_history_Covers_1_T x0 x1).run = some (x0.any p) := by
  unfold slices_ContainsFunc_Deed_history_Covers_1_T
  simp only [Tree.run, slices_IndexFunc_Deed_history_Covers_1_run x0 x1 p hl hp, Option.bind_some, idxI_any]

theorem slices_Clone_Deed_run (x0 : List Deed) (hl : x0.length ≤ 1000000) : (slices_Clone_Deed_T x0).run = some x0 := by
  unfold slices_Clone_Deed_T
  cases x0 with
  | nil => simp [Tree.run, Nat.beq]
  | cons x l =>
    have : Nat.beq (x :: l).length 0 = false := rfl
    simp only [Tree.run, this, room_le _ 280 hl (by omega), cond_true, cond_false]

theorem slices_IndexFunc_Deed_history_Unanswered_1_run (x0 : List Deed) (p : Deed → Bool) (hl : x0.length ≤ 1000000) (hp : ∀ x, x ∈ x0 → (history_Unanswered_1_T x).run = some (p x)) : (slices_IndexFunc_Deed_history_Unanswered_1_T x0).run = some (idxI p x0) := by
  unfold slices_IndexFunc_Deed_history_Unanswered_1_T
  refine index_tree x0 p _ hl (fun i hi => ?_) ?_
  · unfold slices_IndexFunc_Deed_history_Unanswered_1_L2_step
    simp only [Tree.run, Int.ofNat_lt, hi, decide_true, cond_true, inb_nat, Int.toNat_natCast, getD_lt _ _ _ hi, hp _ (List.getElem_mem hi), Option.bind_some]
    cases p x0[i] <;> rfl
  · unfold slices_IndexFunc_Deed_history_Unanswered_1_L2_step; simp [Tree.run]

theorem slices_DeleteFunc_Deed_history_Unanswered_1_run (x0 : List Deed) (p : Deed → Bool) (hl : x0.length ≤ 1000000) (hp : ∀ x, x ∈ x0 → (history_Unanswered_1_T x).run = some (p x)) : (slices_DeleteFunc_Deed_history_Unanswered_1_T x0).run = some (x0.filter (fun x => !p x), ()) := by
  unfold slices_DeleteFunc_Deed_history_Unanswered_1_T
  refine delete_tree x0 p _ _ _ _ hl (slices_IndexFunc_Deed_history_Unanswered_1_run x0 p hl hp) (fun i j s hj hij hs hm => ?_) (fun i j s hs hj => ?_)
  · have hi' : i < s.length := by omega
    unfold slices_DeleteFunc_Deed_history_Unanswered_1_L5_step
    simp only [Tree.run, Int.ofNat_lt, hj, hi', decide_true, cond_true, inb_nat, Int.toNat_natCast, getD_lt _ _ _ hj, hp _ hm, Option.bind_some, w64_i j (by omega), w64_i i (by omega)]
    cases p s[j] <;> rfl
  · subst hj
    unfold slices_DeleteFunc_Deed_history_Unanswered_1_L5_step
    simp [Tree.run]

theorem slices_IndexFunc_Deed_history_Of_1_run (x0 : List Deed) (x1 : Str) (x2 : Str) (p : Deed → Bool) (hl : x0.length ≤ 1000000) (hp : ∀ x, x ∈ x0 → (history_Of_1_T x x1 x2).run = some (p x)) : (slices_IndexFunc_Deed_history_Of_1_T x0 x1 x2).run = some (idxI p x0) := by
  unfold slices_IndexFunc_Deed_history_Of_1_T
  refine index_tree x0 p _ hl (fun i hi => ?_) ?_
  · unfold slices_IndexFunc_Deed_history_Of_1_L2_step
    simp only [Tree.run, Int.ofNat_lt, hi, decide_true, cond_true, inb_nat, Int.toNat_natCast, getD_lt _ _ _ hi, hp _ (List.getElem_mem hi), Option.bind_some]
    cases p x0[i] <;> rfl
  · unfold slices_IndexFunc_Deed_history_Of_1_L2_step; simp [Tree.run]

theorem slices_DeleteFunc_Deed_history_Of_1_run (x0 : List Deed) (x1 : Str) (x2 : Str) (p : Deed → Bool) (hl : x0.length ≤ 1000000) (hp : ∀ x, x ∈ x0 → (history_Of_1_T x x1 x2).run = some (p x)) : (slices_DeleteFunc_Deed_history_Of_1_T x0 x1 x2).run = some (x0.filter (fun x => !p x), ((x1, ()), ((x2, ()), ()))) := by
  unfold slices_DeleteFunc_Deed_history_Of_1_T
  refine delete_tree x0 p _ _ _ _ hl (slices_IndexFunc_Deed_history_Of_1_run x0 x1 x2 p hl hp) (fun i j s hj hij hs hm => ?_) (fun i j s hs hj => ?_)
  · have hi' : i < s.length := by omega
    unfold slices_DeleteFunc_Deed_history_Of_1_L5_step
    simp only [Tree.run, Int.ofNat_lt, hj, hi', decide_true, cond_true, inb_nat, Int.toNat_natCast, getD_lt _ _ _ hj, hp _ hm, Option.bind_some, w64_i j (by omega), w64_i i (by omega)]
    cases p s[j] <;> rfl
  · subst hj
    unfold slices_DeleteFunc_Deed_history_Of_1_L5_step
    simp [Tree.run]

end Go.Eng
