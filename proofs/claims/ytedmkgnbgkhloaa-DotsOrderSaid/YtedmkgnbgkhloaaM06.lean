/- The runs of Go's generic library functions in lifted texts. Printed by a program. -/
import Derived.Test.YtedmkgnbgkhloaaL06
import Derived.Test.YtedmkgnbgkhloaaTrI
namespace Go.Eng
open Go Go.Proofs

theorem slices_Grow_Seen_nil_run (n : Nat) (hn : n ≤ 1000000) : (slices_Grow_Seen_nil_T (n : Int)).run = some [] := by
  have e : w64 ((n : Int) - w64 ((0 : Int) - 0)) = (n : Int) := by
    show IntKind.i64.wrap ((n : Int) - IntKind.i64.wrap ((0 : Int) - 0)) = _
    rw [IntKind.wrap_i64, IntKind.wrap_i64]; omega
  have h1 : ¬ ((n : Int) < 0) := by omega
  have h2 : inbe 0 0 = true := by decide
  unfold slices_Grow_Seen_nil_T
  simp only [Tree.run, h1, decide_false, cond_false, e]
  by_cases h0 : 0 < n
  · have h3 : (0 : Int) < (n : Int) := by omega
    simp only [h3, h2, decide_true, cond_true, Int.toNat_natCast, room_le n 48 hn (by omega)]
    rw [show inbe 0 _ = true from (inbe_nat 0 _).trans (by simp)]
    simp
  · have h3 : ¬ ((0 : Int) < (n : Int)) := by omega
    simp only [h3, decide_false, cond_false]

theorem slices_Concat_Seen_run (x0 : List (List Seen)) (hl : x0.length ≤ 1000000) (hs : lenSum x0 ≤ 1000000) : (slices_Concat_Seen_T x0).run = some x0.flatten := by
  unfold slices_Concat_Seen_T
  refine concat_tree x0 _ _ _ hl hs (fun n i hi hn => ?_) (fun n => ?_) (fun n hn => slices_Grow_Seen_nil_run n hn) (fun c i hi hc => ?_) (fun c => ?_)
  · have e : w64 ((n : Int) + (x0[i].length : Int)) = ((n + x0[i].length : Nat) : Int) := by
      show IntKind.i64.wrap _ = _
      rw [IntKind.wrap_i64]; omega
    have h1 : ¬ (((n + x0[i].length : Nat) : Int) < 0) := by omega
    unfold slices_Concat_Seen_L3_step
    simp only [Tree.run, Int.ofNat_lt, hi, decide_true, cond_true, inb_nat, Int.toNat_natCast, getD_lt _ _ _ hi, e, h1, decide_false, cond_false]
  · unfold slices_Concat_Seen_L3_step; simp [Tree.run]
  · unfold slices_Concat_Seen_L11_step
    simp only [Tree.run, Int.ofNat_lt, hi, decide_true, cond_true, inb_nat, Int.toNat_natCast, getD_lt _ _ _ hi, room_le _ 48 hc (by omega)]
  · unfold slices_Concat_Seen_L11_step; simp [Tree.run]

theorem slices_Grow_int_nil_run (n : Nat) (hn : n ≤ 1000000) : (slices_Grow_int_nil_T (n : Int)).run = some [] := by
  have e : w64 ((n : Int) - w64 ((0 : Int) - 0)) = (n : Int) := by
    show IntKind.i64.wrap ((n : Int) - IntKind.i64.wrap ((0 : Int) - 0)) = _
    rw [IntKind.wrap_i64, IntKind.wrap_i64]; omega
  have h1 : ¬ ((n : Int) < 0) := by omega
  have h2 : inbe 0 0 = true := by decide
  unfold slices_Grow_int_nil_T
  simp only [Tree.run, h1, decide_false, cond_false, e]
  by_cases h0 : 0 < n
  · have h3 : (0 : Int) < (n : Int) := by omega
    simp only [h3, h2, decide_true, cond_true, Int.toNat_natCast, room_le n 8 hn (by omega)]
    rw [show inbe 0 _ = true from (inbe_nat 0 _).trans (by simp)]
    simp
  · have h3 : ¬ ((0 : Int) < (n : Int)) := by omega
    simp only [h3, decide_false, cond_false]

theorem slices_Concat_int_run (x0 : List (List Int)) (hl : x0.length ≤ 1000000) (hs : lenSum x0 ≤ 1000000) : (slices_Concat_int_T x0).run = some x0.flatten := by
  unfold slices_Concat_int_T
  refine concat_tree x0 _ _ _ hl hs (fun n i hi hn => ?_) (fun n => ?_) (fun n hn => slices_Grow_int_nil_run n hn) (fun c i hi hc => ?_) (fun c => ?_)
  · have e : w64 ((n : Int) + (x0[i].length : Int)) = ((n + x0[i].length : Nat) : Int) := by
      show IntKind.i64.wrap _ = _
      rw [IntKind.wrap_i64]; omega
    have h1 : ¬ (((n + x0[i].length : Nat) : Int) < 0) := by omega
    unfold slices_Concat_int_L3_step
    simp only [Tree.run, Int.ofNat_lt, hi, decide_true, cond_true, inb_nat, Int.toNat_natCast, getD_lt _ _ _ hi, e, h1, decide_false, cond_false]
  · unfold slices_Concat_int_L3_step; simp [Tree.run]
  · unfold slices_Concat_int_L11_step
    simp only [Tree.run, Int.ofNat_lt, hi, decide_true, cond_true, inb_nat, Int.toNat_natCast, getD_lt _ _ _ hi, room_le _ 8 hc (by omega)]
  · unfold slices_Concat_int_L11_step; simp [Tree.run]

theorem slices_Index_int_run (x0 : List Int) (x1 : Int) (hl : x0.length ≤ 1000000) : (slices_Index_int_T x0 x1).run = some (idxI (fun y => (decide (x1 = y))) x0) := by
  unfold slices_Index_int_T
  refine index_tree x0 (fun y => (decide (x1 = y))) _ hl (fun i hi => ?_) ?_
  · unfold slices_Index_int_L2_step
    simp only [Tree.run, Int.ofNat_lt, hi, decide_true, cond_true, inb_nat, Int.toNat_natCast, getD_lt _ _ _ hi]
    cases (decide (x1 = x0[i])) <;> rfl
  · unfold slices_Index_int_L2_step; simp [Tree.run]

theorem slices_Contains_int_run (x0 : List Int) (x1 : Int) (hl : x0.length ≤ 1000000) : (slices_Contains_int_T x0 x1).run = some (x0.any (fun y => (decide (x1 = y)))) := by
  unfold slices_Contains_int_T
  simp only [Tree.run, slices_Index_int_run x0 x1 hl, Option.bind_some, idxI_any]

theorem slices_IndexFunc_int_dots_Covers_2_run (x0 : List Int) (x1 : Seen) (p : Int → Bool) (hl : x0.length ≤ 1000000) (hp : ∀ x, x ∈ x0 → (dots_Covers_2_T x x1).run = some (p x)) : (slices_IndexFunc_int_dots_Covers_2_T x0 x1).run = some (idxI p x0) := by
  unfold slices_IndexFunc_int_dots_Covers_2_T
  refine index_tree x0 p _ hl (fun i hi => ?_) ?_
  · unfold slices_IndexFunc_int_dots_Covers_2_L2_step
    simp only [Tree.run, Int.ofNat_lt, hi, decide_true, cond_true, inb_nat, Int.toNat_natCast, getD_lt _ _ _ hi, hp _ (List.getElem_mem hi), Option.bind_some]
    cases p x0[i] <;> rfl
  · unfold slices_IndexFunc_int_dots_Covers_2_L2_step; simp [Tree.run]

theorem slices_ContainsFunc_int_dots_Covers_2_run (x0 : List Int) (x1 : Seen) (p : Int → Bool) (hl : x0.length ≤ 1000000) (hp : ∀ x, x ∈ x0 → (dots_Covers_2_T x x1).run = some (p x)) : (slices_ContainsFunc_int_dots_Covers_2_T x0 x1).run = some (x0.any p) := by
  unfold slices_ContainsFunc_int_dots_Covers_2_T
  simp only [Tree.run, slices_IndexFunc_int_dots_Covers_2_run x0 x1 p hl hp, Option.bind_some, idxI_any]

theorem slices_IndexFunc_Seen_dots_Has_1_run (x0 : List Seen) (x1 : Dot) (p : Seen → Bool) (hl : x0.length ≤ 1000000) (hp : ∀ x, x ∈ x0 → (dots_Has_1_T x x1).run = some (p x)) : (slices_IndexFunc_Seen_dots_Has_1_T x0 x1).run = some (idxI p x0) := by
  unfold slices_IndexFunc_Seen_dots_Has_1_T
  refine index_tree x0 p _ hl (fun i hi => ?_) ?_
  · unfold slices_IndexFunc_Seen_dots_Has_1_L2_step
    simp only [Tree.run, Int.ofNat_lt, hi, decide_true, cond_true, inb_nat, Int.toNat_natCast, getD_lt _ _ _ hi, hp _ (List.getElem_mem hi), Option.bind_some]
    cases p x0[i] <;> rfl
  · unfold slices_IndexFunc_Seen_dots_Has_1_L2_step; simp [Tree.run]

theorem slices_ContainsFunc_Seen_dots_Has_1_run (x0 : List Seen) (x1 : Dot) (p : Seen → Bool) (hl : x0.length ≤ 1000000) (hp : ∀ x, x ∈ x0 → (dots_Has_1_T x x1).run = some (p x)) : (slices_ContainsFunc_Seen_dots_Has_1_T x0 x1).run = some (x0.any p) := by
  unfold slices_ContainsFunc_Seen_dots_Has_1_T
  simp only [Tree.run, slices_IndexFunc_Seen_dots_Has_1_run x0 x1 p hl hp, Option.bind_some, idxI_any]

theorem slices_Equal_int_run (x0 : List Int) (x1 : List Int) (hl : x0.length ≤ 1000000) : (slices_Equal_int_T x0 x1).run = some (sameL (fun p q => decide (p = q)) x0 x1) := by
  unfold slices_Equal_int_T
  refine equal_tree x0 x1 (fun p q => decide (p = q)) _ hl (fun i hi hb => ?_) (fun he => ?_)
  · unfold slices_Equal_int_L4_step
    simp only [Tree.run, Int.ofNat_lt, hi, hb, decide_true, cond_true, inb_nat, Int.toNat_natCast, getD_lt _ _ _ hi, getD_lt _ _ _ hb]
    cases decide (x0[i] = x1[i]) <;> rfl
  · unfold slices_Equal_int_L4_step; simp [Tree.run]

end Go.Eng
