/- The runs of Go's generic library functions in lifted texts. Printed by a program. -/
import Derived.Test.YtmpnhffnkbpcfaaL10
import Derived.Test.YtmpnhffnkbpcfaaTrI
namespace Go.Eng
open Go Go.Proofs

theorem slices_IndexFunc_Entry_registry_Get_1_run (x0 : List Entry) (x1 : Str) (p : Entry → Bool) (hl : x0.length ≤ 1000000) (hp : ∀ x, x ∈ x0 → (registry_Get_1_T x x1).run = some (p x)) : (slices_IndexFunc_Entry_registry_Get_1_T x0 x1).run = some (idxI p x0) := by
  unfold slices_IndexFunc_Entry_registry_Get_1_T
  refine index_tree x0 p _ hl (fun i hi => ?_) ?_
  · unfold slices_IndexFunc_Entry_registry_Get_1_L2_step
    simp only [Tree.run, Int.ofNat_lt, hi, decide_true, cond_true, inb_nat, Int.toNat_natCast, getD_lt _ _ _ hi, hp _ (List.getElem_mem hi), Option.bind_some]
    cases p x0[i] <;> rfl
  · unfold slices_IndexFunc_Entry_registry_Get_1_L2_step; simp [Tree.run]

theorem slices_Grow_Entry_nil_run (n : Nat) (hn : n ≤ 1000000) : (slices_Grow_Entry_nil_T (n : Int)).run = some [] := by
  have e : w64 ((n : Int) - w64 ((0 : Int) - 0)) = (n : Int) := by
    show IntKind.i64.wrap ((n : Int) - IntKind.i64.wrap ((0 : Int) - 0)) = _
    rw [IntKind.wrap_i64, IntKind.wrap_i64]; omega
  have h1 : ¬ ((n : Int) < 0) := by omega
  have h2 : inbe 0 0 = true := by decide
  unfold slices_Grow_Entry_nil_T
  simp only [Tree.run, h1, decide_false, cond_false, e]
  by_cases h0 : 0 < n
  · have h3 : (0 : Int) < (n : Int) := by omega
    simp only [h3, h2, decide_true, cond_true, Int.toNat_natCast, room_le n 56 hn (by omega)]
    rw [show inbe 0 _ = true from (inbe_nat 0 _).trans (by simp)]
    simp
  · have h3 : ¬ ((0 : Int) < (n : Int)) := by omega
    simp only [h3, decide_false, cond_false]

theorem slices_Concat_Entry_run (x0 : List (List Entry)) (hl : x0.length ≤ 1000000) (hs : lenSum x0 ≤ 1000000) : (slices_Concat_Entry_T x0).run = some x0.flatten := by
  unfold slices_Concat_Entry_T
  refine concat_tree x0 _ _ _ hl hs (fun n i hi hn => ?_) (fun n => ?_) (fun n hn => slices_Grow_Entry_nil_run n hn) (fun c i hi hc => ?_) (fun c => ?_)
  · have e : w64 ((n : Int) + (x0[i].length : Int)) = ((n + x0[i].length : Nat) : Int) := by
      show IntKind.i64.wrap _ = _
      rw [IntKind.wrap_i64]; omega
    have h1 : ¬ (((n + x0[i].length : Nat) : Int) < 0) := by omega
    unfold slices_Concat_Entry_L3_step
    simp only [Tree.run, Int.ofNat_lt, hi, decide_true, cond_true, inb_nat, Int.toNat_natCast, getD_lt _ _ _ hi, e, h1, decide_false, cond_false]
  · unfold slices_Concat_Entry_L3_step; simp [Tree.run]
  · unfold slices_Concat_Entry_L11_step
    simp only [Tree.run, Int.ofNat_lt, hi, decide_true, cond_true, inb_nat, Int.toNat_natCast, getD_lt _ _ _ hi, room_le _ 56 hc (by omega)]
  · unfold slices_Concat_Entry_L11_step; simp [Tree.run]

theorem slices_Clone_Entry_run (x0 : List Entry) (hl : x0.length ≤ 1000000) : (slices_Clone_Entry_T x0).run = some x0 := by
  unfold slices_Clone_Entry_T
  cases x0 with
  | nil => simp [Tree.run, Nat.beq]
  | cons x l =>
    have : Nat.beq (x :: l).length 0 = false := rfl
    simp only [Tree.run, this, room_le _ 56 hl (by omega), cond_true, cond_false]

theorem slices_IndexFunc_Entry_registry_Under_1_run (x0 : List Entry) (x1 : Str) (p : Entry → Bool) (hl : x0.length ≤ 1000000) (hp : ∀ x, x ∈ x0 → (registry_Under_1_T x x1).run = some (p x)) : (slices_IndexFunc_Entry_registry_Under_1_T x0 x1).run = some (idxI p x0) := by
  unfold slices_IndexFunc_Entry_registry_Under_1_T
  refine index_tree x0 p _ hl (fun i hi => ?_) ?_
  · unfold slices_IndexFunc_Entry_registry_Under_1_L2_step
    simp only [Tree.run, Int.ofNat_lt, hi, decide_true, cond_true, inb_nat, Int.toNat_natCast, getD_lt _ _ _ hi, hp _ (List.getElem_mem hi), Option.bind_some]
    cases p x0[i] <;> rfl
  · unfold slices_IndexFunc_Entry_registry_Under_1_L2_step; simp [Tree.run]

theorem slices_DeleteFunc_Entry_registry_Under_1_run (x0 : List Entry) (x1 : Str) (p : Entry → Bool) (hl : x0.length ≤ 1000000) (hp : ∀ x, x ∈ x0 → (registry_Under_1_T x x1).run = some (p x)) : (slices_DeleteFunc_Entry_registry_Under_1_T x0 x1).run = some (x0.filter (fun x => !p x), ((x1, ()), ())) := by
  unfold slices_DeleteFunc_Entry_registry_Under_1_T
  refine delete_tree x0 p _ _ _ _ hl (slices_IndexFunc_Entry_registry_Under_1_run x0 x1 p hl hp) (fun i j s hj hij hs hm => ?_) (fun i j s hs hj => ?_)
  · have hi' : i < s.length := by omega
    unfold slices_DeleteFunc_Entry_registry_Under_1_L5_step
    simp only [Tree.run, Int.ofNat_lt, hj, hi', decide_true, cond_true, inb_nat, Int.toNat_natCast, getD_lt _ _ _ hj, hp _ hm, Option.bind_some, w64_i j (by omega), w64_i i (by omega)]
    cases p s[j] <;> rfl
  · subst hj
    unfold slices_DeleteFunc_Entry_registry_Under_1_L5_step
    simp [Tree.run]

theorem slices_IndexFunc_Entry_registry_News_1_run (x0 : List Entry) (x1 : List Entry) (p : Entry → Bool) (hl : x0.length ≤ 1000000) (hp : ∀ x, x ∈ x0 → (registry_News_1_T x x1).run = some (p x)) : (slices_IndexFunc_Entry_registry_News_1_T x0 x1).run = some (idxI p x0) := by
  unfold slices_IndexFunc_Entry_registry_News_1_T
  refine index_tree x0 p _ hl (fun i hi => ?_) ?_
  · unfold slices_IndexFunc_Entry_registry_News_1_L2_step
    simp only [Tree.run, Int.ofNat_lt, hi, decide_true, cond_true, inb_nat, Int.toNat_natCast, getD_lt _ _ _ hi, hp _ (List.getElem_mem hi), Option.bind_some]
    cases p x0[i] <;> rfl
  · unfold slices_IndexFunc_Entry_registry_News_1_L2_step; simp [Tree.run]

theorem slices_DeleteFunc_Entry_registry_News_1_run (x0 : List Entry) (x1 : List Entry) (p : Entry → Bool) (hl : x0.length ≤ 1000000) (hp : ∀ x, x ∈ x0 → (registry_News_1_T x x1).run = some (p x)) : (slices_DeleteFunc_Entry_registry_News_1_T x0 x1).run = some (x0.filter (fun x => !p x), ((x1, ()), ())) := by
  unfold slices_DeleteFunc_Entry_registry_News_1_T
  refine delete_tree x0 p _ _ _ _ hl (slices_IndexFunc_Entry_registry_News_1_run x0 x1 p hl hp) (fun i j s hj hij hs hm => ?_) (fun i j s hs hj => ?_)
  · have hi' : i < s.length := by omega
    unfold slices_DeleteFunc_Entry_registry_News_1_L5_step
    simp only [Tree.run, Int.ofNat_lt, hj, hi', decide_true, cond_true, inb_nat, Int.toNat_natCast, getD_lt _ _ _ hj, hp _ hm, Option.bind_some, w64_i j (by omega), w64_i i (by omega)]
    cases p s[j] <;> rfl
  · subst hj
    unfold slices_DeleteFunc_Entry_registry_News_1_L5_step
    simp [Tree.run]

theorem slices_Equal_Entry_run (x0 : List Entry) (x1 : List Entry) (hl : x0.length ≤ 1000000) : (slices_Equal_Entry_T x0 x1).run = some (sameL (fun p q => ((p.1 == q.1) && (((decide (p.2.1 = q.2.1)) && ((p.2.2.1 == q.2.2.1) && ((p.2.2.2 == q.2.2.2) && true))) && true))) x0 x1) := by
  unfold slices_Equal_Entry_T
  refine equal_tree x0 x1 (fun p q => ((p.1 == q.1) && (((decide (p.2.1 = q.2.1)) && ((p.2.2.1 == q.2.2.1) && ((p.2.2.2 == q.2.2.2) && true))) && true))) _ hl (fun i hi hb => ?_) (fun he => ?_)
  · unfold slices_Equal_Entry_L4_step
    simp only [Tree.run, Int.ofNat_lt, hi, hb, decide_true, cond_true, inb_nat, Int.toNat_natCast, getD_lt _ _ _ hi, getD_lt _ _ _ hb]
    cases ((x0[i].1 == x1[i].1) && (((decide (x0[i].2.1 = x1[i].2.1)) && ((x0[i].2.2.1 == x1[i].2.2.1) && ((x0[i].2.2.2 == x1[i].2.2.2) && true))) && true)) <;> rfl
  · unfold slices_Equal_Entry_L4_step; simp [Tree.run]

end Go.Eng
