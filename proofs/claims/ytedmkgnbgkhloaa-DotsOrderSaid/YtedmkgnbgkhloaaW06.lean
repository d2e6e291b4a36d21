/- Laws in plain Lean: w06. -/
import Derived.Test.YtedmkgnbgkhloaaJ06
namespace Go.Eng
open Go Go.Proofs Go.RowKit

/-! Loops, once more. -/
theorem loopF_mu {σ α : Type} {st : σ → Option (σ ⊕ α)} (I : σ → Prop) (mu : σ → Nat) (Q : α → Prop) (h : ∀ s, I s → (∃ s', st s = some (.inl s') ∧ I s' ∧ mu s' < mu s) ∨ ∃ a, st s = some (.inr a) ∧ Q a) {s0 : σ} (h0 : I s0) : ∃ a, loopF st s0 = some a ∧ Q a := by
  have key : ∀ n s, mu s ≤ n → I s → ∃ a, loopF st s = some a ∧ Q a := by
    intro n
    induction n with
    | zero =>
      intro s hn hs
      rcases h s hs with ⟨s', _, _, h3⟩ | ⟨a, h1, h2⟩
      · omega
      · exact ⟨a, by rw [loopF_eq, h1]; rfl, h2⟩
    | succ n ih =>
      intro s hn hs
      rcases h s hs with ⟨s', h1, h2, h3⟩ | ⟨a, h1, h2⟩
      · obtain ⟨a, k1, k2⟩ := ih s' (by omega) h2
        exact ⟨a, by rw [loopF_eq, h1]; exact k1, k2⟩
      · exact ⟨a, by rw [loopF_eq, h1]; rfl, h2⟩
  exact key _ s0 (Nat.le_refl _) h0
theorem imax_eq (a b : Int) : std.imax a b = max a b := by
  show (if b > a then b else a) = _
  split <;> omega
/-- The place of the first one that is not less. -/
def geI {α : Type} (lt : α → α → Bool) (x : α) : List α → Nat
  | [] => 0
  | y :: l => match lt y x with | true => geI lt x l + 1 | false => 0
theorem geI_le {α : Type} (lt : α → α → Bool) (x : α) (l : List α) : geI lt x l ≤ l.length := by
  induction l with
  | nil => exact Nat.le_refl _
  | cons y l ih => simp only [geI]; cases lt y x <;> simp; omega
theorem geI_lt {α : Type} (lt : α → α → Bool) (x : α) (l : List α) (i : Nat) (hi : i < geI lt x l) (hl : i < l.length) : lt l[i] x = true := by
  induction l generalizing i with
  | nil => exact absurd hl (Nat.not_lt_zero _)
  | cons y l ih =>
    simp only [geI] at hi
    cases hy : lt y x with
    | false => rw [hy] at hi; exact absurd hi (Nat.not_lt_zero _)
    | true =>
      rw [hy] at hi
      cases i with
      | zero => exact hy
      | succ i => exact ih i (by have hi : i + 1 < geI lt x l + 1 := hi; omega) (by simpa using hl)
theorem geI_at {α : Type} (lt : α → α → Bool) (x : α) (l : List α) (hl : geI lt x l < l.length) : lt l[geI lt x l] x = false := by
  induction l with
  | nil => exact absurd hl (Nat.not_lt_zero _)
  | cons y l ih =>
    cases hy : lt y x with
    | false =>
      have e : geI lt x (y :: l) = 0 := by simp only [geI, hy]
      simp only [e, List.getElem_cons_zero, hy]
    | true =>
      have e : geI lt x (y :: l) = geI lt x l + 1 := by simp only [geI, hy]
      simp only [e, List.getElem_cons_succ]
      exact ih (by rw [e] at hl; simpa using hl)
theorem ge_loop {α : Type} (lt : α → α → Bool) (x : α) (l : List α) (st : Int → Tree (Int ⊕ Int)) (hl : l.length ≤ 1000000)
    (h : ∀ i (hi : i < l.length), (st (i : Int)).run = some (bif lt l[i] x then .inl (w64 ((i : Int) + 1)) else .inr (i : Int))) (h0 : (st (l.length : Int)).run = some (.inr (l.length : Int))) :
    loopF (fun v => (st v).run) 0 = some ((geI lt x l : Nat) : Int) := by
  have hle := geI_le lt x l
  refine loopF_run (S := fun i => (i : Int)) (n := geI lt x l) (fun i hi => ?_) ?_ rfl
  · rw [h i (by omega), geI_lt lt x l i hi (by omega), w64_i i (by omega)]; rfl
  · by_cases hlt : geI lt x l < l.length
    · rw [h _ hlt, geI_at lt x l hlt]; rfl
    · have : geI lt x l = l.length := by omega
      rw [this]; exact h0
theorem insL_ge {α : Type} {lt : α → α → Bool} (x : α) (l : List α) : insL lt x l = if h : geI lt x l < l.length then (if lt x l[geI lt x l] = true then l.take (geI lt x l) ++ x :: l.drop (geI lt x l) else l) else l ++ [x] := by
  induction l with
  | nil => rfl
  | cons y l ih =>
    simp only [insL]
    cases hy : lt y x with
    | false =>
      have e : geI lt x (y :: l) = 0 := by simp only [geI, hy]
      simp only [e, List.length_cons, Nat.zero_lt_succ, dite_true, List.getElem_cons_zero, List.take_zero, List.drop_zero, List.nil_append]
      cases lt x y <;> rfl
    | true =>
      have e : geI lt x (y :: l) = geI lt x l + 1 := by simp only [geI, hy]
      simp only [e, List.length_cons, Nat.add_lt_add_iff_right, List.getElem_cons_succ, List.take_succ_cons, List.drop_succ_cons, List.cons_append]
      rw [ih]
      split
      · split <;> rfl
      · rfl
theorem sameL_dec {α : Type} [DecidableEq α] {e : α → α → Bool} (a b : List α) (h : ∀ x ∈ a, ∀ y, e x y = decide (x = y)) : sameL e a b = decide (a = b) := by
  induction a generalizing b with
  | nil => cases b <;> simp [sameL]
  | cons x a ih =>
    cases b with
    | nil => simp [sameL]
    | cons y b =>
      simp only [sameL, h x List.mem_cons_self, ih b fun z hz => h z (List.mem_cons_of_mem _ hz)]
      by_cases h1 : x = y <;> by_cases h2 : a = b <;> simp [h1, h2]

/-! Both of a node. -/
theorem put_run (l : List Int) (n : Int) (hl : l.length ≤ 100000) : (r06_put_T l n).run = some (insL (fun a b => decide (a < b)) n l) := by
  unfold r06_put_T
  have hle := geI_le (fun a b : Int => decide (a < b)) n l
  simp only [Tree.run]
  rw [ge_loop (fun a b : Int => decide (a < b)) n l (fun v => r06_put_L2_step l n v) (by omega) (fun i hi => by
    unfold r06_put_L2_step
    simp only [Tree.run, Int.ofNat_lt, hi, decide_true, inb_nat, Bool.or_true, cond_true, Int.toNat_natCast, getD_lt _ _ _ hi, Bool.true_and]
    cases decide (l[i] < n) <;> rfl) (by unfold r06_put_L2_step; simp [Tree.run]), insL_ge]
  simp only [Option.bind_some]
  by_cases hlt : geI (fun a b : Int => decide (a < b)) n l < l.length
  · have hlt' : decide (((geI (fun a b : Int => decide (a < b)) n l : Nat) : Int) < (l.length : Int)) = true := by rw [decide_eq_true_eq]; omega
    have hat := geI_at (fun a b : Int => decide (a < b)) n l hlt
    rw [dif_pos hlt]
    generalize geI (fun a b : Int => decide (a < b)) n l = k at *
    simp only [decide_eq_false_iff_not] at hat
    simp only [hlt', hlt, inb_nat, inbe_nat, hle, decide_true, Bool.or_true, cond_true, Int.toNat_natCast, getD_lt _ _ _ hlt, Bool.true_and]
    by_cases he : l[k] = n
    · have : ¬ n < l[k] := by omega
      simp only [he, decide_true, cond_true, Int.lt_irrefl, decide_false, Bool.false_eq_true, if_false]
    · have : n < l[k] := by omega
      have q1 : (l.take k).length ≤ 1000000 := by rw [List.length_take]; omega
      have q2 : (l.take k ++ [n]).length ≤ 1000000 := by rw [List.length_append, List.length_take]; simp; omega
      have q3 : (l.take k ++ [n] ++ l.drop k).length ≤ 1000000 := by rw [List.length_append, List.length_append, List.length_take, List.length_drop]; simp; omega
      simp only [he, decide_false, cond_false, room_le _ 8 q1 (by omega), room_le _ 8 q2 (by omega), room_le _ 8 q3 (by omega), cond_true, this, decide_true, if_true]
      simp
  · have hk : geI (fun a b : Int => decide (a < b)) n l = l.length := by omega
    rw [dif_neg hlt, hk]
    have hlt' : decide ((l.length : Int) < (l.length : Int)) = false := by simp
    have q1 : (l.take l.length).length ≤ 1000000 := by rw [List.length_take]; omega
    have q2 : (l.take l.length ++ [n]).length ≤ 1000000 := by rw [List.length_append, List.length_take]; simp; omega
    have q3 : (l.take l.length ++ [n] ++ l.drop l.length).length ≤ 1000000 := by rw [List.length_append, List.length_append, List.length_take, List.length_drop]; simp; omega
    have e1 : decide (l.length ≤ l.length) = true := by simp
    simp only [hlt', Bool.not_false, Bool.true_or, cond_true, Bool.false_and, cond_false, Int.toNat_natCast, inbe_nat, e1, room_le _ 8 q1 (by omega), room_le _ 8 q2 (by omega), room_le _ 8 q3 (by omega)]
    simp
theorem bothF_inv {c : Int × List Int} {n : Int} (h1 : 0 ≤ c.1 ∧ c.1 ≤ M53) (hn : 1 ≤ n ∧ n ≤ M53) : (0 ≤ (bothF c n).1 ∧ (bothF c n).1 ≤ M53) ∧ (bothF c n).2.length ≤ c.2.length + 1 := by
  unfold bothF
  cases decide (n = c.1 + 1) with
  | true => exact ⟨⟨by show 0 ≤ n; omega, hn.2⟩, by show c.2.length ≤ _; omega⟩
  | false =>
    cases decide (c.1 < n) with
    | true => exact ⟨h1, by show (c.2 ++ [n]).length ≤ _; simp⟩
    | false => exact ⟨h1, by show c.2.length ≤ _; omega⟩
theorem setI_range {x y : Seen} (hx : VS x) (hy : VS y) : ∀ n ∈ setI (x.2.2 ++ y.2.2), 1 ≤ n ∧ n ≤ M53 := fun n hn => by
  rcases List.mem_append.1 (((setI_ok _).2.1 n).1 hn) with h | h
  · have := hx.2.2.2 n h; have := hx.1; omega
  · have := hy.2.2.2 n h; have := hy.1; omega
theorem both_run (x y : Seen) (hx : VS x) (hy : VS y) (l1 : x.2.2.length ≤ 1000) (l2 : y.2.2.length ≤ 1000) : (dots_both_T x y).run = some (twoL x y) := by
  have hs := (setI_ok (x.2.2 ++ y.2.2)).2.2
  rw [List.length_append] at hs
  have hr := setI_range hx hy
  have hlen : decide (([x.2.2, y.2.2] : List (List Int)).flatten.length < 4611686018427387904) = true := by
    rw [decide_eq_true_eq]; simp; omega
  have hsum : lenSum [x.2.2, y.2.2] ≤ 1000000 := by simp [lenSum]; omega
  unfold dots_both_T slices_Sort_int_T slices_Compact_int_T
  simp only [Tree.run, slices_Concat_int_run [x.2.2, y.2.2] (by simp) hsum, Option.bind_some, hlen, cond_true, imax_eq]
  have e : compL eqI (sortI ([x.2.2, y.2.2] : List (List Int)).flatten) = setI (x.2.2 ++ y.2.2) := by simp [setI]
  rw [e]
  unfold twoL
  generalize setI (x.2.2 ++ y.2.2) = m at *
  have hb : 0 ≤ max x.2.1 y.2.1 ∧ max x.2.1 y.2.1 ≤ M53 := by have := hx.1; have := hx.2.1; have := hy.2.1; omega
  rw [fold_loop (st := fun v => (dots_both_L5_step (m.length : Int) ([], (0, [])) m x.1 v.1 v.2.1 v.2.2).run) m bothF id (fun i (c : Int × List Int) => ((i : Int), c.1, c.2)) (fun i c => (0 ≤ c.1 ∧ c.1 ≤ M53) ∧ c.2.length ≤ i) (fun i c hi hI => by
    obtain ⟨h1, h2⟩ := hI
    have hn := hr m[i] (List.getElem_mem hi)
    obtain ⟨k1, k2⟩ := bothF_inv (c := c) h1 hn
    refine ⟨?_, k1, by omega⟩
    unfold dots_both_L5_step bothF
    have hr8 : (c.2 ++ [m[i]]).length ≤ 1000000 := by rw [List.length_append]; simp; omega
    simp only [Tree.run, Int.ofNat_lt, hi, decide_true, cond_true, inb_nat, Int.toNat_natCast, getD_lt _ _ _ hi, w64_i i (by omega), w64_in (x := c.1 + 1) (by omega) (by unfold M53 at h1; omega), room_le _ 8 hr8 (by omega)]
    cases decide (m[i] = c.1 + 1) with
    | true => rfl
    | false => cases decide (c.1 < m[i]) <;> rfl) (fun c _ => by unfold dots_both_L5_step; simp [Tree.run]) (max x.2.1 y.2.1, []) ⟨hb, Nat.le_refl _⟩ (s0 := ((0 : Int), max x.2.1 y.2.1, ([] : List Int))) rfl]
  rfl
theorem rBoth_run (x y : Seen) (hx : VS x) (hy : VS y) (l1 : x.2.2.length ≤ 1000) (l2 : y.2.2.length ≤ 1000) : (r06_both_T x y).run = some (twoL x y) := by
  have hs := (setI_ok (x.2.2 ++ y.2.2)).2.2
  rw [List.length_append] at hs
  have hr := setI_range hx hy
  have hlen : ∀ (acc l : List Int), acc.Pairwise (fun a b => decide (a < b) = true) → (insAll (fun a b => decide (a < b)) acc l).length ≤ acc.length + l.length := fun acc l h => (insAll_ok soI l h).2.2
  unfold r06_both_T
  simp only [Tree.run, imax_eq]
  have part : ∀ (l acc : List Int) (st : List Int × Int → Tree ((List Int × Int) ⊕ List Int)), l.length ≤ 1000 → acc.length ≤ 1000 → acc.Pairwise (fun a b => decide (a < b) = true) →
      (∀ (more : List Int) (i : Nat) (hi : i < l.length), more.length ≤ 100000 → (st (more, (i : Int))).run = some (.inl (insL (fun a b => decide (a < b)) l[i] more, w64 ((i : Int) + 1)))) → (∀ more, (st (more, (l.length : Int))).run = some (.inr more)) →
      loopF (fun v => (st v).run) (acc, 0) = some (insAll (fun a b => decide (a < b)) acc l) := fun l acc st q1 q2 q3 h h0 => by
    rw [fold_loop (st := fun v => (st v).run) l (fun acc n => insL (fun a b => decide (a < b)) n acc) id (fun i (c : List Int) => (c, (i : Int))) (fun i c => c.length ≤ 1000 + i ∧ c.Pairwise (fun a b => decide (a < b) = true)) (fun i c hi hI => by
      obtain ⟨j1, _, j3⟩ := insL_ok soI l[i] hI.2
      exact ⟨by rw [h c i hi (by omega), w64_i i (by omega)], by omega, j1⟩) (fun c _ => h0 c) acc ⟨by omega, q3⟩ (s0 := (acc, (0 : Int))) rfl]
    rfl
  rw [part x.2.2 [] (fun v => r06_both_L4_step (max x.2.1 y.2.1) x y ([], (0, [])) v.1 v.2) l1 (by simp) List.Pairwise.nil (fun more i hi hm => by
    unfold r06_both_L4_step
    simp only [Tree.run, Int.ofNat_lt, hi, decide_true, cond_true, inb_nat, Int.toNat_natCast, getD_lt _ _ _ hi, put_run more _ hm, Option.bind_some]) (fun more => by unfold r06_both_L4_step; simp [Tree.run])]
  have h1 := insAll_ok soI x.2.2 (acc := []) List.Pairwise.nil
  simp only [Option.bind_some]
  rw [part y.2.2 (insAll (fun a b => decide (a < b)) [] x.2.2) (fun v => r06_both_L8_step (max x.2.1 y.2.1) x y ([], (0, [])) v.1 v.2) l2 (by have := h1.2.2; simp at this; omega) h1.1 (fun more i hi hm => by
    unfold r06_both_L8_step
    simp only [Tree.run, Int.ofNat_lt, hi, decide_true, cond_true, inb_nat, Int.toNat_natCast, getD_lt _ _ _ hi, put_run more _ hm, Option.bind_some]) (fun more => by unfold r06_both_L8_step; simp [Tree.run])]
  have e : insAll (fun a b => decide (a < b)) (insAll (fun a b => decide (a < b)) [] x.2.2) y.2.2 = setI (x.2.2 ++ y.2.2) := by
    rw [← insAll_setI]; unfold insAll; rw [List.foldl_append]
  rw [e]
  unfold twoL
  generalize setI (x.2.2 ++ y.2.2) = m at *
  have hb : 0 ≤ max x.2.1 y.2.1 ∧ max x.2.1 y.2.1 ≤ M53 := by have := hx.1; have := hx.2.1; have := hy.2.1; omega
  simp only [Option.bind_some]
  rw [fold_loop (st := fun v => (r06_both_L13_step m x ([], (0, [])) v.1 v.2.1 v.2.2).run) m bothF id (fun i (c : Int × List Int) => (c.1, (i : Int), c.2)) (fun i c => (0 ≤ c.1 ∧ c.1 ≤ M53) ∧ c.2.length ≤ i) (fun i c hi hI => by
    obtain ⟨h1, h2⟩ := hI
    have hn := hr m[i] (List.getElem_mem hi)
    obtain ⟨k1, k2⟩ := bothF_inv (c := c) h1 hn
    refine ⟨?_, k1, by omega⟩
    unfold r06_both_L13_step bothF
    have hr8 : (c.2 ++ [m[i]]).length ≤ 1000000 := by rw [List.length_append]; simp; omega
    simp only [Tree.run, Int.ofNat_lt, hi, decide_true, cond_true, inb_nat, Int.toNat_natCast, getD_lt _ _ _ hi, w64_i i (by omega), w64_in (x := c.1 + 1) (by omega) (by unfold M53 at h1; omega), room_le _ 8 hr8 (by omega)]
    cases decide (m[i] = c.1 + 1) with
    | true => rfl
    | false => cases decide (c.1 < m[i]) <;> rfl) (fun c _ => by unfold r06_both_L13_step; simp [Tree.run]) (max x.2.1 y.2.1, []) ⟨hb, Nat.le_refl _⟩ (s0 := (max x.2.1 y.2.1, (0 : Int), ([] : List Int))) rfl]
  rfl

end Go.Eng
