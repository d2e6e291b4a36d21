/- Chapter 08, in plain Lean: what the lifted texts come to. -/
import Derived.Test.YtbkbciegpakodaaL08
import Derived.Test.YtbkbciegpakodaaTrH
namespace Go.Eng
open Go Go.Proofs

theorem awake08 : l08_awake_T.run = some true := Tree.runN_run (n := 20) (by kernel_rfl)

/-! Orders. -/
def cmpI (x y : Int) : Int := if x < y then -1 else if y < x then 1 else 0
theorem isNaN_run (x : Int) : (cmp_isNaN_int_T x).run = some false := by simp [cmp_isNaN_int_T, Tree.run]
theorem cmpI_run (x y : Int) : (cmp_Compare_int_T x y).run = some (cmpI x y) := by
  unfold cmp_Compare_int_T cmpI
  simp only [Tree.run, isNaN_run, Option.bind_some, cond_false]
  by_cases h1 : x < y
  · simp [h1]
  · by_cases h2 : y < x <;> simp [h1, h2]
theorem cmpS_run (x y : Str) : (strings_Compare_T x y).run = some (Lib.compareBytes x y) := by
  simp [strings_Compare_T, bytealg_CompareString_T, cmpstring_T, Tree.run]

def orL : List Int → Int
  | [] => 0
  | x :: l => if x = 0 then orL l else x
theorem or_run (l : List Int) (hl : l.length ≤ 9223372036854775807) : (cmp_Or_int_T l).run = some (orL l) := by
  unfold cmp_Or_int_T
  simp only [Tree.run]
  rw [loopF_list l (fun i (_ : Unit) => (i : Int)) (fun _ x _ => if x = 0 then .inl () else .inr (Sum.inl x)) (fun _ => Sum.inr ()) (fun i c hi => by
      unfold cmp_Or_int_L3_step
      simp only [Tree.run, Int.ofNat_lt, hi, decide_true, cond_true, inb_nat, Int.toNat_natCast, getD_lt _ _ _ hi]
      by_cases hx : l[i] = 0
      · simp [hx, nextX, w64_nat i (by omega)]
      · simp [hx, nextX]) (fun c => by unfold cmp_Or_int_L3_step; simp [Tree.run]) () (s0 := (0 : Int)) rfl]
  have key : ∀ (l : List Int) (i : Nat), foldX (γ := Unit) (α := Int ⊕ Unit) (fun _ x _ => if x = 0 then .inl () else .inr (Sum.inl x)) (fun _ => Sum.inr ()) i l () = if orL l = 0 then Sum.inr () else Sum.inl (orL l) := by
    intro l
    induction l with
    | nil => intro i; rfl
    | cons x l ih =>
      intro i
      simp only [foldX, orL]
      by_cases hx : x = 0
      · simp only [hx, if_true]; exact ih (i + 1)
      · simp [hx]
  rw [key]
  by_cases h0 : orL l = 0 <;> simp [h0, Tree.run]

/-- Which of two values is later. -/
def later (a b : Sib) : Bool := bif !decide (a.2.2.2 = b.2.2.2) then decide (b.2.2.2 < a.2.2.2) else bif !(a.1.1 == b.1.1) then !(ltS a.1.1 b.1.1 || a.1.1 == b.1.1) else decide (b.1.2 < a.1.2)
def cmpV (a b : Sib) : Int := orL [cmpI a.2.2.2 b.2.2.2, Lib.compareBytes a.1.1 b.1.1, cmpI a.1.2 b.1.2]
theorem cmpV_run (a b : Sib) : (last_compare_T a b).run = some (cmpV a b) := by
  unfold last_compare_T
  simp only [Tree.run, cmpI_run, cmpS_run, Option.bind_some]
  rw [or_run _ (by simp)]
  rfl
theorem later_eq (a b : Sib) : decide ((0 : Int) < cmpV a b) = later a b := by
  unfold cmpV later orL orL orL orL cmpI
  rw [compare_bytes]
  by_cases ht : a.2.2.2 = b.2.2.2
  · by_cases hn : a.1.1 = b.1.1
    · simp only [ht, hn]
      by_cases h1 : a.1.2 < b.1.2
      · have : ¬ b.1.2 < a.1.2 := by omega
        simp [h1, this]
      · by_cases h2 : b.1.2 < a.1.2 <;> simp [h1, h2]
    · simp only [ht]
      cases hb : Op.bytesLess a.1.1 b.1.1 <;> simp [hn, hb]
  · by_cases h1 : a.2.2.2 < b.2.2.2
    · have : ¬ b.2.2.2 < a.2.2.2 := by omega
      simp [ht, h1, this]
    · have : b.2.2.2 < a.2.2.2 := by omega
      simp [ht, h1, this]
theorem later_run (a b : Sib) : (last_Later_T a b).run = some (later a b) := by
  unfold last_Later_T
  simp only [Tree.run, cmpV_run, Option.bind_some, later_eq]
theorem rLater_run (a b : Sib) : (r08_Later_T a b).run = some (later a b) := by
  unfold r08_Later_T later
  simp only [Tree.run]
  cases !decide (a.2.2.2 = b.2.2.2) <;> cases !(a.1.1 == b.1.1) <;> rfl

/-! Few. -/
theorem few_run (l : List Sib) : ∃ b, (r08_Few_T l).run = some b ∧ (b = true → l.length ≤ 12) := by
  obtain ⟨a, h1, h2⟩ := loopF_tot (st := fun v => (r08_Few_L2_step l v).run) (fun i => ((i : Nat) : Int)) (min l.length 12) (fun a => a = Sum.inl false ∨ a = Sum.inr ()) (fun i hi => by
    have h3 : i < l.length := by omega
    have h4 : (i : Int) < 12 := by omega
    unfold r08_Few_L2_step
    simp only [Tree.run, Int.ofNat_lt, h3, h4, decide_true, cond_true, inb_nat, Bool.and_true, Bool.or_true]
    cases (decide ((300 : Int) < ((((l.getD (Int.toNat (i : Int)) (dfl tSib : Sib)).2).1).length : Int))) || (decide ((100 : Int) < ((((l.getD (Int.toNat (i : Int)) (dfl tSib : Sib)).1).1).length : Int)))
    · left; simp [w64_nat i (by omega)]
    · right; exact ⟨_, rfl, .inl rfl⟩) (by
      refine ⟨.inr (), ?_, .inr rfl⟩
      unfold r08_Few_L2_step
      have : (decide (((min l.length 12 : Nat) : Int) < (l.length : Int)) && decide (((min l.length 12 : Nat) : Int) < 12)) = false := by
        simp only [Bool.and_eq_false_iff, decide_eq_false_iff_not]; omega
      simp only [Tree.run, this, cond_false]) (s0 := 0) rfl
  unfold r08_Few_T
  simp only [Tree.run, h1, Option.bind_some]
  rcases h2 with rfl | rfl
  · exact ⟨false, rfl, fun h => by cases h⟩
  · refine ⟨_, rfl, fun h => ?_⟩
    simp at h; omega
theorem fewD_run (l : List Seen) : ∃ b, (r06_Few_T l).run = some b := by
  obtain ⟨a, h1, h2⟩ := loopF_tot (st := fun v => (r06_Few_L2_step l v).run) (fun i => ((i : Nat) : Int)) (min l.length 12) (fun _ => True) (fun i hi => by
    have h3 : i < l.length := by omega
    have h4 : (i : Int) < 12 := by omega
    unfold r06_Few_L2_step
    simp only [Tree.run, Int.ofNat_lt, h3, h4, decide_true, cond_true, inb_nat, Bool.and_true, Bool.or_true]
    cases (decide ((100 : Int) < (((l.getD (Int.toNat (i : Int)) (dfl tSeen : Seen)).1).length : Int))) || (decide ((40 : Int) < ((((l.getD (Int.toNat (i : Int)) (dfl tSeen : Seen)).2).2).length : Int)))
    · left; simp [w64_nat i (by omega)]
    · right; exact ⟨_, rfl, trivial⟩) (by
      refine ⟨.inr (), ?_, trivial⟩
      unfold r06_Few_L2_step
      have : (decide (((min l.length 12 : Nat) : Int) < (l.length : Int)) && decide (((min l.length 12 : Nat) : Int) < 12)) = false := by
        simp only [Bool.and_eq_false_iff, decide_eq_false_iff_not]; omega
      simp only [Tree.run, this, cond_false]) (s0 := 0) rfl
  unfold r06_Few_T
  simp only [Tree.run, h1, Option.bind_some]
  cases a <;> exact ⟨_, rfl⟩
theorem fewO_run (o : Obj) : ∃ b, (r07_Few_T o).run = some b ∧ (b = true → o.2.length ≤ 12) := by
  obtain ⟨a, h1, h2⟩ := loopF_tot (st := fun v => (r07_Few_L2_step o.1 o.2 v).run) (fun i => ((i : Nat) : Int)) (min o.2.length 12) (fun a => a = Sum.inl false ∨ a = Sum.inr ()) (fun i hi => by
    have h3 : i < o.2.length := by omega
    have h4 : (i : Int) < 12 := by omega
    unfold r07_Few_L2_step
    simp only [Tree.run, Int.ofNat_lt, h3, h4, decide_true, cond_true, inb_nat, Bool.and_true, Bool.or_true]
    cases (decide ((300 : Int) < ((((o.2.getD (Int.toNat (i : Int)) (dfl tSib : Sib)).2).1).length : Int))) || (decide ((100 : Int) < ((((o.2.getD (Int.toNat (i : Int)) (dfl tSib : Sib)).1).1).length : Int)))
    · left; simp [w64_nat i (by omega)]
    · right; exact ⟨_, rfl, .inl rfl⟩) (by
      refine ⟨.inr (), ?_, .inr rfl⟩
      unfold r07_Few_L2_step
      have : (decide (((min o.2.length 12 : Nat) : Int) < (o.2.length : Int)) && decide (((min o.2.length 12 : Nat) : Int) < 12)) = false := by
        simp only [Bool.and_eq_false_iff, decide_eq_false_iff_not]; omega
      simp only [Tree.run, this, cond_false]) (s0 := 0) rfl
  unfold r07_Few_T
  obtain ⟨c, hc⟩ := fewD_run o.1
  simp only [Tree.run, h1, Option.bind_some]
  rcases h2 with rfl | rfl
  · exact ⟨false, rfl, fun h => by cases h⟩
  · simp only [Tree.run, hc, Option.bind_some]
    refine ⟨_, rfl, fun h => ?_⟩
    simp at h; omega

/-! The order is one. -/
theorem later_iff (a b : Sib) : later a b = true ↔ b.2.2.2 < a.2.2.2 ∨ (a.2.2.2 = b.2.2.2 ∧ (Op.bytesLess b.1.1 a.1.1 = true ∨ (a.1.1 = b.1.1 ∧ b.1.2 < a.1.2))) := by
  unfold later
  by_cases ht : a.2.2.2 = b.2.2.2
  · by_cases hn : a.1.1 = b.1.1
    · simp [ht, hn, less_irrefl]
    · simp only [ht, decide_true, Bool.not_true, cond_false, Int.lt_irrefl, false_or, true_and, hn, false_and, or_false]
      have : (a.1.1 == b.1.1) = false := by simp [hn]
      simp only [this, Bool.not_false, cond_true, Bool.or_false]
      cases h1 : Op.bytesLess a.1.1 b.1.1 with
      | true => simp [h1, less_asymm h1]
      | false =>
        cases h2 : Op.bytesLess b.1.1 a.1.1 with
        | true => simp [h1]
        | false => exact absurd (less_total h1 h2) hn
  · simp [ht]
theorem later_irrefl (a : Sib) : later a a = false := by
  cases h : later a a with
  | false => rfl
  | true => rw [later_iff] at h; simp [less_irrefl] at h
theorem later_asymm {a b : Sib} (h : later a b = true) : later b a = false := by
  cases k : later b a with
  | false => rfl
  | true =>
    rw [later_iff] at h k
    rcases h with h | ⟨h1, h⟩ <;> rcases k with k | ⟨k1, k⟩
    · omega
    · omega
    · omega
    · rcases h with h | ⟨h2, h⟩ <;> rcases k with k | ⟨k2, k⟩
      · rw [less_asymm h] at k; cases k
      · rw [k2, less_irrefl] at h; cases h
      · rw [h2, less_irrefl] at k; cases k
      · omega
theorem later_total {a b : Sib} (h : later a b = false) (k : later b a = false) : a.1 = b.1 := by
  have h' : ¬ (later a b = true) := by simp [h]
  have k' : ¬ (later b a = true) := by simp [k]
  rw [later_iff] at h' k'
  have ht : a.2.2.2 = b.2.2.2 := by
    have h1 : ¬ b.2.2.2 < a.2.2.2 := fun e => h' (.inl e)
    have h2 : ¬ a.2.2.2 < b.2.2.2 := fun e => k' (.inl e)
    omega
  have hn : a.1.1 = b.1.1 := less_total (by cases e : Op.bytesLess a.1.1 b.1.1 with | false => rfl | true => exact absurd (.inr ⟨ht.symm, .inl e⟩) k') (by cases e : Op.bytesLess b.1.1 a.1.1 with | false => rfl | true => exact absurd (.inr ⟨ht, .inl e⟩) h')
  have h1 : ¬ b.1.2 < a.1.2 := fun e => h' (.inr ⟨ht, .inr ⟨hn, e⟩⟩)
  have h2 : ¬ a.1.2 < b.1.2 := fun e => k' (.inr ⟨ht.symm, .inr ⟨hn.symm, e⟩⟩)
  exact Prod.ext hn (by omega)
theorem later_trans {a b c : Sib} (h : later a b = true) (k : later b c = true) : later a c = true := by
  rw [later_iff] at h k ⊢
  rcases h with h | ⟨h1, h⟩ <;> rcases k with k | ⟨k1, k⟩
  · left; omega
  · left; omega
  · left; omega
  · right
    refine ⟨by omega, ?_⟩
    rcases h with h | ⟨h2, h⟩ <;> rcases k with k | ⟨k2, k⟩
    · exact .inl (less_trans k h)
    · exact .inl (by rw [← k2]; exact h)
    · exact .inl (by rw [h2]; exact k)
    · exact .inr ⟨h2.trans k2, by omega⟩

theorem lastOrder_law (x : ElP l08_LastOrder_g.ps) (_ : okP l08_LastOrder_g.ps x) : (l08_LastOrder_g.f x).run = some true := by
  obtain ⟨a, b, c, _⟩ := x
  show (l08_LastOrder_T a b c).run = _
  unfold l08_LastOrder_T
  obtain ⟨f, hf, _⟩ := few_run [a, b, c]
  simp only [Tree.run, hf, later_run, awake08, Option.bind_some, Option.isNone_some, Bool.and_false, cond_false, Option.getD_some]
  cases f with
  | false => rfl
  | true =>
    have h1 := later_irrefl a
    have h2 : (later a b && later b a) = false := by
      cases h : later a b with
      | false => rfl
      | true => simp [later_asymm h]
    have h3 : ((!(a.1.1 == b.1.1 && (decide (a.1.2 = b.1.2) && true)) && !later a b) && !later b a) = false := by
      cases h : later a b with
      | true => simp
      | false =>
        cases k : later b a with
        | true => simp
        | false => have := later_total h k; simp [this]
    have h4 : (!later a b || !later b c || later a c) = true := by
      cases h : later a b with
      | false => simp
      | true => cases k : later b c with
        | false => simp
        | true => simp [later_trans h k]
    simp only [h1, h2, h3, h4, Bool.or_false, Bool.false_or, cond_false, Bool.not_true, Bool.true_and]

end Go.Eng
