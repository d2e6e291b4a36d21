/- Chapter 08, in plain Lean: the latest, the living, what is told; what is apart. -/
import Derived.Test.YtbkbciegpakodaaP08
namespace Go.Eng
open Go Go.Proofs

def maxF (x : Sib) : List Sib → Sib
  | [] => x
  | y :: l => maxF (bif later y x then y else x) l
def latest : List Sib → Sib × Bool × Unit
  | [] => ((([], 0), ([], (false, 0))), false, ())
  | x :: l => (maxF x l, true, ())

def SM (i : Nat) (c : Sib) : Int × Str × Int × Str × Bool × Int := (((i + 1 : Nat) : Int), c.1.1, c.1.2, c.2.1, c.2.2.1, c.2.2.2)
def outM (c : Sib) : Str × Int × Str × Bool × Int := (c.1.1, c.1.2, c.2.1, c.2.2.1, c.2.2.2)
theorem foldM (l : List Sib) : ∀ (i : Nat) (c : Sib), foldX (fun _ y c => (.inl (bif later y c then y else c) : Sib ⊕ (Str × Int × Str × Bool × Int))) outM i l c = outM (maxF c l) := by
  induction l with
  | nil => intro i c; rfl
  | cons y l ih => intro i c; simp only [foldX, maxF]; exact ih (i + 1) _

theorem max_run (x : Sib) (l : List Sib) (hl : l.length ≤ 1000000) : (slices_MaxFunc_Sib_last_compare_T (x :: l)).run = some (maxF x l) := by
  unfold slices_MaxFunc_Sib_last_compare_T
  have hn : ¬ (((x :: l).length : Int) < 1) := by simp only [List.length_cons]; omega
  simp only [Tree.run, hn, decide_false, cond_false]
  rw [show inb 0 (x :: l).length = true from by rw [inb_zero]; simp]
  rw [loopF_list l SM (fun _ y c => .inl (bif later y c then y else c)) outM (fun i c hi => by
      have h1 : ((i + 1 : Nat) : Int) < ((x :: l).length : Int) := by simp only [List.length_cons]; omega
      have h2 : inb ((i + 1 : Nat) : Int) (x :: l).length = true := by rw [inb_nat]; simpa using hi
      have h3 : (x :: l).getD (Int.toNat ((i + 1 : Nat) : Int)) (dfl tSib : Sib) = l[i] := by simp [hi]
      unfold slices_MaxFunc_Sib_last_compare_L5_step
      simp only [SM, Tree.run, h1, h2, h3, decide_true, cond_true, prod_eta, cmpV_run, Option.bind_some, later_eq]
      rw [w64_nat (i + 1) (by omega)]
      cases later l[i] c <;> rfl) (fun c => by
      have h1 : ¬ (((l.length + 1 : Nat) : Int) < ((x :: l).length : Int)) := by simp only [List.length_cons]; omega
      unfold slices_MaxFunc_Sib_last_compare_L5_step
      simp only [SM, Tree.run, h1, decide_false, cond_false]; rfl) x (by simp [SM])]
  rw [foldM]
  rfl
theorem latest_run (l : List Sib) (hl : l.length ≤ 1000000) : (last_Latest_T l).run = some (latest l) := by
  unfold last_Latest_T
  cases l with
  | nil => rfl
  | cons x l =>
    have hn : ¬ (((x :: l).length : Int) = 0) := by simp only [List.length_cons]; omega
    simp only [Tree.run, hn, decide_false, cond_false, max_run x l (by simp at hl; omega), Option.bind_some]
    rfl
theorem rLatest_run (l : List Sib) (hl : l.length ≤ 1000000) : (r08_Latest_T l).run = some (latest l) := by
  unfold r08_Latest_T
  cases l with
  | nil => rfl
  | cons x l =>
    simp only [List.length_cons] at hl
    have hn : ¬ (((x :: l).length : Int) = 0) := by simp only [List.length_cons]; omega
    simp only [Tree.run, hn, decide_false, cond_false]
    rw [show inb 0 (x :: l).length = true from by rw [inb_zero]; simp]
    rw [loopF_list l SM (fun _ y c => .inl (bif later y c then y else c)) outM (fun i c hi => by
      have h1 : ((i + 1 : Nat) : Int) < ((x :: l).length : Int) := by simp only [List.length_cons]; omega
      have h2 : inb ((i + 1 : Nat) : Int) (x :: l).length = true := by rw [inb_nat]; simpa using hi
      have h3 : (x :: l).getD (Int.toNat ((i + 1 : Nat) : Int)) (dfl tSib : Sib) = l[i] := by simp [hi]
      unfold r08_Latest_L5_step
      simp only [SM, Tree.run, h1, h2, h3, decide_true, cond_true, prod_eta, rLater_run, Option.bind_some]
      rw [w64_nat (i + 1) (by omega)]
      cases later l[i] c <;> rfl) (fun c => by
      have h1 : ¬ (((l.length + 1 : Nat) : Int) < ((x :: l).length : Int)) := by simp only [List.length_cons]; omega
      unfold r08_Latest_L5_step
      simp only [SM, Tree.run, h1, decide_false, cond_false]; rfl) x (by simp [SM])]
    rw [foldM]
    rfl

/-! The living. -/
def livs (l : List Sib) : List Sib := l.filter fun s => !s.2.2.1
theorem room_ok (n : Nat) (h : n ≤ 1000000) : decide (n * 56 ≤ roomNat) = true := by
  rw [decide_eq_true_eq]; unfold roomNat; omega
theorem clone_run (l : List Sib) (hl : l.length ≤ 1000000) : (slices_Clone_Sib_T l).run = some l := by
  unfold slices_Clone_Sib_T
  cases l with
  | nil => simp [Tree.run, Nat.beq]
  | cons x l =>
    have : Nat.beq (x :: l).length 0 = false := rfl
    simp only [Tree.run, this, room_ok _ hl, cond_true, cond_false]
theorem index_run (l : List Sib) (hl : l.length ≤ 1000000) : ((slices_IndexFunc_Sib_last_Live_1_T l).run = some (-1) ∧ l.any (fun s => s.2.2.1) = false) ∨
    ∃ i, ∃ hi : i < l.length, (slices_IndexFunc_Sib_last_Live_1_T l).run = some (i : Int) ∧ l[i].2.2.1 = true ∧ l.any (fun s => s.2.2.1) = true ∧ ∀ k (hk : k < i), (l[k]'(by omega)).2.2.1 = false := by
  have h := loopF_find (st := fun v => (slices_IndexFunc_Sib_last_Live_1_L2_step l (l.length : Int) v).run) l (fun s => s.2.2.1) (fun i => (i : Int)) (fun i => (Sum.inl (i : Int) : Int ⊕ Unit)) (.inr ()) (fun i hi => by
    unfold slices_IndexFunc_Sib_last_Live_1_L2_step last_Live_1_T
    simp only [Tree.run, Int.ofNat_lt, hi, decide_true, cond_true, inb_nat, Int.toNat_natCast, getD_lt _ _ _ hi, Option.bind_some, w64_nat i (by omega)]
    cases l[i].2.2.1 <;> rfl) (by unfold slices_IndexFunc_Sib_last_Live_1_L2_step; simp [Tree.run]) (s0 := (0 : Int)) rfl
  unfold slices_IndexFunc_Sib_last_Live_1_T
  simp only [Tree.run]
  rcases h with ⟨h, k⟩ | ⟨i, hi, h, k⟩
  · rw [h]; exact .inl ⟨rfl, k⟩
  · rw [h]; exact .inr ⟨i, hi, rfl, k⟩
theorem delete_run (l : List Sib) (hl : l.length ≤ 1000000) : (slices_DeleteFunc_Sib_last_Live_1_T l).run = some (livs l, ()) := by
  unfold slices_DeleteFunc_Sib_last_Live_1_T
  rcases index_run l hl with ⟨h, k⟩ | ⟨i0, hi, h, k1, _, k2⟩
  · have e : livs l = l := by
      unfold livs
      rw [List.filter_eq_self]
      intro a ha
      have := List.any_eq_false.1 k a ha
      simpa using this
    simp [Tree.run, h, e]
  · have hne : ¬ ((i0 : Int) = -1) := by omega
    obtain ⟨j, s, h1, h2, h3, h4⟩ := loopF_delete (p := fun s : Sib => s.2.2.1) (st := fun v => (slices_DeleteFunc_Sib_last_Live_1_L5_step v.1 v.2.1 v.2.2).run) l (fun i j s hj hij hs => by
      have hi' : i < s.length := by omega
      unfold slices_DeleteFunc_Sib_last_Live_1_L5_step last_Live_1_T
      simp only [Tree.run, Int.ofNat_lt, hj, hi', decide_true, cond_true, inb_nat, Int.toNat_natCast, getD_lt _ _ _ hj, Option.bind_some, w64_nat j (by omega), w64_nat i (by omega)]
      cases s[j].2.2.1 <;> rfl) (fun i j s hs hj => by
      subst hj
      unfold slices_DeleteFunc_Sib_last_Live_1_L5_step
      simp [Tree.run]) hi k2 k1 (s0 := ((i0 : Int), w64 ((i0 : Int) + 1), l)) (by rw [w64_nat i0 (by omega)])
    simp only [Tree.run, h, Option.bind_some, hne, decide_false, cond_false, h1, inbe_nat, length_clearL, Int.toNat_natCast]
    have h5 : j ≤ s.length := by omega
    simp only [h5, decide_true, cond_true, List.drop_zero, take_clearL, h4]
    rfl
theorem live_run (l : List Sib) (hl : l.length ≤ 1000000) : (last_Live_T l).run = some (livs l) := by
  unfold last_Live_T
  simp only [Tree.run, clone_run l hl, delete_run l hl, Option.bind_some]
theorem rLive_run (l : List Sib) (hl : l.length ≤ 1000000) : (r08_Live_T l).run = some (livs l) := by
  unfold r08_Live_T
  simp only [Tree.run]
  rw [loopF_listI l (fun i c => ((i : Int), c)) (fun _ x c => .inl (bif !x.2.2.1 then c ++ [x] else c)) id (fun i c => c.length ≤ i) (fun i c hi hc => by
      have h1 : decide ((c ++ [l[i]]).length * 56 ≤ roomNat) = true := room_ok _ (by simp; omega)
      unfold r08_Live_L3_step
      simp only [Tree.run, Int.ofNat_lt, hi, decide_true, cond_true, inb_nat, Int.toNat_natCast, getD_lt _ _ _ hi, prod_eta, h1, w64_nat i (by omega)]
      refine ⟨?_, fun c' h => ?_⟩
      · cases l[i].2.2.1 <;> rfl
      · injection h with h; subst h
        cases l[i].2.2.1
        · simp; omega
        · show c.length ≤ _; omega) (fun c _ => by unfold r08_Live_L3_step; simp [Tree.run]) [] (Nat.le_refl _) (s0 := ((0 : Int), ([] : List Sib))) rfl]
  have key : ∀ (l : List Sib) (i : Nat) (c : List Sib), foldX (α := List Sib) (fun _ x c => .inl (bif !x.2.2.1 then c ++ [x] else c)) id i l c = c ++ livs l := by
    intro l
    induction l with
    | nil => intro i c; simp [foldX, livs]
    | cons x l ih =>
      intro i c
      simp only [foldX]
      rw [ih]
      unfold livs
      cases h : x.2.2.1 <;> simp [h]
  rw [key]; rfl
theorem livs_len (l : List Sib) : (livs l).length ≤ l.length := List.length_filter_le _ _

theorem same_run (l : List Sib) (hl : l.length ≤ 1000000) : (r07_SameSibs_T l l).run = some true := by
  unfold r07_SameSibs_T
  simp only [Tree.run, decide_true, Bool.not_true, cond_false]
  rw [loopF_run (S := fun i => ((i : Nat) : Int)) (n := l.length) (a := (.inr () : Bool ⊕ Unit)) (fun i hi => by
    unfold r07_SameSibs_L4_step
    simp only [Tree.run, Int.ofNat_lt, hi, decide_true, cond_true, inb_nat, Int.toNat_natCast, getD_lt _ _ _ hi, beq_self_eq_true, Bool.and_true, Bool.not_true, cond_false, w64_nat i (by omega)]) (by unfold r07_SameSibs_L4_step; simp [Tree.run]) (s0 := (0 : Int)) rfl]
  rfl

/-! What is told. -/
def answer (o : Obj) (several : Bool) : List Sib := bif several then livs o.2 else bif (latest o.2).2.1 then livs [(latest o.2).1] else []
theorem answer_run (o : Obj) (b : Bool) (hl : o.2.length ≤ 1000000) : (last_Answer_T o b).run = some (answer o b) := by
  unfold last_Answer_T answer
  cases b with
  | true => simp only [Tree.run, cond_true, live_run _ hl, Option.bind_some]
  | false =>
    simp only [Tree.run, cond_false, latest_run _ hl, Option.bind_some, live_run [(latest o.2).1] (by simp)]
    cases (latest o.2).2.1 <;> rfl
theorem rAnswer_run (o : Obj) (b : Bool) (hl : o.2.length ≤ 1000000) : (r08_Answer_T o b).run = some (answer o b) := by
  unfold r08_Answer_T answer
  cases b with
  | true => simp only [Tree.run, cond_true, rLive_run _ hl, Option.bind_some]
  | false =>
    simp only [Tree.run, cond_false, rLatest_run _ hl, Option.bind_some]
    cases (latest o.2).2.1
    · rfl
    · unfold livs
      cases h : (latest o.2).1.2.2.1 <;> simp [h]
theorem answer_len (o : Obj) (b : Bool) (hl : o.2.length ≤ 1000000) : (answer o b).length ≤ 1000000 := by
  unfold answer
  cases b with
  | true => exact Nat.le_trans (livs_len _) hl
  | false =>
    cases (latest o.2).2.1
    · exact Nat.zero_le _
    · exact Nat.le_trans (livs_len _) (by simp)

theorem lastIs_law (x : ElP l08_LastIs_g.ps) (_ : okP l08_LastIs_g.ps x) : (l08_LastIs_g.f x).run = some true := by
  obtain ⟨l, o, b, _⟩ := x
  show (l08_LastIs_T l o b).run = _
  unfold l08_LastIs_T
  obtain ⟨f, hf, hf'⟩ := few_run l
  obtain ⟨g, hg, hg'⟩ := fewO_run o
  simp only [Tree.run, hf, hg, awake08, Option.bind_some, Option.isNone_some, Bool.and_false, cond_false, Option.getD_some]
  cases f with
  | false => rfl
  | true => cases g with
    | false => rfl
    | true =>
      have hl := hf' rfl
      have ho := hg' rfl
      simp only [Bool.not_true, Bool.or_false, cond_false, latest_run l (by omega), rLatest_run l (by omega), Option.bind_some]
      rw [loopF_run (S := fun i => ((i : Nat) : Int)) (n := l.length) (a := (.inr () : Bool ⊕ Unit)) (fun i hi => by
        have h0 : inb 0 l.length = true := by rw [inb_zero, decide_eq_true_eq]; omega
        unfold l08_LastIs_L6_step
        simp only [Tree.run, Int.ofNat_lt, hi, decide_true, cond_true, inb_nat, h0, later_run, rLater_run, Option.bind_some, beq_self_eq_true, Bool.not_true, cond_false, w64_nat i (by omega)]) (by unfold l08_LastIs_L6_step; simp [Tree.run]) (s0 := (0 : Int)) rfl]
      simp only [Tree.run, Option.bind_some, live_run l (by omega), rLive_run l (by omega), answer_run o b (by omega), rAnswer_run o b (by omega), same_run _ (Nat.le_trans (livs_len l) (by omega : l.length ≤ 1000000)), same_run _ (answer_len o b (by omega)), awake08,
        Option.isNone_some, Bool.and_false, cond_false, Option.getD_some, beq_self_eq_true, decide_true, Bool.and_true]

end Go.Eng
