/- Laws in plain Lean: z53. -/
import Derived.Test.YtbkngbgohlkfoaaP53
namespace Go.Eng
open Go Go.Proofs Go.RowKit

/-! Few. -/
def q06 (x : Seen) : Bool := (decide ((100 : Int) < (x.1.length : Int))) || (decide ((40 : Int) < (x.2.2.length : Int)))
theorem few06_run (c : List Seen) : (r06_Few_T c).run = some (fewB q06 12 c) := by
  unfold r06_Few_T
  refine few_tree c 12 q06 (fun v => r06_Few_L2_step c v) (by omega) 12 rfl (fun i hi hm => ?_) (fun i hi => ?_)
  · have h4 : (i : Int) < 12 := by omega
    unfold r06_Few_L2_step q06
    simp only [Tree.run, Int.ofNat_lt, hi, h4, decide_true, cond_true, inb_nat, Int.toNat_natCast, getD_lt _ _ _ hi, Bool.and_true, Bool.or_true]
    cases (decide ((100 : Int) < (c[i].1.length : Int))) || (decide ((40 : Int) < (c[i].2.2.length : Int))) <;> rfl
  · have : (decide ((i : Int) < (c.length : Int)) && decide ((i : Int) < 12)) = false := by
      simp only [Bool.and_eq_false_iff, decide_eq_false_iff_not]; omega
    unfold r06_Few_L2_step
    simp only [Tree.run, this, cond_false]
def q44 (x : Deed) : Bool := ((((((((decide ((100 : Int) < (x.1.length : Int))) || (decide ((100 : Int) < (x.2.1.length : Int)))) || (decide ((100 : Int) < (x.2.2.2.2.2.2.1.2.2.1.length : Int)))) || (decide ((100 : Int) < (x.2.2.2.2.2.2.1.2.2.2.1.length : Int)))) || (decide ((300 : Int) < (x.2.2.2.2.2.2.1.2.2.2.2.1.length : Int)))) || (!fewB q06 12 x.2.2.2.2.2.2.1.2.2.2.2.2.1)) || (!fewB q06 12 x.2.2.2.2.2.2.2.2.2.2.1)) || (decide ((12 : Int) < (x.2.2.2.2.2.2.2.2.2.1.length : Int))))
theorem few44_run (l : List Deed) (most : Nat) (hm : most ≤ 1000) (m' : Int) (hm' : m' = (most : Int)) : (r44_Few_T l m').run = some (fewB q44 most l) := by
  unfold r44_Few_T
  refine few_tree l most q44 (fun v => r44_Few_L2_step l m' v) (by omega) m' hm' (fun i hi hm => ?_) (fun i hi => ?_)
  · have h4 : (i : Int) < m' := by omega
    unfold r44_Few_L2_step q44
    simp only [Tree.run, Int.ofNat_lt, hi, h4, decide_true, cond_true, inb_nat, Int.toNat_natCast, getD_lt _ _ _ hi, Bool.and_true, few06_run, Option.isNone_some, Bool.and_false, cond_false, Option.getD_some]
    generalize ((((((((decide ((100 : Int) < (l[i].1.length : Int))) || (decide ((100 : Int) < (l[i].2.1.length : Int)))) || (decide ((100 : Int) < (l[i].2.2.2.2.2.2.1.2.2.1.length : Int)))) || (decide ((100 : Int) < (l[i].2.2.2.2.2.2.1.2.2.2.1.length : Int)))) || (decide ((300 : Int) < (l[i].2.2.2.2.2.2.1.2.2.2.2.1.length : Int)))) || (!fewB q06 12 l[i].2.2.2.2.2.2.1.2.2.2.2.2.1)) || (!fewB q06 12 l[i].2.2.2.2.2.2.2.2.2.2.1)) || (decide ((12 : Int) < (l[i].2.2.2.2.2.2.2.2.2.1.length : Int)))) = z
    cases z <;> rfl
  · have : (decide ((i : Int) < (l.length : Int)) && decide ((i : Int) < m')) = false := by
      simp only [Bool.and_eq_false_iff, decide_eq_false_iff_not]; omega
    unfold r44_Few_L2_step
    simp only [Tree.run, this, cond_false]

theorem loopF_inv {σ α : Type} {st : σ → Option (σ ⊕ α)} (I : Nat → σ → Prop) (n : Nat) (Q : α → Prop) (h : ∀ i s, i < n → I i s → ∃ s', st s = some (.inl s') ∧ I (i + 1) s') (h0 : ∀ s, I n s → ∃ a, st s = some (.inr a) ∧ Q a) {s0 : σ} (hs : I 0 s0) : ∃ a, loopF st s0 = some a ∧ Q a := by
  have key : ∀ d i s, i + d = n → I i s → ∃ a, loopF st s = some a ∧ Q a := by
    intro d
    induction d with
    | zero => intro i s hi hs; have : i = n := hi; subst this; obtain ⟨a, h1, h2⟩ := h0 s hs; exact ⟨a, by rw [loopF_eq, h1]; rfl, h2⟩
    | succ d ih =>
      intro i s hi hs
      obtain ⟨s', h1, h2⟩ := h i s (by omega) hs
      obtain ⟨a, k1, k2⟩ := ih (i + 1) s' (by omega) h2
      exact ⟨a, by rw [loopF_eq, h1]; exact k1, k2⟩
  exact key n 0 s0 (by omega) hs

theorem awake53 : l53_awake_T.run = some true := Tree.runN_run (n := 20) (by kernel_rfl)

theorem windowIs_law (x : ElP l53_WindowIs_g.ps) (hx : okP l53_WindowIs_g.ps x) : (l53_WindowIs_g.f x).run = some true := by
  obtain ⟨l, n, _⟩ := x
  obtain ⟨hl, hn, _⟩ := hx
  show (l53_WindowIs_T l n).run = _
  unfold l53_WindowIs_T
  by_cases h30 : (30 : Int) < (l.length : Int)
  · simp only [Tree.run, h30, decide_true, cond_true, awake53, Option.bind_some]
  have hlen : l.length ≤ 1000000 := by omega
  have hi : ∀ x ∈ l, I64 x := fun x hx => i64_of (hl.2 x hx)
  have hw : I64 n.1 := i64_of hn.1
  have b1 : inb 0 3 = true := by decide
  have b2 : inb 1 3 = true := by decide
  have b3 : inb 2 3 = true := by decide
  simp only [Tree.run, h30, decide_false, cond_false, b1, b2, b3, cond_true, worst_run l n.1 hi hw hlen, rWorst_run l n.1 hi hw hlen, most_run l n.1 hi hw hlen, rMost_run l n.1 hi hw hlen, within_run l _ _ hlen, rWithin_run l _ _ hlen, Option.bind_some, decide_true, Bool.and_true, beq_self_eq_true, Bool.or_true, Option.isNone_some, Bool.and_false, Option.getD_some, within_same (sortI_sorted l) (sortI_perm l), awake53]

/-! The ticks of the calls that were let. -/
def refB (e : Int) : Bool := ((((decide (e = 1)) || (decide (e = 7))) || (decide (e = 8))) || (decide (e = 11))) || (decide (e = 9))
theorem refused_run (e : Int) : (window_refused_T e).run = some (refB e) := by
  unfold window_refused_T refB
  simp only [Tree.run]
  by_cases h1 : e = 1
  · simp [h1]
  by_cases h2 : e = 7
  · simp [h2]
  by_cases h3 : e = 8
  · simp [h3]
  by_cases h4 : e = 11
  · simp [h4]
  by_cases h5 : e = 9
  · simp [h5]
  · simp [h1, h2, h3, h4, h5]
def letB (node lane : Str) (d : Deed) : Bool := ((d.1 == node) && (d.2.1 == lane)) && !(d.2.2.2.2.2.2.2.1 && refB d.2.2.2.2.2.2.2.2.1)
def letL (node lane : Str) : List Deed → List Int
  | [] => []
  | d :: l => bif letB node lane d then d.2.2.2.2.2.1 :: letL node lane l else letL node lane l
theorem letL_eq (node lane : Str) (l : List Deed) : letL node lane l = (l.filter (letB node lane)).map (fun d => d.2.2.2.2.2.1) := by
  induction l with
  | nil => rfl
  | cons d l ih =>
    simp only [letL, List.filter_cons]
    cases letB node lane d <;> simp [ih]
theorem letL_take (node lane : Str) (l : List Deed) (i : Nat) (hi : i < l.length) : letL node lane (l.take (i + 1)) = bif letB node lane l[i] then letL node lane (l.take i) ++ [l[i].2.2.2.2.2.1] else letL node lane (l.take i) := by
  rw [letL_eq, letL_eq, List.take_add_one, List.getElem?_eq_getElem hi, List.filter_append, List.map_append]
  simp only [Option.toList_some, List.filter_cons, List.filter_nil]
  cases letB node lane l[i] <;> simp
theorem letL_len (node lane : Str) (l : List Deed) : (letL node lane l).length ≤ l.length := by
  rw [letL_eq, List.length_map]; exact List.length_filter_le _ _
theorem let_run (l : List Deed) (node lane : Str) (hl : l.length ≤ 1000) : (window_Let_T l node lane).run = some (letL node lane l) := by
  unfold window_Let_T
  simp only [Tree.run]
  rw [loopF_run (S := fun i => ((i : Int), letL node lane (l.take i))) (n := l.length) (a := letL node lane l) (fun i hi => by
    have hlen := letL_len node lane (l.take (i + 1))
    rw [List.length_take] at hlen
    have hd := letL_take node lane l i hi
    unfold window_Let_L3_step
    simp only [Tree.run, Int.ofNat_lt, hi, decide_true, cond_true, inb_nat, Int.toNat_natCast, getD_lt _ _ _ hi, refused_run, Option.isNone_some, Bool.and_false, cond_false, Option.getD_some, w64_i i (by omega)]
    rw [show (((l[i].1 == node) && (l[i].2.1 == lane)) && ((!l[i].2.2.2.2.2.2.2.1) || (!refB l[i].2.2.2.2.2.2.2.2.1))) = letB node lane l[i] from by unfold letB; rw [Bool.not_and]]
    cases hb : letB node lane l[i] with
    | true =>
      rw [hb, cond_true] at hd
      rw [hd] at hlen
      simp only [cond_true, room_le _ 8 (by omega : (letL node lane (l.take i) ++ [l[i].2.2.2.2.2.1]).length ≤ 1000000) (by omega)]
      rw [hd]
    | false =>
      rw [hb, cond_false] at hd
      simp only [cond_false]
      rw [hd]) (by
    unfold window_Let_L3_step
    simp [Tree.run]) (s0 := ((0 : Int), ([] : List Int))) (by simp [letL])]
  rfl
theorem rLet_run (l : List Deed) (node lane : Str) (hl : l.length ≤ 1000) : (r53_Let_T l node lane).run = some (letL node lane l) := by
  unfold r53_Let_T
  simp only [Tree.run]
  rw [loopF_run (S := fun i => ((i : Int), letL node lane (l.take i))) (n := l.length) (a := letL node lane l) (fun i hi => by
    have hlen := letL_len node lane (l.take (i + 1))
    rw [List.length_take] at hlen
    have hd := letL_take node lane l i hi
    unfold r53_Let_L3_step
    simp only [Tree.run, Int.ofNat_lt, hi, decide_true, cond_true, inb_nat, Int.toNat_natCast, getD_lt _ _ _ hi, Bool.or_true, w64_i i (by omega)]
    rw [show (((l[i].1 == node) && (l[i].2.1 == lane)) && (!(l[i].2.2.2.2.2.2.2.1 && (((((decide (l[i].2.2.2.2.2.2.2.2.1 = 1)) || (decide (l[i].2.2.2.2.2.2.2.2.1 = 7))) || (decide (l[i].2.2.2.2.2.2.2.2.1 = 8))) || (decide (l[i].2.2.2.2.2.2.2.2.1 = 11))) || (decide (l[i].2.2.2.2.2.2.2.2.1 = 9)))))) = letB node lane l[i] from rfl]
    cases hb : letB node lane l[i] with
    | true =>
      rw [hb, cond_true] at hd
      rw [hd] at hlen
      simp only [cond_true, room_le _ 8 (by omega : (letL node lane (l.take i) ++ [l[i].2.2.2.2.2.1]).length ≤ 1000000) (by omega)]
      rw [hd]
    | false =>
      rw [hb, cond_false] at hd
      simp only [cond_false]
      rw [hd]) (by
    unfold r53_Let_L3_step
    simp [Tree.run]) (s0 := ((0 : Int), ([] : List Int))) (by simp [letL])]
  rfl
theorem sameInts_refl (l : List Int) (hl : l.length ≤ 1000000) : (r06_SameInts_T l l).run = some true := by
  unfold r06_SameInts_T
  simp only [Tree.run, decide_true, Bool.not_true, cond_false]
  rw [same_loop l.length (fun v => r06_SameInts_L4_step l l v) (.inr () : Bool ⊕ Unit) (by omega) (fun i hi => by
    unfold r06_SameInts_L4_step
    simp only [Tree.run, Int.ofNat_lt, hi, decide_true, Bool.and_self, cond_true, inb_nat, Bool.not_true, cond_false]) (by unfold r06_SameInts_L4_step; simp [Tree.run])]
  rfl
theorem windowLet_law (x : ElP l53_WindowLet_g.ps) (_ : okP l53_WindowLet_g.ps x) : (l53_WindowLet_g.f x).run = some true := by
  obtain ⟨l, node, lane, _⟩ := x
  show (l53_WindowLet_T l node lane).run = _
  unfold l53_WindowLet_T
  simp only [Tree.run, few44_run l 14 (by omega) 14 rfl, Option.bind_some]
  cases hf : fewB q44 14 l with
  | false => simp only [Bool.not_false, Bool.true_or, cond_true, awake53, Option.bind_some]
  | true =>
    have hn := fewB_len hf
    cases hb : (!true || decide ((100 : Int) < (node.length : Int))) || decide ((100 : Int) < (lane.length : Int)) with
    | true => simp only [cond_true, awake53, Option.bind_some]
    | false =>
      have h1 := letL_len node lane l
      simp only [cond_false, let_run l node lane (by omega), rLet_run l node lane (by omega), Option.bind_some, sameInts_refl _ (by omega : (letL node lane l).length ≤ 1000000), awake53, Option.isNone_some, Bool.and_false, Option.getD_some, Bool.and_true]

/-! A wider window; and a bucket. -/
theorem full_run (b : Int) : (r30_Full_T 0 b).run = some (inR b MR, 0) := by
  unfold r30_Full_T
  rw [show (1048576 : Int) = MR from rfl]
  simp only [Tree.run, inR_run, Option.bind_some]; rfl
theorem take_run (left at' now r b : Int) (h1 : 0 ≤ left) (h2 : left ≤ inR b MR) (h3 : 0 ≤ at') (h4 : at' ≤ now) (h5 : now ≤ MT) :
    (r30_Take_T (left, at') now r b).run = some (((takeB (inR r MR) (inR b MR) left at' now).1, now), (takeB (inR r MR) (inR b MR) left at' now).2, ()) := by
  have q1 := inR_le (x := r) (m := MR) (by decide)
  have q2 := inR_le (x := b) (m := MR) (by decide)
  have eL : inR left MR = left := by unfold inR; omega
  have eA : inR at' MT = at' := by unfold inR; omega
  have eN : inR now MT = now := by unfold inR; omega
  have hm0 : 0 ≤ (now - at') * inR r MR := Int.mul_nonneg (by omega) q1.1
  have hm1 : (now - at') * inR r MR ≤ 1099511627776 * 1048576 :=
    Int.le_trans (Int.mul_le_mul_of_nonneg_right (by unfold MT at h5; omega) q1.1) (Int.mul_le_mul_of_nonneg_left q1.2 (by omega))
  unfold r30_Take_T r30_Fill_T takeB
  rw [show (1048576 : Int) = MR from rfl, show (1099511627776 : Int) = MT from rfl]
  simp only [Tree.run, inR_run, Option.bind_some, eL, eA, eN, imin_eq]
  by_cases hlt : at' < now
  · rw [w64_in (x := now - at') (by unfold MT at h5; omega) (by unfold MT at h5; omega), w64_in (x := (now - at') * inR r MR) (by omega) (by omega), w64_in (x := left + _) (by omega) (by unfold MR at *; omega)]
    simp only [hlt, decide_true, cond_true, Option.bind_some]
    generalize (now - at') * inR r MR = q at *
    by_cases hz : min (left + q) (inR b MR) = 0
    · simp only [hz, decide_true, cond_true, if_true]
    · simp only [hz, decide_false, cond_false, if_false]
      rw [w64_in (by omega) (by unfold MR at *; omega)]
  · have e : now = at' := by omega
    subst e
    have e0 : (now - now) * inR r MR = 0 := by rw [Int.sub_self, Int.zero_mul]
    rw [e0, Int.add_zero]
    simp only [hlt, decide_false, cond_false, Option.bind_some]
    by_cases hz : min left (inR b MR) = 0
    · simp only [hz, decide_true, cond_true, if_true]
    · simp only [hz, decide_false, cond_false, if_false]
      rw [w64_in (by omega) (by unfold MR at *; omega)]
theorem and7 (x : Int) : 0 ≤ stdArith .and .u8 x 7 ∧ stdArith .and .u8 x 7 ≤ 255 := by
  have h := (wf_iff .u8 (stdArith .and .u8 x 7)).1 (wf_wrap .u8 _)
  simp [IntKind.min, IntKind.max, IntKind.signed, IntKind.bits] at h
  exact h
theorem wider_run (l : List Int) (ws : Int × Int) (n : Int) (h8 : ∀ x ∈ l, 0 ≤ x ∧ x ≤ 255) (hw1 : 0 ≤ ws.1 ∧ ws.1 ≤ 255) (hw2 : 0 ≤ ws.2 ∧ ws.2 ≤ 255) : (l53_WindowWider_T l ws n).run = some true := by
  unfold l53_WindowWider_T
  by_cases h30 : (30 : Int) < (l.length : Int)
  · simp only [Tree.run, h30, decide_true, cond_true, awake53, Option.bind_some]
  have hlen : l.length ≤ 30 := by omega
  have hi : ∀ x ∈ l, I64 x := fun x hx => by have := h8 x hx; unfold I64; omega
  simp only [Tree.run, h30, decide_false, cond_false]
  rw [loopF_run (S := fun i => ((i : Int), l.take i)) (n := l.length) (a := l) (fun i hi' => by
    have h8i := h8 l[i] (List.getElem_mem hi')
    have e : l.take (i + 1) = l.take i ++ [l[i]] := by rw [List.take_add_one, List.getElem?_eq_getElem hi']; rfl
    have hle : (l.take i ++ [l[i]]).length ≤ 1000000 := by rw [← e, List.length_take]; omega
    unfold l53_WindowWider_L5_step
    simp only [Tree.run, Int.ofNat_lt, hi', decide_true, cond_true, inb_nat, Int.toNat_natCast, getD_lt _ _ _ hi', w64_in (x := l[i]) (by omega) (by omega), room_le _ 8 hle (by omega), w64_i i (by omega)]
    rw [e]) (by unfold l53_WindowWider_L5_step; simp [Tree.run]) (s0 := ((0 : Int), ([] : List Int))) (by simp)]
  have b1 : inb 0 2 = true := by decide
  have b2 : inb 1 2 = true := by decide
  have hl6 : l.length ≤ 1000000 := by omega
  have ew1 : w64 (min ws.1 ws.2) = min ws.1 ws.2 := w64_in (by omega) (by omega)
  have ew2 : w64 (max ws.1 ws.2) = max ws.1 ws.2 := w64_in (by omega) (by omega)
  have i1 : I64 (min ws.1 ws.2) := by unfold I64; omega
  have i2 : I64 (max ws.1 ws.2) := by unfold I64; omega
  have i3 : I64 255 := by unfold I64; omega
  have i4 : I64 (-1) := by unfold I64; omega
  have m1 := mostL_mono l (a := min ws.1 ws.2) (b := max ws.1 ws.2) (by omega)
  have c1 : decide (((mostL l (max ws.1 ws.2) : Nat) : Int) < ((mostL l (min ws.1 ws.2) : Nat) : Int)) = false := by rw [decide_eq_false_iff_not]; omega
  have c2 : decide ((l.length : Int) = (l.length : Int)) = true := by simp
  have c3 : (decide ((0 : Int) < (l.length : Int)) && decide (((mostL l (-1) : Nat) : Int) < 1)) = false := by
    by_cases h0 : l = []
    · subst h0; rfl
    · have := mostL_one h0 (-1)
      rw [Bool.and_eq_false_iff]; right; rw [decide_eq_false_iff_not]; omega
  have c4 : decide ((0 : Int) ≤ 4) = true := by decide
  simp only [Tree.run, b1, b2, cond_true, imin_eq, imax_eq, ew1, ew2, most_run l _ hi i1 hl6, most_run l _ hi i2 hl6, most_run l _ hi i3 hl6, most_run l _ hi i4 hl6, mostL_all (l := l) (w := 255) h8, Option.bind_some, Option.isNone_some, Bool.and_false, cond_false, Option.getD_some, c1, decide_true, c3, c4, Bool.not_true, Bool.or_self, full_run]
  generalize w64 (stdArith .and .u8 n 15) = r
  generalize w64 (stdShift .shr .u8 n 4) = b
  have q1 := inR_le (x := r) (m := MR) (by decide)
  have q2 := inR_le (x := b) (m := MR) (by decide)
  obtain ⟨le, hle, k1, k2⟩ := loopF_inv (st := fun v => (l53_WindowWider_L16_step l r b v.1 v.2.1 v.2.2.1 v.2.2.2).run)
    (fun i (s : Int × Int × Bucket × List Int) => s.2.1 = (i : Int) ∧ s.2.2.1.2 = s.1 ∧ 0 ≤ s.1 ∧ s.1 ≤ 255 * (i : Int) ∧ s.2.2.2.length ≤ i ∧ BOk (inR r MR) (inR b MR) s.2.2.1.1 s.1 s.2.2.2) l.length
    (fun a => a.length ≤ l.length ∧ ∃ left now, now ≤ MT ∧ BOk (inR r MR) (inR b MR) left now a) (fun i s hi' hI => by
      obtain ⟨now, i', ⟨left, at'⟩, le⟩ := s
      obtain ⟨p1, p2, p3, p4, p5, p6⟩ := hI
      simp only at p1 p2 p3 p4 p5 p6
      subst p1 p2
      have a7 := and7 l[i]
      have en1 : w64 (stdArith .and .u8 l[i] 7) = stdArith .and .u8 l[i] 7 := w64_in (by omega) (by omega)
      have en2 : w64 (at' + stdArith .and .u8 l[i] 7) = at' + stdArith .and .u8 l[i] 7 := w64_in (by omega) (by omega)
      have hstep := p6.step (now := at' + stdArith .and .u8 l[i] 7) q1.1 p3 (by omega)
      unfold l53_WindowWider_L16_step
      simp only [Tree.run, Int.ofNat_lt, hi', decide_true, cond_true, inb_nat, Int.toNat_natCast, getD_lt _ _ _ hi', en1, en2, take_run left at' (at' + stdArith .and .u8 l[i] 7) r b p6.1 p6.2.1 p3 (by omega) (by unfold MT; omega), Option.bind_some, w64_i i (by omega)]
      cases ht : (takeB (inR r MR) (inR b MR) left at' (at' + stdArith .and .u8 l[i] 7)).2 with
      | true =>
        rw [ht, if_pos rfl] at hstep
        have hroom : (le ++ [at' + stdArith .and .u8 l[i] 7]).length ≤ 1000000 := by rw [List.length_append]; simp; omega
        simp only [cond_true, room_le _ 8 hroom (by omega)]
        refine ⟨(at' + stdArith .and .u8 l[i] 7, ((i + 1 : Nat) : Int), ((takeB (inR r MR) (inR b MR) left at' (at' + stdArith .and .u8 l[i] 7)).1, at' + stdArith .and .u8 l[i] 7), le ++ [at' + stdArith .and .u8 l[i] 7]), rfl, rfl, rfl, ?_, ?_, ?_, hstep⟩
        · show 0 ≤ at' + stdArith .and .u8 l[i] 7; omega
        · show at' + stdArith .and .u8 l[i] 7 ≤ 255 * (((i + 1 : Nat)) : Int); omega
        · show (le ++ [at' + stdArith .and .u8 l[i] 7]).length ≤ i + 1; rw [List.length_append]; show le.length + 1 ≤ _; omega
      | false =>
        rw [ht, if_neg Bool.false_ne_true] at hstep
        simp only [cond_false]
        refine ⟨(at' + stdArith .and .u8 l[i] 7, ((i + 1 : Nat) : Int), ((takeB (inR r MR) (inR b MR) left at' (at' + stdArith .and .u8 l[i] 7)).1, at' + stdArith .and .u8 l[i] 7), le), rfl, rfl, rfl, ?_, ?_, ?_, hstep⟩
        · show 0 ≤ at' + stdArith .and .u8 l[i] 7; omega
        · show at' + stdArith .and .u8 l[i] 7 ≤ 255 * (((i + 1 : Nat)) : Int); omega
        · show le.length ≤ i + 1; omega) (fun s hI => by
      obtain ⟨now, i', ⟨left, at'⟩, le⟩ := s
      obtain ⟨p1, p2, p3, p4, p5, p6⟩ := hI
      simp only at p1 p2 p3 p4 p5 p6
      subst p1
      unfold l53_WindowWider_L16_step
      refine ⟨le, by simp [Tree.run], p5, left, now, by unfold MT; omega, p6⟩) (s0 := ((0 : Int), (0 : Int), ((inR b MR, (0 : Int)) : Bucket), ([] : List Int))) ⟨rfl, rfl, Int.le_refl _, by simp, Nat.le_refl _, q2.1, Int.le_refl _, fun x hx => absurd hx List.not_mem_nil, List.Pairwise.nil, fun i h => absurd h (Nat.not_lt_zero _), fun i k _ h => absurd h (Nat.not_lt_zero _)⟩
  obtain ⟨left, now, hnow, hB⟩ := k2
  rw [hle]
  simp only [Option.bind_some, within_run le r b (by omega), awake53, Option.isNone_some, Bool.and_false, cond_false, Option.getD_some, Bool.and_true]
  congr 1
  rw [within_same (sortI_sorted le) (sortI_perm le), ← within_same hB.2.2.2.1 (List.Perm.refl le), withinS_iff]
  intro i k hik hk
  have hx := hB.2.2.2.2.2 i k hik hk
  have z1 := hB.2.2.1 _ (List.getElem_mem hk)
  have z2 := hB.2.2.1 _ (List.getElem_mem (show i < le.length by omega))
  have z3 := sorted_le hB.2.2.2.1 hik hk
  unfold mostY
  rw [show inR le[k] MT = le[k] from by unfold inR; omega, show inR le[i] MT = le[i] from by unfold inR; omega, show max 0 (le[k] - le[i]) = le[k] - le[i] from by omega]
  exact hx
theorem windowWider_law (x : ElP l53_WindowWider_g.ps) (hx : okP l53_WindowWider_g.ps x) : (l53_WindowWider_g.f x).run = some true := by
  obtain ⟨l, ws, n, _⟩ := x
  obtain ⟨hl, hw, _⟩ := hx
  exact wider_run l ws n (fun x hx => u8_of (hl.2 x hx)) (u8_of hw.1) (u8_of hw.2)

end Go.Eng
