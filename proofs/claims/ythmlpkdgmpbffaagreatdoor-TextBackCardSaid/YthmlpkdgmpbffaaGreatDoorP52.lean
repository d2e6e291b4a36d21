/- Laws in plain Lean: fw52 bk52. -/
import Derived.Test.YthmlpkdgmpbffaaGreatDoorKc52
import Derived.Test.YthmlpkdgmpbffaaGreatDoorY52
namespace Go.Eng
open Go Go.Proofs Go.RowKit

/-! Small lists. -/
theorem xwf64 {n : Int} (h : (Lit.int .i64 n).wf = true) : N64 n := by
  have e1 : IntKind.i64.min = -9223372036854775808 := rfl
  have e2 : IntKind.i64.max = 9223372036854775807 := rfl
  simp only [Lit.wf, e1, e2, Bool.and_eq_true, decide_eq_true_eq] at h
  exact h
theorem few_loop (st : Int → Tree (Int ⊕ (Bool ⊕ Unit))) (n M : Nat) (hM : M ≤ 1000) (P : Nat → Prop)
    (h : ∀ i, i < n → i < M → ∃ g : Bool, (st (i : Int)).run = some (bif g then .inr (.inl false) else .inl (w64 ((i : Int) + 1))) ∧ (g = false → P i))
    (h0 : ∀ i, ¬(i < n ∧ i < M) → (st (i : Int)).run = some (.inr (.inr ()))) :
    ∀ d i : Nat, i + d = min n M → ∃ r, loopF (fun v => (st v).run) (i : Int) = some r ∧ (r = .inl false ∨ (r = .inr () ∧ ∀ k, i ≤ k → k < min n M → P k)) := by
  intro d
  induction d with
  | zero =>
    intro i hi
    refine ⟨.inr (), ?_, .inr ⟨rfl, fun k h1 h2 => by omega⟩⟩
    rw [loopF_eq, h0 i (by omega)]; rfl
  | succ d ih =>
    intro i hi
    obtain ⟨g, hg, hp⟩ := h i (by omega) (by omega)
    rw [loopF_eq, hg]
    cases g with
    | true => exact ⟨.inl false, rfl, .inl rfl⟩
    | false =>
      rw [cond_false, xw64 i (by omega)]
      obtain ⟨r, hr, hq⟩ := ih (i + 1) (by omega)
      refine ⟨r, hr, ?_⟩
      rcases hq with hq | ⟨hq, hk⟩
      · exact .inl hq
      · refine .inr ⟨hq, fun k h1 h2 => ?_⟩
        by_cases e : k = i
        · rw [e]; exact hp rfl
        · exact hk k (by omega) h2
def FSn (s : Seen) : Prop := s.1.length ≤ 100 ∧ s.2.2.length ≤ 40
def FX (c : List Seen) : Prop := c.length ≤ 12 ∧ ∀ s ∈ c, FSn s
theorem ff_f {i : Nat} {n : Nat} {M : Int} (m : Nat) (hM : M = (m : Int)) (h : ¬(i < n ∧ i < m)) : ((decide ((i : Int) < (n : Int))) && (decide ((i : Int) < M))) = false := by
  subst hM
  by_cases h1 : i < n
  · rw [decide_eq_false (show ¬((i : Int) < (m : Int)) by omega), Bool.and_false]
  · rw [decide_eq_false (show ¬((i : Int) < (n : Int)) by omega)]; rfl
theorem ff_t {i : Nat} {n : Nat} {M : Int} (m : Nat) (hM : M = (m : Int)) (h : i < n) (h2 : i < m) : ((decide ((i : Int) < (n : Int))) && (decide ((i : Int) < M))) = true := by
  subst hM
  rw [decide_eq_true (show ((i : Int) < (n : Int)) by omega), decide_eq_true (show ((i : Int) < (m : Int)) by omega)]; rfl
theorem few6_run (c : List Seen) : ∃ b, (r06_Few_T c).run = some b ∧ (b = true → FX c) := by
  obtain ⟨r, hr, hq⟩ := few_loop (fun v => r06_Few_L2_step c v) c.length 12 (by omega) (fun i => ∀ h : i < c.length, FSn c[i]) (fun i hi h12 => by
    refine ⟨(decide ((100 : Int) < (c[i].1.length : Int))) || (decide ((40 : Int) < (c[i].2.2.length : Int))), ?_, fun hg _ => ?_⟩
    · have ha : inb (i : Int) c.length = true := xin (by omega) (by omega)
      unfold r06_Few_L2_step
      rw [Int.toNat_natCast, getD_lt _ _ _ hi, ha]
      refine (run_t (ff_t 12 rfl hi h12)).trans ?_
      refine (run_ask rfl).trans ?_
      refine (run_ask (Bool.or_true _)).trans ?_
      cases (decide ((100 : Int) < (c[i].1.length : Int))) || (decide ((40 : Int) < (c[i].2.2.length : Int))) <;> rfl
    · simp only [Bool.or_eq_false_iff, decide_eq_false_iff_not] at hg
      exact ⟨by omega, by omega⟩) (fun i hi => by
    unfold r06_Few_L2_step
    exact run_f (ff_f 12 rfl hi)) (min c.length 12) 0 (by omega)
  unfold r06_Few_T
  rcases hq with rfl | ⟨rfl, hk⟩
  · exact ⟨false, (run_bnd (xloop hr)).trans rfl, fun e => absurd e (by decide)⟩
  · refine ⟨decide ((c.length : Int) ≤ 12), (run_bnd (xloop hr)).trans rfl, fun e => ?_⟩
    have hl := of_decide_eq_true e
    refine ⟨by omega, fun s hs => ?_⟩
    obtain ⟨i, hi, rfl⟩ := List.getElem_of_mem hs
    exact hk i (Nat.zero_le _) (by omega) hi
def FM (m : Member) : Prop := m.1.length ≤ 100 ∧ m.2.1.length ≤ 100 ∧ m.2.2.1.length ≤ 100
theorem few13_run (m : Member) : ∃ b, (r13_Few_T [m] 1).run = some b ∧ (b = true → FM m) := by
  obtain ⟨r, hr, hq⟩ := few_loop (fun v => r13_Few_L2_step [m] 1 v) 1 1 (by omega) (fun _ => FM m) (fun i hi _ => by
    obtain rfl : i = 0 := by omega
    refine ⟨((decide ((100 : Int) < (m.1.length : Int))) || (decide ((100 : Int) < (m.2.1.length : Int)))) || (decide ((100 : Int) < (m.2.2.1.length : Int))), ?_, fun hg => ?_⟩
    · unfold r13_Few_L2_step
      refine (run_t rfl).trans ?_
      refine (run_ask rfl).trans ?_
      refine (run_ask (Bool.or_true _)).trans ?_
      refine (run_ask (Bool.or_true _)).trans ?_
      show (Tree.ite (((decide ((100 : Int) < (m.1.length : Int))) || (decide ((100 : Int) < (m.2.1.length : Int)))) || (decide ((100 : Int) < (m.2.2.1.length : Int)))) _ _).run = _
      cases ((decide ((100 : Int) < (m.1.length : Int))) || (decide ((100 : Int) < (m.2.1.length : Int)))) || (decide ((100 : Int) < (m.2.2.1.length : Int))) <;> rfl
    · simp only [Bool.or_eq_false_iff, decide_eq_false_iff_not] at hg
      exact ⟨by omega, by omega, by omega⟩) (fun i hi => by
    unfold r13_Few_L2_step
    exact run_f (ff_f 1 rfl hi)) 1 0 rfl
  unfold r13_Few_T
  rcases hq with rfl | ⟨rfl, hk⟩
  · exact ⟨false, (run_bnd (xloop hr)).trans rfl, fun e => absurd e (by decide)⟩
  · exact ⟨true, (run_bnd (xloop hr)).trans rfl, fun _ => hk 0 (Nat.le_refl _) (by decide)⟩
def FC (c : Call) : Prop := c.2.1.length ≤ 300 ∧ c.2.2.1.length ≤ 100 ∧ c.2.2.2.1.length ≤ 100 ∧ c.2.2.2.2.1.length ≤ 300 ∧ FX c.2.2.2.2.2.1
def FA (a : Admin) : Prop := a.2.1.length ≤ 100 ∧ a.2.2.1.length ≤ 100 ∧ a.2.2.2.1.length ≤ 100 ∧ a.2.2.2.2.1.length ≤ 300 ∧ FM a.2.2.2.2.2.2
theorem few40_run (c : Call) : ∃ b, (r40_Few_T c).run = some b ∧ (b = true → FC c) := by
  obtain ⟨b, hb, hf⟩ := few6_run c.2.2.2.2.2.1
  refine ⟨_, (run_grd hb).trans rfl, fun e => ?_⟩
  simp only [Bool.and_eq_true, decide_eq_true_eq] at e
  obtain ⟨⟨⟨⟨e1, e2⟩, e3⟩, e4⟩, e5⟩ := e
  exact ⟨by omega, by omega, by omega, by omega, hf e5⟩
theorem few41_run (a : Admin) : ∃ b, (r41_Few_T a).run = some b ∧ (b = true → FA a) := by
  obtain ⟨b, hb, hf⟩ := few13_run a.2.2.2.2.2.2
  refine ⟨_, (run_grd hb).trans rfl, fun e => ?_⟩
  simp only [Bool.and_eq_true, decide_eq_true_eq] at e
  obtain ⟨⟨⟨⟨e1, e2⟩, e3⟩, e4⟩, e5⟩ := e
  exact ⟨by omega, by omega, by omega, by omega, hf e5⟩
def FE (e : Event) : Prop := e.2.1.length ≤ 100 ∧ e.2.2.1.length ≤ 100 ∧ e.2.2.2.1.length ≤ 100 ∧ FC e.2.2.2.2.2.1 ∧ FA e.2.2.2.2.2.2
theorem few43_run (l : List Event) : ∃ b, (r43_Few_T l 20).run = some b ∧ (b = true → l.length ≤ 20 ∧ ∀ e ∈ l, FE e) := by
  obtain ⟨r, hr, hq⟩ := few_loop (fun v => r43_Few_L2_step l 20 v) l.length 20 (by omega) (fun i => ∀ h : i < l.length, FE l[i]) (fun i hi h20 => by
    obtain ⟨b1, hb1, hf1⟩ := few40_run l[i].2.2.2.2.2.1
    obtain ⟨b2, hb2, hf2⟩ := few41_run l[i].2.2.2.2.2.2
    refine ⟨((((decide ((100 : Int) < (l[i].2.1.length : Int))) || (decide ((100 : Int) < (l[i].2.2.1.length : Int)))) || (decide ((100 : Int) < (l[i].2.2.2.1.length : Int)))) || (!b1)) || (!b2), ?_, fun hg _ => ?_⟩
    · have ha : inb (i : Int) l.length = true := xin (by omega) (by omega)
      unfold r43_Few_L2_step
      rw [Int.toNat_natCast, getD_lt _ _ _ hi, ha]
      refine (run_t (ff_t 20 rfl hi h20)).trans ?_
      refine (run_ask rfl).trans ?_
      refine (run_ask (Bool.or_true _)).trans ?_
      refine (run_ask (Bool.or_true _)).trans ?_
      refine (run_ask (Bool.or_true _)).trans ?_
      refine (run_grd hb1).trans ?_
      refine (run_ask (Bool.or_true _)).trans ?_
      refine (run_grd hb2).trans ?_
      cases ((((decide ((100 : Int) < (l[i].2.1.length : Int))) || (decide ((100 : Int) < (l[i].2.2.1.length : Int)))) || (decide ((100 : Int) < (l[i].2.2.2.1.length : Int)))) || (!b1)) || (!b2) <;> rfl
    · simp only [Bool.or_eq_false_iff, decide_eq_false_iff_not, Bool.not_eq_false'] at hg
      obtain ⟨⟨⟨⟨e1, e2⟩, e3⟩, e4⟩, e5⟩ := hg
      exact ⟨by omega, by omega, by omega, hf1 e4, hf2 e5⟩) (fun i hi => by
    unfold r43_Few_L2_step
    exact run_f (ff_f 20 rfl hi)) (min l.length 20) 0 (by omega)
  unfold r43_Few_T
  rcases hq with rfl | ⟨rfl, hk⟩
  · exact ⟨false, (run_bnd (xloop hr)).trans rfl, fun e => absurd e (by decide)⟩
  · refine ⟨decide ((l.length : Int) ≤ 20), (run_bnd (xloop hr)).trans rfl, fun e => ?_⟩
    have hl := of_decide_eq_true e
    refine ⟨by omega, fun s hs => ?_⟩
    obtain ⟨i, hi, rfl⟩ := List.getElem_of_mem hs
    exact hk i (Nat.zero_le _) (by omega) hi
/-- A small event with numbers in range is one that lines tell. -/
theorem ge_of {e : Event} (ho : okE tEvent e) (hf : FE e) : GE e := by
  obtain ⟨o1, _, _, _, o5, ⟨c1, _, _, _, _, ⟨_, cx⟩, c7⟩, a1, _, _, _, _, a6, _⟩ := ho
  obtain ⟨f2, f3, f4, ⟨g1, g2, g3, g4, g5, g6⟩, k1, k2, k3, k4, k5, k6, k7⟩ := hf
  refine ⟨xwf64 o1, by unfold S1; omega, by unfold S1; omega, by unfold S1; omega, xwf64 o5, ⟨xwf64 c1, by unfold S1; omega, by unfold S1; omega, by unfold S1; omega, by unfold S1; omega, ⟨by omega, fun s hs => ?_⟩, xwf64 c7⟩, xwf64 a1, by unfold S1; omega, by unfold S1; omega, by unfold S1; omega, by unfold S1; omega, xwf64 a6, by unfold S1; omega, by unfold S1; omega, by unfold S1; omega⟩
  obtain ⟨_, s2, _, s4⟩ := cx s hs
  obtain ⟨h1, h2⟩ := g6 s hs
  exact ⟨by omega, xwf64 s2, by omega, fun n hn => xwf64 (s4 n hn)⟩
theorem joinS_sum (c : UInt8) (l : List Str) : (joinS [c] l).length ≤ (l.map fun y => y.length + 1).sum := by
  cases l with
  | nil => exact Nat.zero_le _
  | cons x l =>
    have ht : ∀ l : List Str, (tailC c l).length ≤ (l.map fun y => y.length + 1).sum := by
      intro l
      induction l with
      | nil => exact Nat.zero_le _
      | cons y l ih =>
        show (c :: (y ++ tailC c l)).length ≤ _
        rw [List.length_cons, List.length_append, List.map_cons, List.sum_cons]; omega
    have := ht l
    rw [joinS_tail, List.length_append, List.map_cons, List.sum_cons]; omega
theorem line_small {e : Event} (hg : GE e) (hf : FE e) : (lineS e).length ≤ 40000 := by
  obtain ⟨h1, h2, h3, h4, h5, ⟨c1, c2, c3, c4, c5, c6, c7⟩, a1, a2, a3, a4, a5, a6, a7, a8, a9⟩ := hg
  obtain ⟨f2, f3, f4, ⟨g1, g2, g3, g4, g5, g6⟩, k1, k2, k3, k4, k5, k6, k7⟩ := hf
  have hx : (ctxS e.2.2.2.2.2.1.2.2.2.2.2.1).length ≤ 12 * 1200 := by
    have := joinS_len 44 1199 (e.2.2.2.2.2.1.2.2.2.2.2.1.map seenS) (fun y hy => by
      obtain ⟨s, hs, rfl⟩ := List.mem_map.1 hy
      obtain ⟨q1, q2⟩ := g6 s hs
      obtain ⟨_, s2, _, s4⟩ := c6.2 s hs
      have a := wordS_len s.1
      have b := (decS_len s2).1
      have c := numsS_len s4
      unfold seenS
      rw [List.length_append, List.length_cons, List.length_append]; omega)
    rw [List.length_map] at this
    have this := Nat.le_trans this (Nat.mul_le_mul_right (1199 + 1) g5)
    unfold ctxS
    cases decide ((e.2.2.2.2.2.1.2.2.2.2.2.1.length : Int) = 0) with
    | true => exact Nat.le_of_ble_eq_true rfl
    | false => exact this
  have hk := kindS_len h1
  have hs := stS_len e.2.2.2.2.2.2.2.2.2.2.2.2.2.2.2
  have w2 := wordS_len e.2.1
  have w3 := wordS_len e.2.2.1
  have w4 := wordS_len e.2.2.2.1
  have d5 := (decS_len h5).1
  have dc1 := (decS_len c1).1
  have dc7 := (decS_len c7).1
  have wc2 := wordS_len e.2.2.2.2.2.1.2.1
  have wc3 := wordS_len e.2.2.2.2.2.1.2.2.1
  have wc4 := wordS_len e.2.2.2.2.2.1.2.2.2.1
  have wc5 := wordS_len e.2.2.2.2.2.1.2.2.2.2.1
  have da1 := (decS_len a1).1
  have da6 := (decS_len a6).1
  have wa2 := wordS_len e.2.2.2.2.2.2.2.1
  have wa3 := wordS_len e.2.2.2.2.2.2.2.2.1
  have wa4 := wordS_len e.2.2.2.2.2.2.2.2.2.1
  have wa5 := wordS_len e.2.2.2.2.2.2.2.2.2.2.1
  have wa7 := wordS_len e.2.2.2.2.2.2.2.2.2.2.2.2.1
  have wa8 := wordS_len e.2.2.2.2.2.2.2.2.2.2.2.2.2.1
  have wa9 := wordS_len e.2.2.2.2.2.2.2.2.2.2.2.2.2.2.1
  have hj := joinS_sum 32 (fieldsE e)
  unfold lineS
  refine Nat.le_trans hj ?_
  unfold fieldsE headF
  cases decide (e.1 = 1) with
  | true =>
    simp only [cond_true, callF, List.map_append, List.map_cons, List.map_nil, List.sum_append, List.sum_cons, List.sum_nil]
    omega
  | false =>
    cases decide (e.1 = 14) with
    | true =>
      simp only [cond_true, cond_false, admF, List.map_append, List.map_cons, List.map_nil, List.sum_append, List.sum_cons, List.sum_nil]
      omega
    | false =>
      simp only [cond_false, List.map_append, List.map_cons, List.map_nil, List.sum_append, List.sum_cons, List.sum_nil]
      omega

/-! All the lines of a list. -/
def unlines (L : List Str) : Str := L.flatMap fun y => y ++ [10]
def allS (l : List Event) : Str := unlines (l.map lineS)
theorem unlines_app (a b : List Str) : unlines (a ++ b) = unlines a ++ unlines b := List.flatMap_append
theorem allS_succ (l : List Event) (i : Nat) (h : i < l.length) : allS (l.take (i + 1)) = allS (l.take i) ++ (lineS l[i] ++ [10]) := by
  unfold allS
  rw [List.take_succ_eq_append_getElem h, List.map_append, unlines_app]
  show _ ++ ((lineS l[i] ++ [10]) ++ []) = _
  rw [List.append_nil]
theorem allS_take (l : List Event) (i : Nat) : (allS (l.take i)).length ≤ (allS l).length := by
  have : allS l = allS (l.take i) ++ allS (l.drop i) := by
    unfold allS
    rw [← unlines_app, ← List.map_append, List.take_append_drop]
  rw [this, List.length_append]; omega
theorem write_run (s : Str) (rows : List Int) (h : rows.length + s.length ≤ 1000000) : (strings_Builder_WriteString_T s rows).run = some (((s.length : Int), ((), ())), (((), ((), ())), (rows ++ strI s, ()))) := by
  unfold strings_Builder_WriteString_T
  refine (run_bnd (a := ((), (((), ((), ())), (rows, ())))) rfl).trans ?_
  exact run_ask (xroom _ (by show (rows ++ strI s).length ≤ _; rw [List.length_append, xstrI_len]; omega))
theorem allS_ne {l : List Event} (h : l ≠ []) : 0 < (allS l).length := by
  cases l with
  | nil => exact absurd rfl h
  | cons e l =>
    show 0 < ((lineS e ++ [10]) ++ allS l).length
    rw [List.length_append, List.length_append]
    show 0 < _ + 1 + _; omega
theorem all_run (l : List Event) (hg : ∀ e ∈ l, GE e) (hl : (allS l).length ≤ 1000000) (hn : l.length ≤ 1000000) : (text_AllC_T l).run = some (allS l) := by
  unfold text_AllC_T
  by_cases h0 : l = []
  · subst h0; rfl
  · have hpos : 0 < l.length := List.length_pos_iff.2 h0
    refine (run_t (decide_eq_true (by omega))).trans ?_
    unfold text_All_T
    refine (run_bnd (xloop (loopF_run (a := strI (allS l)) (S := fun i => ((i : Int), strI (allS (l.take i)))) (n := l.length) (fun i hi => ?_) ?_ rfl))).trans ?_
    · have hb := allS_take l (i + 1)
      rw [allS_succ l i hi, List.length_append, List.length_append] at hb
      have hb : (allS (l.take i)).length + ((lineS l[i]).length + 1) ≤ (allS l).length := hb
      show (text_All_L3_step l (l.length : Int) (i : Int) (strI (allS (l.take i)))).run = _
      unfold text_All_L3_step
      rw [Int.toNat_natCast, getD_lt _ _ _ hi, xw64 i (by omega), allS_succ l i hi]
      refine (run_t (decide_eq_true (by omega))).trans ?_
      refine (run_ask (xin (by omega) (by omega))).trans ?_
      refine (run_bnd (line_run _ (hg _ (List.getElem_mem hi)))).trans ?_
      refine (run_ask (decide_eq_true (by show _ + 1 ≤ _; omega))).trans ?_
      refine (run_bnd (write_run _ _ (by rw [xstrI_len, List.length_append]; show _ + (_ + 1) ≤ _; omega))).trans ?_
      rw [xstrI_app (allS (l.take i))]; rfl
    · show (text_All_L3_step l (l.length : Int) (l.length : Int) (strI (allS (l.take l.length)))).run = _
      unfold text_All_L3_step
      rw [List.take_length]
      exact run_f (decide_eq_false (by omega))
    · unfold strings_Builder_String_T
      refine (run_bnd (run_ask (decide_eq_true (by rw [xstrI_len]; exact allS_ne h0)))).trans ?_
      show some (strB (strI (allS l))) = _
      rw [xstrB_I]
theorem rall_run (l : List Event) (hg : ∀ e ∈ l, GE e) (hl : (allS l).length ≤ 1000000) (hn : l.length ≤ 1000000) : (r52_All_T l).run = some (allS l) := by
  unfold r52_All_T
  refine (run_bnd (xloop (loopF_run (a := allS l) (S := fun i => (allS (l.take i), (i : Int))) (n := l.length) (fun i hi => ?_) ?_ rfl))).trans rfl
  · have hb := allS_take l (i + 1)
    rw [allS_succ l i hi, List.length_append, List.length_append] at hb
    have hb : (allS (l.take i)).length + ((lineS l[i]).length + 1) ≤ (allS l).length := hb
    show (r52_All_L3_step l (allS (l.take i)) (i : Int)).run = _
    unfold r52_All_L3_step
    rw [Int.toNat_natCast, getD_lt _ _ _ hi, xw64 i (by omega), allS_succ l i hi]
    refine (run_t (decide_eq_true (by omega))).trans ?_
    refine (run_ask (xin (by omega) (by omega))).trans ?_
    refine (run_bnd (rline_run _ (hg _ (List.getElem_mem hi)))).trans ?_
    refine (run_ask (decide_eq_true (by omega))).trans ?_
    refine (run_ask (decide_eq_true (by rw [List.length_append]; show _ + _ + 1 ≤ _; omega))).trans ?_
    rw [List.append_assoc]; rfl
  · show (r52_All_L3_step l (allS (l.take l.length)) (l.length : Int)).run = _
    unfold r52_All_L3_step
    rw [List.take_length]
    exact run_f (decide_eq_false (by omega))
theorem split_unlines : ∀ {L : List Str}, (∀ y ∈ L, (10 : UInt8) ∉ y) → splitC 10 (unlines L) = L ++ [[]]
  | [], _ => rfl
  | y :: L, h => by
    show splitC 10 ((y ++ [10]) ++ unlines L) = _
    rw [List.append_assoc]
    show splitC 10 (y ++ 10 :: unlines L) = _
    rw [splitC_app (h y List.mem_cons_self), split_unlines fun z hz => h z (List.mem_cons_of_mem _ hz)]; rfl
theorem goAll_of : ∀ {l : List Event} (i : Nat) (out : List Event), (∀ e ∈ l, GE e) → goAll (l.map lineS) i out = .inr (out ++ l.map bareE)
  | [], _, out, _ => by show Sum.inr out = Sum.inr (out ++ []); rw [List.append_nil]
  | e :: l, i, out, h => by
    show goAll (lineS e :: l.map lineS) i out = _
    unfold goAll
    rw [parseS_of (h e List.mem_cons_self)]
    show goAll (l.map lineS) (i + 1) (out ++ [bareE e]) = _
    rw [goAll_of (i + 1) _ fun x hx => h x (List.mem_cons_of_mem _ hx), List.append_assoc]; rfl
theorem allS_parts (l : List Event) : splitC 10 (allS l) = l.map lineS ++ [[]] :=
  split_unlines fun y hy => by
    obtain ⟨e, _, rfl⟩ := List.mem_map.1 hy
    exact line_no10 e
theorem parseAll_of {l : List Event} (h : ∀ e ∈ l, GE e) : parseAllS (allS l) = (l.map bareE, 0, 0, ()) := by
  unfold parseAllS
  have hn : (l.map lineS ++ [([] : Str)]).length - 1 = (l.map lineS).length := by rw [List.length_append]; rfl
  rw [allS_parts, hn, List.take_left, goAll_of 0 [] h]
  have hd : (l.map lineS ++ [([] : Str)]).getD (l.map lineS).length [] = [] := by
    rw [getD_lt _ _ _ (by rw [List.length_append]; show _ < _ + 1; omega)]
    rw [List.getElem_append_right (Nat.le_refl _)]; simp
  show (bif !((l.map lineS ++ [([] : Str)]).getD (l.map lineS).length [] == ([] : Str)) then _ else _ : List Event × Int × Int × Unit) = _
  rw [hd]; rfl
theorem bare_run (e : Event) : (l52_bare_T e).run = some (bareE e) := by
  unfold l52_bare_T bareE
  cases q1 : decide (e.1 = 1) with
  | true =>
    refine (run_f rfl).trans ?_
    cases q2 : decide (e.1 = 14) with
    | true => exact (run_f rfl).trans rfl
    | false => exact (run_t rfl).trans rfl
  | false =>
    refine (run_t rfl).trans ?_
    cases q2 : decide (e.1 = 14) with
    | true => exact (run_f rfl).trans rfl
    | false => exact (run_t rfl).trans rfl
theorem want_run (l : List Event) (s : Str) (hn : l.length ≤ 1000000) : (Tree.loop (fun v : Int × List Event => l52_TextBack_L5_step l s v.1 v.2) (0, ([] : List Event))).run = some (l.map bareE) := by
  refine xloop (loopF_run (S := fun i => ((i : Int), (l.take i).map bareE)) (n := l.length) (fun i hi => ?_) ?_ rfl)
  · show (l52_TextBack_L5_step l s (i : Int) ((l.take i).map bareE)).run = _
    unfold l52_TextBack_L5_step
    rw [Int.toNat_natCast, getD_lt _ _ _ hi, xw64 i (by omega)]
    refine (run_t (decide_eq_true (by omega))).trans ?_
    refine (run_ask (xin (by omega) (by omega))).trans ?_
    refine (run_bnd (bare_run _)).trans ?_
    refine (run_ask (xroomk _ _ (by rw [List.length_append, List.length_map, List.length_take]; show _ + 1 ≤ _; omega) (by omega))).trans ?_
    rw [List.take_succ_eq_append_getElem hi, List.map_append]; rfl
  · show (l52_TextBack_L5_step l s (l.length : Int) ((l.take l.length).map bareE)).run = _
    unfold l52_TextBack_L5_step
    rw [List.take_length]
    exact run_f (decide_eq_false (by omega))
/-- What came of a text that is a list's. -/
theorem join_split (c : UInt8) : ∀ s : Str, joinS [c] (splitC c s) = s
  | [] => rfl
  | x :: r => by
    have ih := join_split c r
    have hne := splitC_ne c r
    by_cases h : x = c
    · subst h
      rw [splitC_hit, joinS_tail]
      cases hs : splitC x r with
      | nil => exact absurd hs hne
      | cons y l => rw [hs, joinS_tail] at ih; show x :: (y ++ tailC x l) = _; rw [ih]
    · rw [splitC_miss h]
      cases hs : splitC c r with
      | nil => exact absurd hs hne
      | cons y l => rw [hs, joinS_tail] at ih; show joinS [c] ((x :: y) :: l) = _; rw [joinS_tail]; show x :: (y ++ tailC c l) = _; rw [ih]
theorem tail_unlines : ∀ L : List Str, tailC 10 (L ++ [[]]) = 10 :: unlines L
  | [] => rfl
  | y :: L => by
    show 10 :: (y ++ tailC 10 (L ++ [[]])) = 10 :: ((y ++ [10]) ++ unlines L)
    rw [tail_unlines L, List.append_assoc]; rfl
theorem join_unlines (L : List Str) : joinS [10] (L ++ [[]]) = unlines L := by
  cases L with
  | nil => rfl
  | cons y L =>
    show joinS [10] (y :: (L ++ [[]])) = (y ++ [10]) ++ unlines L
    rw [joinS_tail, tail_unlines, List.append_assoc]; rfl
theorem parseS_ok {s : Str} (h : (parseS s).2.1 = 0) : lineS (parseS s).1 = s := by
  unfold parseS at h ⊢
  cases hb : (evP (splitC 32 s, false)).2.2 || (!(lineS (evP (splitC 32 s, false)).1 == s)) with
  | true => rw [hb] at h; have h : (3 : Int) = 0 := h; omega
  | false =>
    rw [cond_false]
    simp only [Bool.or_eq_false_iff, Bool.not_eq_false'] at hb
    exact beq_iff_eq.1 hb.2
theorem goAll_ok : ∀ {L : List Str} {i : Nat} {out o : List Event}, goAll L i out = .inr o → ∃ t, o = out ++ t ∧ t.map lineS = L
  | [], _, out, o, h => by
    injection h with h
    exact ⟨[], by rw [List.append_nil]; exact h.symm, rfl⟩
  | s :: L, i, out, o, h => by
    unfold goAll at h
    cases hp : !decide ((parseS s).2.1 = 0) with
    | true => rw [hp] at h; cases h
    | false =>
      rw [hp, cond_false] at h
      obtain ⟨t, h1, h2⟩ := goAll_ok h
      have h0 : (parseS s).2.1 = 0 := by simpa using hp
      refine ⟨(parseS s).1 :: t, by rw [h1, List.append_assoc]; rfl, ?_⟩
      rw [List.map_cons, parseS_ok h0, h2]
theorem goAll_bad : ∀ {L : List Str} {i : Nat} {out : List Event} {a : List Event × Int × Int}, goAll L i out = .inl a → a.1 = [] ∧ 0 < a.2.1 ∧ a.2.2 = 3
  | [], _, _, _, h => by cases h
  | s :: L, i, out, a, h => by
    unfold goAll at h
    cases hp : !decide ((parseS s).2.1 = 0) with
    | true =>
      rw [hp, cond_true] at h
      injection h with h
      rw [← h]
      exact ⟨rfl, by show (0 : Int) < ((i + 1 : Nat) : Int); omega, rfl⟩
    | false => rw [hp, cond_false] at h; exact goAll_bad h
theorem parseAll_ends (s : Str) : ((parseAllS s).2.2.1 = 3 ∧ 0 < (parseAllS s).2.1 ∧ (parseAllS s).1 = []) ∨ ((parseAllS s).2.2.1 = 0 ∧ (parseAllS s).2.1 = 0 ∧ allS (parseAllS s).1 = s) := by
  have h1 : 1 ≤ (splitC 10 s).length := List.length_pos_iff.2 (splitC_ne 10 s)
  have hj := join_split 10 s
  unfold parseAllS
  generalize splitC 10 s = l at h1 hj ⊢
  cases hq : goAll (l.take (l.length - 1)) 0 [] with
  | inl a =>
    obtain ⟨a1, a2, a3⟩ := goAll_bad hq
    exact .inl ⟨a3, a2, a1⟩
  | inr o =>
    show (((bif !(l.getD (l.length - 1) [] == ([] : Str)) then ([], (l.length : Int), 3, ()) else (o, 0, 0, ()) : List Event × Int × Int × Unit)).2.2.1 = 3 ∧ _) ∨ _
    cases hl : !(l.getD (l.length - 1) [] == ([] : Str)) with
    | true => exact .inl ⟨rfl, by show (0 : Int) < (l.length : Int); omega, rfl⟩
    | false =>
      refine .inr ⟨rfl, rfl, ?_⟩
      obtain ⟨t, e1, e2⟩ := goAll_ok hq
      have ho : o = t := e1
      have hlast : l.getD (l.length - 1) [] = [] := by simpa using hl
      have hsplit : l = l.take (l.length - 1) ++ [[]] := by
        conv => lhs; rw [← List.take_append_drop (l.length - 1) l]
        congr 1
        have hi : l.length - 1 < l.length := by omega
        rw [List.drop_eq_getElem_cons hi, List.drop_of_length_le (by omega)]
        rw [getD_lt _ _ _ hi] at hlast
        rw [hlast]
      show allS o = s
      unfold allS
      rw [ho, e2, ← join_unlines, ← hsplit, hj]
theorem textBack_law (x : ElP l52_TextBackC_g.ps) (ho : okP l52_TextBackC_g.ps x) : (l52_TextBackC_g.f x).run = some true := by
  obtain ⟨l, s, _⟩ := x
  obtain ⟨ho, _⟩ := ho
  show (l52_TextBackC_T l s).run = _
  unfold l52_TextBackC_T
  obtain ⟨b, hb, hf⟩ := few43_run l
  refine (run_bnd hb).trans ?_
  cases hc : (!b) || (decide ((1024 : Int) < (s.length : Int))) with
  | true => exact (run_t rfl).trans ((run_bnd awake52).trans rfl)
  | false =>
    simp only [Bool.or_eq_false_iff, Bool.not_eq_false', decide_eq_false_iff_not] at hc
    obtain ⟨hb1, hs⟩ := hc
    obtain ⟨hl, hfe⟩ := hf hb1
    have hg : ∀ e ∈ l, GE e := fun e he => ge_of (ho.2 e he) (hfe e he)
    have hlen : ∀ e ∈ l, (lineS e).length ≤ 40000 := fun e he => line_small (hg e he) (hfe e he)
    have hall : ∀ l : List Event, (∀ e ∈ l, (lineS e).length ≤ 40000) → (allS l).length ≤ l.length * 40001 := by
      intro l
      induction l with
      | nil => intro _; exact Nat.zero_le _
      | cons e l ih =>
        intro h
        have h1 := h e List.mem_cons_self
        have h2 := ih fun x hx => h x (List.mem_cons_of_mem _ hx)
        show ((lineS e ++ [10]) ++ allS l).length ≤ _
        have h3 : (e :: l).length = l.length + 1 := rfl
        rw [List.length_append, List.length_append, h3]
        show _ + 1 + _ ≤ _; omega
    have ha := hall l hlen
    have ha2 : (allS l).length ≤ 900000 := by omega
    have hbg : ∀ e ∈ l.map bareE, GE e := fun e he => by
      obtain ⟨d, hd, rfl⟩ := List.mem_map.1 he
      exact bareE_in (hg d hd)
    refine (run_f rfl).trans ?_
    refine (run_bnd (want_run l s (by omega))).trans ?_
    refine (run_bnd (all_run l hg (by omega) (by omega))).trans ?_
    refine (run_bnd (parseAll_run _ ha2 (fun w hw => by
      rw [allS_parts] at hw
      rcases List.mem_append.1 hw with hw | hw
      · obtain ⟨e, he, rfl⟩ := List.mem_map.1 hw
        have := hlen e he; omega
      · rw [List.mem_singleton.1 hw]; exact Nat.zero_le _))).trans ?_
    rw [parseAll_of hg]
    refine (run_grd (sameEvents_refl _ (by rw [List.length_map]; omega) fun e he => ge_sm (hbg e he))).trans ?_
    refine (run_grd (rall_run l hg (by omega) (by omega))).trans ?_
    refine (run_f (by simp)).trans ?_
    have hw : ∀ w ∈ splitC 10 s, w.length ≤ 100000 := fun w hw => by have := splitC_len 10 s w hw; omega
    obtain ⟨hpg, hpl⟩ := parseAllS_in s hw
    refine (run_bnd (parseAll_run s (by omega) hw)).trans ?_
    rcases parseAll_ends s with ⟨e1, e2, e3⟩ | ⟨e1, e2, e3⟩
    · refine (run_t (by rw [e1]; rfl)).trans ?_
      refine (run_grd awake52).trans ?_
      rw [e1, e3, decide_eq_true e2]; rfl
    · refine (run_f (by rw [e1]; rfl)).trans ?_
      refine (run_bnd (all_run _ hpg (by rw [e3]; omega) (by omega))).trans ?_
      refine (run_grd awake52).trans ?_
      rw [e2, e3, beq_self_eq_true]; rfl

end Go.Eng

