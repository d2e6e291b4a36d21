/- Laws in plain Lean: e39. -/
import Derived.Test.YtapnoaalcbcmaaaD39
namespace Go.Eng
open Go Go.Proofs Go.RowKit

/-! The laws. -/
theorem sameTexts_run (a b : List Str) (ha : a.length ≤ 1000000) (h : a = b) : (r01_SameTexts_T a b).run = some true := by
  subst h
  unfold r01_SameTexts_T
  have hl := same_loop (β := Bool ⊕ Unit) a.length (fun v => r01_SameTexts_L4_step a a v) (.inr ()) (by omega) (fun i hi => by
    unfold r01_SameTexts_L4_step
    simp only [Tree.run, Int.ofNat_lt, hi, decide_true, cond_true, inb_nat, Bool.and_self, beq_self_eq_true, Bool.not_true, cond_false]) (by unfold r01_SameTexts_L4_step; simp [Tree.run])
  simp only [Tree.run, decide_true, Bool.not_true, cond_false]
  rw [hl]; rfl
theorem few39_run (l : List R39_Act) : ∃ b, (r39_Few_T l).run = some b ∧ (b = true → l.length ≤ 40) := by
  refine ⟨_, few_tree l 40 (fun a => (decide ((100 : Int) < (a.2.1.length : Int)) || decide ((100 : Int) < (a.2.2.1.length : Int))) || decide ((100 : Int) < (a.2.2.2.1.length : Int))) (fun v => r39_Few_L2_step l v) (by decide) 40 rfl (fun i hi h40 => ?_) (fun i h => ?_), fun h => fewB_len h⟩
  · have hb : inb (i : Int) l.length = true := by rw [inb_nat]; exact decide_eq_true hi
    unfold r39_Few_L2_step
    simp only [Int.toNat_natCast, getD_lt _ _ _ hi]
    refine (run_t (by rw [decide_eq_true (show (i : Int) < (l.length : Int) by omega), decide_eq_true (show (i : Int) < 40 by omega)]; rfl)).trans ((run_ask hb).trans ((run_ask (by rw [hb, Bool.or_true])).trans ((run_ask (by rw [hb, Bool.or_true])).trans ?_)))
    cases hq : ((decide ((100 : Int) < (l[i].2.1.length : Int)) || decide ((100 : Int) < (l[i].2.2.1.length : Int))) || decide ((100 : Int) < (l[i].2.2.2.1.length : Int))) with
    | true => exact (run_t rfl).trans rfl
    | false => exact (run_f rfl).trans rfl
  · unfold r39_Few_L2_step
    refine (run_f ?_).trans rfl
    by_cases h1 : i < l.length
    · rw [decide_eq_false (show ¬ ((i : Int) < 40) by omega), Bool.and_false]
    · rw [decide_eq_false (show ¬ ((i : Int) < (l.length : Int)) by omega), Bool.false_and]
theorem few01_run (l : List Str) : ∃ b, (r01_Few_T l).run = some b ∧ (b = true → l.length ≤ 20) := by
  refine ⟨_, few_tree l 20 (fun a => decide ((1024 : Int) < (a.length : Int))) (fun v => r01_Few_L2_step l v) (by decide) 20 rfl (fun i hi h20 => ?_) (fun i h => ?_), fun h => fewB_len h⟩
  · have hb : inb (i : Int) l.length = true := by rw [inb_nat]; exact decide_eq_true hi
    unfold r01_Few_L2_step
    simp only [Int.toNat_natCast, getD_lt _ _ _ hi]
    refine (run_t (by rw [decide_eq_true (show (i : Int) < (l.length : Int) by omega), decide_eq_true (show (i : Int) < 20 by omega)]; rfl)).trans ((run_ask hb).trans ?_)
    cases hq : decide ((1024 : Int) < (l[i].length : Int)) with
    | true => exact (run_t rfl).trans rfl
    | false => exact (run_f rfl).trans rfl
  · unfold r01_Few_L2_step
    refine (run_f ?_).trans rfl
    by_cases h1 : i < l.length
    · rw [decide_eq_false (show ¬ ((i : Int) < 20) by omega), Bool.and_false]
    · rw [decide_eq_false (show ¬ ((i : Int) < (l.length : Int)) by omega), Bool.false_and]
theorem awake_run : l39_awake_T.run = some true := by
  have k0 : FOk 0 ([], []) := FOk.nil
  have k1 := start_ok k0 [112] (w64 (6 + 1)) [120]
  have k2 := taken_ok k1 (by decide) (w64 (6 + 1)) [110, 49]
  have k3 := taken_ok k2 (by decide) (w64 (w64 (6 + 1) + 1)) [110, 50]
  have k4 := start_ok k3 [112] (w64 (w64 (6 + 1) + 1)) [120]
  have k5 := taken_ok k4 (by decide) (w64 (6 + 1)) [110, 49]
  unfold l39_awake_T
  refine (run_bnd (a := ((), (((6 : Int), ((), ())), ()))) rfl).trans ((run_bnd (hstart_run _ _ _ k0 (by decide))).trans ((run_bnd (htaken_run _ _ _ k1 (by decide))).trans ((run_bnd (htaken_run _ _ _ k2 (by decide))).trans ?_)))
  refine (run_bnd (ready_run _ _ _ _ _ (by decide))).trans ((run_bnd (ready_run _ _ _ _ _ (by decide))).trans ((run_bnd (hstart_run _ _ _ k3 (by decide))).trans ((run_bnd (htaken_run _ _ _ k4 (by decide))).trans ?_)))
  refine (run_grd (ready_run _ _ _ _ _ (by decide))).trans ((run_grd (places_run _ _ (by have := k5.lx; exact Nat.le_trans this (by decide)))).trans ((run_grd (sameTexts_run _ _ (by rw [keysF_len]; have := k5.lx; exact Nat.le_trans this (by decide)) rfl)).trans ?_))
  rfl
theorem readyNil_run (k d : Str) (ns : List Str) : (hand_Hand_Ready_nil_T k d ns).run = some false := by
  unfold hand_Hand_Ready_nil_T
  exact (run_t rfl).trans rfl
theorem doNil_run (a : R39_Act) : (l39_do_nil_T a).run = some 0 := by
  unfold l39_do_nil_T
  by_cases e1 : a.1 = 1
  · exact (run_t (decide_eq_true e1)).trans ((run_bnd (a := (0 : Int)) (by unfold hand_Hand_Start_nil_T; exact (run_t rfl).trans rfl)).trans rfl)
  refine (run_f (decide_eq_false e1)).trans ?_
  by_cases e2 : a.1 = 2
  · refine (run_t (decide_eq_true e2)).trans ((run_bnd (a := ()) ?_).trans rfl)
    unfold hand_Hand_Taken_nil_T
    refine (run_bnd (a := ([] : List Str)) (by unfold hand_Hand_Places_nil_T; exact (run_t rfl).trans rfl)).trans ((run_bnd (a := ()) ?_).trans rfl)
    show loopF _ _ = _
    rw [loopF_eq]
    have : (hand_Hand_Taken_nil_L1_step a.2.2.2.2 a.2.2.2.1 [] (([] : List Str).length : Int) 0).run = some (.inr ()) := by
      unfold hand_Hand_Taken_nil_L1_step
      exact (run_f rfl).trans rfl
    rw [this]; rfl
  refine (run_f (decide_eq_false e2)).trans ?_
  by_cases e3 : a.1 = 3
  · refine (run_t (decide_eq_true e3)).trans ((run_bnd (a := ()) ?_).trans rfl)
    unfold hand_Hand_Drop_nil_T
    exact (run_f rfl).trans rfl
  exact (run_f (decide_eq_false e3)).trans rfl

/-- An act, in the document's hand-overs. -/
def refD (a : R39_Act) (s : Int × OvL) : Int × (Int × OvL) :=
  if a.1 = 1 then (w64 (s.1 + 1), (w64 (s.1 + 1), rstartL s.2 a.2.1 (w64 (s.1 + 1)) a.2.2.1)) else if a.1 = 2 then (0, (s.1, s.2.map (tkO a.2.2.2.2 a.2.2.2.1))) else if a.1 = 3 then (0, (s.1, rdropL s.2 a.2.1)) else (0, s)
structure PR (n : Nat) (s : Int × Fam) (t : Int × OvL) : Prop where
  last : s.1 = t.1
  hr : HR n s.2 t.2
theorem PR.act {n : Nat} {s : Int × Fam} {t : Int × OvL} (h : PR n s t) (hn : n ≤ 1000) (a : R39_Act) : (doF a s).1 = (refD a t).1 ∧ PR (n + 1) (doF a s).2 (refD a t).2 := by
  obtain ⟨h1, h2⟩ := h
  unfold doF refD
  by_cases e1 : a.1 = 1
  · rw [if_pos e1, if_pos e1, h1]
    exact ⟨rfl, rfl, h2.start _ _ _⟩
  rw [if_neg e1, if_neg e1]
  by_cases e2 : a.1 = 2
  · rw [if_pos e2, if_pos e2]
    exact ⟨rfl, h1, h2.taken hn _ _⟩
  rw [if_neg e2, if_neg e2]
  by_cases e3 : a.1 = 3
  · rw [if_pos e3, if_pos e3]
    exact ⟨rfl, h1, (h2.drop _).mono (Nat.le_succ _)⟩
  rw [if_neg e3, if_neg e3]
  exact ⟨rfl, h1, h2.mono (Nat.le_succ _)⟩
abbrev St4 : Type := (Int × Fam) × (Int × OvL) × (Int × Fam) × (Int × OvL)
abbrev V4 : Type := Int × Int × Int × Fam × OvL × Int × Int × Fam × OvL
def tailH (ns : List Str) (i : Int) (c0 : Bool) (q : St4) (a : R39_Act) : Tree (V4 ⊕ (Bool ⊕ Unit)) :=
  .grd (!c0) (hand_Hand_Ready_T q.1.1 (famView q.1.2.1 q.1.2.2) a.2.1 a.2.2.1 ns) false fun y6 =>
  .grd (!c0) (r39_Hand_Ready_T (q.2.1.1, q.2.1.2) a.2.1 a.2.2.1 ns) false fun y7 =>
  .grd (!(c0 || (!(y6 == y7)))) (hand_Hand_Ready_T q.2.2.1.1 (famView q.2.2.1.2.1 q.2.2.1.2.2) a.2.1 a.2.2.1 ns) false fun y8 =>
  .grd (!(c0 || (!(y6 == y7)))) (r39_Hand_Ready_T (q.2.2.2.1, q.2.2.2.2) a.2.1 a.2.2.1 ns) false fun y9 =>
  .grd (!((c0 || (!(y6 == y7))) || (!(y8 == y9)))) (hand_Hand_Ready_nil_T a.2.1 a.2.2.1 ns) false fun y10 =>
  .grd (!(((c0 || (!(y6 == y7))) || (!(y8 == y9))) || y10)) (hand_Hand_Places_T q.1.1 (famView q.1.2.1 q.1.2.2)) ([] : List Str) fun y11 =>
  .grd (!(((c0 || (!(y6 == y7))) || (!(y8 == y9))) || y10)) (r39_Hand_Places_T (q.2.1.1, q.2.1.2)) ([] : List Str) fun y12 =>
  .grd (!(((c0 || (!(y6 == y7))) || (!(y8 == y9))) || y10)) (r01_SameTexts_T y11 y12) false fun y13 =>
  .grd (!((((c0 || (!(y6 == y7))) || (!(y8 == y9))) || y10) || (!y13))) hand_Hand_Places_nil_T ([] : List Str) fun y14 =>
  .ite (((((c0 || (!(y6 == y7))) || (!(y8 == y9))) || y10) || (!y13)) || (!decide ((y14.length : Int) = 0))) (
    .ret (.inr (.inl false))) (
    .ret (.inl ((w64 (i + 1)), q.1.1, q.2.1.1, q.1.2, q.2.1.2, q.2.2.1.1, q.2.2.2.1, q.2.2.1.2, q.2.2.2.2)))
theorem tailH_run {n : Nat} (ns : List Str) (hns : ns.length ≤ 20) (i : Int) (c0 : Bool) (hc : c0 = false) (q : St4) (a : R39_Act) (hn : n ≤ 1000) (h1 : PR n q.1 q.2.1) (h2 : PR n q.2.2.1 q.2.2.2) :
    (tailH ns i c0 q a).run = some (.inl ((w64 (i + 1)), q.1.1, q.2.1.1, q.1.2, q.2.1.2, q.2.2.1.1, q.2.2.2.1, q.2.2.1.2, q.2.2.2.2)) := by
  subst hc
  obtain ⟨_, h1⟩ := h1
  obtain ⟨_, h2⟩ := h2
  have l1 := h1.len
  have l2 := h2.len
  have x1 := h1.ok.lx
  unfold tailH
  refine (run_grd (ready_run _ _ _ _ _ (by omega))).trans ((run_grd (rready_run _ _ _ _ _ (by omega) (fun x hx => Nat.le_trans (h1.nod x hx) (by omega)) (by omega))).trans ?_)
  refine (run_grd (ready_run _ _ _ _ _ (by omega))).trans ((run_grd (rready_run _ _ _ _ _ (by omega) (fun x hx => Nat.le_trans (h2.nod x hx) (by omega)) (by omega))).trans ((run_grd (readyNil_run _ _ _)).trans ?_))
  refine (run_grd (places_run _ _ (by omega))).trans ((run_grd (rplaces_run _ _ (by omega))).trans ((run_grd (sameTexts_run _ _ (by rw [keysF_len]; omega) h1.places)).trans ?_))
  refine (run_grd (a := ([] : List Str)) (by unfold hand_Hand_Places_nil_T; exact (run_t rfl).trans rfl)).trans ?_
  refine (run_f ?_).trans rfl
  rw [h1.ready, h2.ready, beq_self_eq_true, beq_self_eq_true]; rfl
def actA (l : List R39_Act) (i : Nat) : R39_Act := l.getD i (dfl tR39_Act : R39_Act)
def stP (l : List R39_Act) (a0 : Int) : Nat → St4
  | 0 => ((a0, ([], [])), (a0, []), (0, ([], [])), (0, []))
  | i + 1 => ((doF (actA l i) (stP l a0 i).1).2, (refD (actA l i) (stP l a0 i).2.1).2, (doF (actA l i) (stP l a0 i).2.2.1).2, (refD (actA l i) (stP l a0 i).2.2.2).2)
theorem stP_ok (l : List R39_Act) (a0 : Int) (i : Nat) (hi : i ≤ 1000) : PR i (stP l a0 i).1 (stP l a0 i).2.1 ∧ PR i (stP l a0 i).2.2.1 (stP l a0 i).2.2.2 := by
  induction i with
  | zero => exact ⟨⟨rfl, HR.nil⟩, ⟨rfl, HR.nil⟩⟩
  | succ i ih =>
    obtain ⟨h1, h2⟩ := ih (by omega)
    exact ⟨(h1.act (by omega) _).2, (h2.act (by omega) _).2⟩
theorem handPlays_step (l : List R39_Act) (hl : l.length ≤ 40) (ns : List Str) (hns : ns.length ≤ 20) (a0 : Int) (i : Nat) (hi : i < l.length) :
    (l39_HandPlays_L7_step l ns (i : Int) (stP l a0 i).1.1 (stP l a0 i).2.1.1 (stP l a0 i).1.2 (stP l a0 i).2.1.2 (stP l a0 i).2.2.1.1 (stP l a0 i).2.2.2.1 (stP l a0 i).2.2.1.2 (stP l a0 i).2.2.2.2).run
      = some (.inl (((i + 1 : Nat) : Int), (stP l a0 (i + 1)).1.1, (stP l a0 (i + 1)).2.1.1, (stP l a0 (i + 1)).1.2, (stP l a0 (i + 1)).2.1.2, (stP l a0 (i + 1)).2.2.1.1, (stP l a0 (i + 1)).2.2.2.1, (stP l a0 (i + 1)).2.2.1.2, (stP l a0 (i + 1)).2.2.2.2)) := by
  obtain ⟨h1, h2⟩ := stP_ok l a0 i (by omega)
  have hb : inb (i : Int) l.length = true := by rw [inb_nat]; exact decide_eq_true hi
  obtain ⟨e1, k1⟩ := h1.act (by omega) (actA l i)
  obtain ⟨e2, k2⟩ := h2.act (by omega) (actA l i)
  have d1 := do_run (actA l i) (stP l a0 i).1 h1.hr.ok (by omega)
  have d2 := do_run (actA l i) (stP l a0 i).2.2.1 h2.hr.ok (by omega)
  have l1 := h1.hr.len
  have l2 := h2.hr.len
  have n1 : ∀ x ∈ (stP l a0 i).2.1.2, x.2.2.2.length ≤ 1000000 := fun x hx => Nat.le_trans (h1.hr.nod x hx) (by omega)
  have n2 : ∀ x ∈ (stP l a0 i).2.2.2.2, x.2.2.2.length ≤ 1000000 := fun x hx => Nat.le_trans (h2.hr.nod x hx) (by omega)
  have hw := w64_nat i (by omega)
  have hact : l.getD i (dfl tR39_Act : R39_Act) = actA l i := rfl
  have hst : stP l a0 (i + 1) = ((doF (actA l i) (stP l a0 i).1).2, (refD (actA l i) (stP l a0 i).2.1).2, (doF (actA l i) (stP l a0 i).2.2.1).2, (refD (actA l i) (stP l a0 i).2.2.2).2) := rfl
  rw [hst, ← hw]
  generalize stP l a0 i = s at *
  obtain ⟨s1, t1, s2, t2⟩ := s
  have l1 : t1.2.length ≤ i := l1
  have l2 : t2.2.length ≤ i := l2
  have n1 : ∀ x ∈ t1.2, x.2.2.2.length ≤ 1000000 := n1
  have n2 : ∀ x ∈ t2.2, x.2.2.2.length ≤ 1000000 := n2
  unfold l39_HandPlays_L7_step
  simp only [Int.toNat_natCast, hact]
  generalize actA l i = a at *
  refine (run_t (decide_eq_true (by omega))).trans ((run_ask hb).trans ((run_bnd d1).trans ((run_bnd d2).trans ((run_bnd (doNil_run a)).trans ?_))))
  by_cases c1 : a.1 = 1
  · have r1 : refD a t1 = (w64 (t1.1 + 1), (w64 (t1.1 + 1), rstartL t1.2 a.2.1 (w64 (t1.1 + 1)) a.2.2.1)) := by unfold refD; rw [if_pos c1]
    have r2 : refD a t2 = (w64 (t2.1 + 1), (w64 (t2.1 + 1), rstartL t2.2 a.2.1 (w64 (t2.1 + 1)) a.2.2.1)) := by unfold refD; rw [if_pos c1]
    refine (run_t (decide_eq_true c1)).trans ((run_bnd (rstart_run _ _ _ _ (by omega))).trans ((run_bnd (rstart_run _ _ _ _ (by omega))).trans ?_))
    have e1 : (doF a s1).1 = (refD a t1).1 := e1
    have e2 : (doF a s2).1 = (refD a t2).1 := e2
    have k1 : PR (i + 1) (doF a s1).2 (refD a t1).2 := k1
    have k2 : PR (i + 1) (doF a s2).2 (refD a t2).2 := k2
    rw [r1] at e1 k1
    rw [r2] at e2 k2
    show _ = some (Sum.inl (_, (doF a s1).2.1, (refD a t1).2.1, (doF a s1).2.2, (refD a t1).2.2, (doF a s2).2.1, (refD a t2).2.1, (doF a s2).2.2, (refD a t2).2.2))
    rw [r1, r2]
    exact tailH_run ns hns (i : Int) _ (by show (((!decide ((doF a s1).1 = _)) || (!decide ((doF a s2).1 = _))) || (!decide ((0 : Int) = 0))) = false; rw [e1, e2, decide_eq_true rfl, decide_eq_true rfl]; rfl) ((doF a s1).2, _, (doF a s2).2, _) a (n := i + 1) (by omega) k1 k2
  refine (run_f (decide_eq_false c1)).trans ?_
  have z : ∀ s : Int × Fam, (doF a s).1 = 0 := fun s => by unfold doF; rw [if_neg c1]; split <;> first | rfl | (split <;> rfl)
  have hc0 : (((!decide ((doF a s1).1 = 0)) || (!decide ((doF a s2).1 = 0))) || (!decide ((0 : Int) = 0))) = false := by rw [z, z]; rfl
  have k1 : PR (i + 1) (doF a s1).2 (refD a t1).2 := k1
  have k2 : PR (i + 1) (doF a s2).2 (refD a t2).2 := k2
  show _ = some (Sum.inl (_, (doF a s1).2.1, (refD a t1).2.1, (doF a s1).2.2, (refD a t1).2.2, (doF a s2).2.1, (refD a t2).2.1, (doF a s2).2.2, (refD a t2).2.2))
  by_cases c2 : a.1 = 2
  · have r1 : refD a t1 = (0, (t1.1, t1.2.map (tkO a.2.2.2.2 a.2.2.2.1))) := by unfold refD; rw [if_neg c1, if_pos c2]
    have r2 : refD a t2 = (0, (t2.1, t2.2.map (tkO a.2.2.2.2 a.2.2.2.1))) := by unfold refD; rw [if_neg c1, if_pos c2]
    refine (run_t (decide_eq_true c2)).trans ((run_bnd (rtaken_run _ _ _ _ (by omega) n1)).trans ((run_bnd (rtaken_run _ _ _ _ (by omega) n2)).trans ?_))
    rw [r1] at k1 ⊢
    rw [r2] at k2 ⊢
    exact tailH_run ns hns (i : Int) _ hc0 ((doF a s1).2, _, (doF a s2).2, _) a (n := i + 1) (by omega) k1 k2
  refine (run_f (decide_eq_false c2)).trans ?_
  by_cases c3 : a.1 = 3
  · have r1 : refD a t1 = (0, (t1.1, rdropL t1.2 a.2.1)) := by unfold refD; rw [if_neg c1, if_neg c2, if_pos c3]
    have r2 : refD a t2 = (0, (t2.1, rdropL t2.2 a.2.1)) := by unfold refD; rw [if_neg c1, if_neg c2, if_pos c3]
    refine (run_t (decide_eq_true c3)).trans ((run_bnd (rdrop_run _ _ _ (by omega))).trans ((run_bnd (rdrop_run _ _ _ (by omega))).trans ?_))
    rw [r1] at k1 ⊢
    rw [r2] at k2 ⊢
    exact tailH_run ns hns (i : Int) _ hc0 ((doF a s1).2, _, (doF a s2).2, _) a (n := i + 1) (by omega) k1 k2
  refine (run_f (decide_eq_false c3)).trans ?_
  have r1 : refD a t1 = (0, t1) := by unfold refD; rw [if_neg c1, if_neg c2, if_neg c3]
  have r2 : refD a t2 = (0, t2) := by unfold refD; rw [if_neg c1, if_neg c2, if_neg c3]
  rw [r1] at k1 ⊢
  rw [r2] at k2 ⊢
  exact tailH_run ns hns (i : Int) _ hc0 ((doF a s1).2, t1, (doF a s2).2, t2) a (n := i + 1) (by omega) k1 k2
theorem handPlays_law (x : ElP l39_HandPlays_g.ps) (_ : okP l39_HandPlays_g.ps x) : (l39_HandPlays_g.f x).run = some true := by
  obtain ⟨a0, l, ns, _⟩ := x
  show (l39_HandPlays_T a0 l ns).run = some true
  unfold l39_HandPlays_T
  obtain ⟨b1, hb1, q1⟩ := few39_run l
  obtain ⟨b2, hb2, q2⟩ := few01_run ns
  refine (run_bnd hb1).trans ((run_grd hb2).trans ?_)
  cases hc : (((!b1) || (!b2)) || (decide ((1073741824 : Int) < a0))) with
  | true => exact (run_t rfl).trans ((run_bnd awake_run).trans rfl)
  | false =>
    simp only [Bool.or_eq_false_iff, Bool.not_eq_false'] at hc
    have hl := q1 hc.1.1
    have hns := q2 hc.1.2
    refine (run_f rfl).trans ((run_bnd (a := ((), ((w64 a0, ((), ())), ()))) rfl).trans ?_)
    have hloop : (Tree.loop (fun v => l39_HandPlays_L7_step l ns v.1 v.2.1 v.2.2.1 v.2.2.2.1 v.2.2.2.2.1 v.2.2.2.2.2.1 v.2.2.2.2.2.2.1 v.2.2.2.2.2.2.2.1 v.2.2.2.2.2.2.2.2) ((0, w64 a0, (w64 a0), ([], []), ([] : List R39_Over), 0, 0, ([], []), ([] : List R39_Over)) : V4)).run = some (.inr ()) := by
      show loopF (fun v : V4 => (l39_HandPlays_L7_step l ns v.1 v.2.1 v.2.2.1 v.2.2.2.1 v.2.2.2.2.1 v.2.2.2.2.2.1 v.2.2.2.2.2.2.1 v.2.2.2.2.2.2.2.1 v.2.2.2.2.2.2.2.2).run) _ = _
      refine loopF_run (S := fun i => (((i : Nat) : Int), (stP l (w64 a0) i).1.1, (stP l (w64 a0) i).2.1.1, (stP l (w64 a0) i).1.2, (stP l (w64 a0) i).2.1.2, (stP l (w64 a0) i).2.2.1.1, (stP l (w64 a0) i).2.2.2.1, (stP l (w64 a0) i).2.2.1.2, (stP l (w64 a0) i).2.2.2.2)) (n := l.length) (fun i hi => handPlays_step l hl ns hns (w64 a0) i hi) ?_ rfl
      show (l39_HandPlays_L7_step l ns (l.length : Int) _ _ _ _ _ _ _ _).run = _
      unfold l39_HandPlays_L7_step
      exact (run_f (decide_eq_false (by omega))).trans rfl
    exact (run_bnd hloop).trans ((run_bnd awake_run).trans rfl)

end Go.Eng

