/- Laws in plain Lean: f39. -/
import Derived.Test.YtapnoaalcbcmaaaE39
namespace Go.Eng
open Go Go.Proofs Go.RowKit

/-! It is ready just when each node has taken just this. -/
abbrev UJ : Type := Int × Str × Bool
def stepJ (x : Str × (Str × Str)) (a : R39_Act) (q : UJ × (Int × Fam)) : UJ × (Int × Fam) :=
  (if a.1 = 1 ∧ a.2.1 = x.1 then ((doF a q.2).1, a.2.2.1, false) else if a.1 = 2 then (q.1.1, q.1.2.1, q.1.2.2 || ((decide ((0 : Int) < q.1.1) && decide (a.2.2.2.2 = q.1.1)) && (a.2.2.2.1 == x.2.2))) else q.1, (doF a q.2).2)
structure JR (x : Str × (Str × Str)) (n : Nat) (q : UJ × (Int × Fam)) : Prop where
  ok : FOk n q.2.2
  lo : 0 ≤ q.2.1
  hi : q.2.1 ≤ (n : Int)
  yes : 0 < q.1.1 → ∃ m, gF q.2.2 x.1 = some (q.1.1, q.1.2.1, m) ∧ hasS m x.2.2 = q.1.2.2
  no : ¬ 0 < q.1.1 → gF q.2.2 x.1 = none
theorem JR.act {x : Str × (Str × Str)} {n : Nat} {q : UJ × (Int × Fam)} (h : JR x n q) (hn : n ≤ 1000) (a : R39_Act) (h3 : a.1 ≠ 3) : JR x (n + 1) (stepJ x a q) := by
  obtain ⟨l1, l2, l3⟩ := do_last (b := n) a q.2 h.lo h.hi (by omega)
  have key : (0 < (stepJ x a q).1.1 → ∃ m, gF (stepJ x a q).2.2 x.1 = some ((stepJ x a q).1.1, (stepJ x a q).1.2.1, m) ∧ hasS m x.2.2 = (stepJ x a q).1.2.2) ∧ (¬ 0 < (stepJ x a q).1.1 → gF (stepJ x a q).2.2 x.1 = none) := by
    have hs2 : (stepJ x a q).2.2 = (doF a q.2).2.2 := rfl
    rw [hs2]
    by_cases c1 : a.1 = 1
    · have hd : (doF a q.2).2.2 = startF q.2.2 a.2.1 (w64 (q.2.1 + 1)) a.2.2.1 := by unfold doF; rw [if_pos c1]
      have hz : (doF a q.2).1 = w64 (q.2.1 + 1) := by unfold doF; rw [if_pos c1]
      rw [hd, start_gF h.ok]
      by_cases c2 : a.2.1 = x.1
      · have hs : (stepJ x a q).1 = (w64 (q.2.1 + 1), a.2.2.1, false) := by unfold stepJ; rw [if_pos ⟨c1, c2⟩, hz]
        have hp : 0 < w64 (q.2.1 + 1) := by rw [← hz, l3 c1]; have := h.lo; omega
        rw [hs, if_pos c2.symm]
        exact ⟨fun _ => ⟨[], rfl, rfl⟩, fun hn0 => absurd hp hn0⟩
      · have hs : (stepJ x a q).1 = q.1 := by unfold stepJ; rw [if_neg (fun h => c2 h.2), if_neg (show ¬ a.1 = 2 by omega)]
        rw [hs, if_neg (show ¬ x.1 = a.2.1 from fun h => c2 h.symm)]
        exact ⟨h.yes, h.no⟩
    by_cases c2 : a.1 = 2
    · have hd : (doF a q.2).2.2 = takenF q.2.2 a.2.2.2.2 a.2.2.2.1 := by unfold doF; rw [if_neg c1, if_pos c2]
      have hs : (stepJ x a q).1 = (q.1.1, q.1.2.1, q.1.2.2 || ((decide ((0 : Int) < q.1.1) && decide (a.2.2.2.2 = q.1.1)) && (a.2.2.2.1 == x.2.2))) := by unfold stepJ; rw [if_neg (fun h => c1 h.1), if_pos c2]
      rw [hd, hs, taken_gF h.ok]
      refine ⟨fun hp => ?_, fun hp => ?_⟩
      · obtain ⟨m, m1, m2⟩ := h.yes hp
        rw [m1]
        by_cases e : q.1.1 = a.2.2.2.2
        · refine ⟨putM .str (.int .i64) m a.2.2.2.1 (1 : Int), congrArg some (if_pos e), ?_⟩
          show _ = (q.1.2.2 || ((decide ((0 : Int) < q.1.1) && decide (a.2.2.2.2 = q.1.1)) && (a.2.2.2.1 == x.2.2)))
          rw [hasS_put, m2, decide_eq_true (show (0 : Int) < q.1.1 from hp), decide_eq_true e.symm, Bool.true_and, Bool.true_and, Bool.or_comm]
        · refine ⟨m, congrArg some (if_neg e), ?_⟩
          show _ = (q.1.2.2 || ((decide ((0 : Int) < q.1.1) && decide (a.2.2.2.2 = q.1.1)) && (a.2.2.2.1 == x.2.2)))
          rw [m2, decide_eq_false (show ¬ a.2.2.2.2 = q.1.1 from fun h => e h.symm), Bool.and_false, Bool.false_and, Bool.or_false]
      · rw [h.no hp]; rfl
    · have hd : (doF a q.2).2.2 = q.2.2 := by unfold doF; rw [if_neg c1, if_neg c2, if_neg h3]
      have hs : (stepJ x a q).1 = q.1 := by unfold stepJ; rw [if_neg (fun h => c1 h.1), if_neg c2]
      rw [hd, hs]
      exact ⟨h.yes, h.no⟩
  exact ⟨do_ok a q.2 h.ok hn, l1, l2, key.1, key.2⟩
theorem JR.ready {x : Str × (Str × Str)} {n : Nat} {q : UJ × (Int × Fam)} (h : JR x n q) : readyV (gF q.2.2 x.1) x.2.1 [x.2.2] = ((decide ((0 : Int) < q.1.1) && (q.1.2.1 == x.2.1)) && q.1.2.2) := by
  by_cases hp : 0 < q.1.1
  · obtain ⟨m, m1, m2⟩ := h.yes hp
    rw [m1, decide_eq_true hp, Bool.true_and, ← m2]
    show (q.1.2.1 == x.2.1 && decide (0 < 1) && [x.2.2].all fun s => hasS m s) = _
    rw [List.all_cons, List.all_nil, Bool.and_true]
    rw [show decide (0 < 1) = true from rfl, Bool.and_true]
  · rw [h.no hp, decide_eq_false hp]; rfl
theorem ready_none (o : Option (El viewT)) (d : Str) : readyV o d [] = false := by
  unfold readyV
  cases o with
  | none => rfl
  | some e => show (_ && decide (0 < 0) && _) = false; rw [show decide (0 < 0) = false from rfl, Bool.and_false, Bool.false_and]
theorem handJust_law (x : ElP l39_HandJust_g.ps) (_ : okP l39_HandJust_g.ps x) : (l39_HandJust_g.f x).run = some true := by
  obtain ⟨l, x, _⟩ := x
  show (l39_HandJust_T l x).run = some true
  unfold l39_HandJust_T
  obtain ⟨b1, hb1, q1⟩ := few39_run l
  refine (run_bnd hb1).trans ((run_ask (by rw [show inb 0 3 = true from rfl, Bool.or_true])).trans ((run_ask (by rw [show inb 1 3 = true from rfl, Bool.or_true])).trans ((run_ask (by rw [show inb 2 3 = true from rfl, Bool.or_true])).trans ?_)))
  cases hc : ((((!b1) || (decide ((100 : Int) < (x.1.length : Int)))) || (decide ((100 : Int) < (x.2.1.length : Int)))) || (decide ((100 : Int) < (x.2.2.length : Int)))) with
  | true => exact (run_t rfl).trans ((run_bnd awake_run).trans rfl)
  | false =>
    simp only [Bool.or_eq_false_iff, Bool.not_eq_false'] at hc
    have hl := q1 hc.1.1.1
    refine (run_f rfl).trans ((run_bnd (a := ((), (((0 : Int), ((), ())), ()))) rfl).trans ?_)
    have hstep : ∀ i q, i < l.length → JR x i q → (∃ q', (l39_HandJust_L6_step l x q.1.1 q.1.2.1 q.1.2.2 ((i : Nat) : Int) q.2.1 q.2.2).run = some (.inl (q'.1.1, q'.1.2.1, q'.1.2.2, ((i + 1 : Nat) : Int), q'.2.1, q'.2.2)) ∧ JR x (i + 1) q') ∨ (l39_HandJust_L6_step l x q.1.1 q.1.2.1 q.1.2.2 ((i : Nat) : Int) q.2.1 q.2.2).run = some (.inr (.inl true)) := by
      intro i q hi hq
      have hb : inb (i : Int) l.length = true := by rw [inb_nat]; exact decide_eq_true hi
      have hw := w64_nat i (by omega)
      have h0 : decide ((i : Int) < (l.length : Int)) = true := decide_eq_true (by omega)
      unfold l39_HandJust_L6_step
      simp only [Int.toNat_natCast, getD_lt _ _ _ hi]
      generalize l[i] = a
      by_cases c3 : a.1 = 3
      · exact .inr ((run_t h0).trans ((run_ask hb).trans ((run_t (decide_eq_true c3)).trans ((run_bnd awake_run).trans rfl))))
      refine .inl ⟨stepJ x a q, ?_, hq.act (by omega) a c3⟩
      refine (run_t h0).trans ((run_ask hb).trans ((run_f (decide_eq_false c3)).trans ((run_bnd (do_run a q.2 hq.ok (by omega))).trans ((run_ask (by rw [show inb 0 3 = true from rfl, Bool.or_true])).trans ?_))))
      rw [← hw]
      unfold stepJ
      by_cases c1 : a.1 = 1
      · have c12 : ¬ a.1 = 2 := fun h => absurd (c1.symm.trans h) (by decide)
        by_cases c2 : a.2.1 = x.1
        · rw [if_pos ⟨c1, c2⟩]
          exact (run_t (by rw [decide_eq_true c1, beq_iff_eq.2 c2]; rfl)).trans rfl
        · rw [if_neg (fun h => c2 h.2), if_neg c12]
          exact (run_f (by rw [beq_eq_false_iff_ne.2 c2, Bool.and_false])).trans ((run_f (decide_eq_false c12)).trans rfl)
      · rw [if_neg (fun h => c1 h.1)]
        refine (run_f (by rw [decide_eq_false c1, Bool.false_and])).trans ?_
        by_cases c2 : a.1 = 2
        · rw [if_pos c2]
          exact (run_t (decide_eq_true c2)).trans ((run_ask (by rw [show inb 2 3 = true from rfl, Bool.or_true])).trans rfl)
        · rw [if_neg c2]
          exact (run_f (decide_eq_false c2)).trans rfl
    obtain ⟨r, hr, hq⟩ := loopF_mu (st := fun v : Int × Str × Bool × Int × Int × Fam => (l39_HandJust_L6_step l x v.1 v.2.1 v.2.2.1 v.2.2.2.1 v.2.2.2.2.1 v.2.2.2.2.2).run)
      (fun v => ∃ (i : Nat) (q : UJ × (Int × Fam)), i ≤ l.length ∧ JR x i q ∧ v = (q.1.1, q.1.2.1, q.1.2.2, (i : Int), q.2.1, q.2.2)) (fun v => l.length - v.2.2.2.1.toNat)
      (fun r => r = .inl true ∨ ∃ (n : Nat) (q : UJ × (Int × Fam)), JR x n q ∧ n ≤ 40 ∧ r = .inr (q.1.1, q.1.2.1, q.1.2.2, q.2.1, q.2.2)) (by
        rintro v ⟨i, q, hi, hq, rfl⟩
        by_cases hlt : i < l.length
        · rcases hstep i q hlt hq with ⟨q', h1, h2⟩ | h1
          · refine .inl ⟨_, h1, ⟨i + 1, q', hlt, h2, rfl⟩, ?_⟩
            show l.length - ((i + 1 : Nat) : Int).toNat < l.length - ((i : Nat) : Int).toNat
            rw [Int.toNat_natCast, Int.toNat_natCast]; omega
          · exact .inr ⟨_, h1, .inl rfl⟩
        · have : i = l.length := by omega
          subst this
          refine .inr ⟨_, ?_, .inr ⟨l.length, q, hq, hl, rfl⟩⟩
          show (l39_HandJust_L6_step l x q.1.1 q.1.2.1 q.1.2.2 (l.length : Int) q.2.1 q.2.2).run = _
          unfold l39_HandJust_L6_step
          exact (run_f (decide_eq_false (by omega))).trans rfl) (s0 := ((-1), ([] : Str), false, 0, (0 : Int), (([], []) : Fam)))
      ⟨0, ((-1, [], false), (0, ([], []))), Nat.zero_le _, ⟨FOk.nil, Int.le_refl _, Int.le_refl _, (fun h => absurd h (by decide)), fun _ => rfl⟩, rfl⟩
    have hr' : (Tree.loop (fun v : Int × Str × Bool × Int × Int × Fam => l39_HandJust_L6_step l x v.1 v.2.1 v.2.2.1 v.2.2.2.1 v.2.2.2.2.1 v.2.2.2.2.2) ((-1), ([] : Str), false, 0, (0 : Int), (([], []) : Fam))).run = some r := hr
    refine (run_bnd hr').trans ?_
    rcases hq with rfl | ⟨n, q, hq, hn, rfl⟩
    · rfl
    · have hx := hq.ok.lx
      have hr1 := ready_run q.2.1 q.2.2 x.1 x.2.1 [x.2.2] (by show 1 ≤ 1000000; decide)
      have hr2 := ready_run q.2.1 q.2.2 x.1 x.2.1 [] (by decide)
      rw [hq.ready] at hr1
      rw [ready_none] at hr2
      have hb1 : inb 1 3 = true := rfl
      have hb0 : inb 0 3 = true := rfl
      show (ask (inb 0 3) _).run = _
      refine (run_ask rfl).trans ((run_ask rfl).trans ((run_ask rfl).trans ((run_bnd hr1).trans ?_)))
      refine (run_ask (by rw [hb1, Bool.or_true])).trans ((run_ask (by rw [hb0, Bool.or_true])).trans ((run_ask (by rw [hb1, Bool.or_true])).trans ?_))
      refine (run_grd hr2).trans ((run_grd awake_run).trans ?_)
      show some _ = some true
      rw [beq_self_eq_true]; rfl

end Go.Eng

