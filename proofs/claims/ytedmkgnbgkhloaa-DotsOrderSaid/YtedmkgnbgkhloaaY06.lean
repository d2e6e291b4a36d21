/- Laws in plain Lean: y06. -/
import Derived.Test.YtedmkgnbgkhloaaZ06
namespace Go.Eng
open Go Go.Proofs Go.RowKit

theorem dotsJoins_core (a b : List Seen) (d : Dot) : (l06_DotsJoins_T a b d).run = some true := by
  unfold l06_DotsJoins_T
  simp only [Tree.run, few06_run, Option.bind_some]
  cases fa : fewB q06 12 a with
  | false => simp [awake06]
  | true =>
  cases fb : fewB q06 12 b with
  | false => simp [awake06]
  | true =>
  by_cases hd : (100 : Int) < (d.1.length : Int)
  · simp [awake06, hd]
  have sa := few06_small fa
  have sb := few06_small fb
  have hd' : d.1.length ≤ 100 := by omega
  have sm := sa.small (by omega) (by omega)
  have sn := sb.small (by omega) (by omega)
  have s1 : SmallC (joinL a b).1 := by
    unfold joinL
    cases ca : ctxB a with
    | false => exact ⟨Nat.zero_le _, fun x hx => absurd hx List.not_mem_nil⟩
    | true =>
    cases cb : ctxB b with
    | false => exact ⟨Nat.zero_le _, fun x hx => absurd hx List.not_mem_nil⟩
    | true =>
      cases ctxB (outL a b) with
      | false => exact ⟨Nat.zero_le _, fun x hx => absurd hx List.not_mem_nil⟩
      | true => exact (sa.out sb ca cb).small (by omega) (by omega)
  have s2 : SmallC (addL a d).1 := by
    unfold addL
    cases hdd : dotB d with
    | false => exact ⟨Nat.zero_le _, fun x hx => absurd hx List.not_mem_nil⟩
    | true =>
      have so := oneL_small hd'
      have co := (oneL_ok hdd).1
      rw [cond_true]
      unfold joinL
      cases ca : ctxB a with
      | false => exact ⟨Nat.zero_le _, fun x hx => absurd hx List.not_mem_nil⟩
      | true =>
        rw [co]
        cases ctxB (outL a (oneL d)) with
        | false => exact ⟨Nat.zero_le _, fun x hx => absurd hx List.not_mem_nil⟩
        | true => exact (sa.out so ca co).small (by omega) (by omega)
  simp only [Bool.not_true, Bool.or_self, decide_eq_false hd, cond_false, Bool.not_false, Option.isNone_some, Bool.and_false, Option.getD_some, Bool.or_false, join_run a b sa sb (by omega) (by omega), rJoin_run a b sa sb (by omega) (by omega), add_run a d sa hd' (by omega) (by omega), rAdd_run a d sa hd' (by omega) (by omega), Option.bind_some, same_run _ _ s1, same_run _ _ s2, covers_run a b sm sn, rCovers_run a b sm sn, awake06, decide_true, beq_self_eq_true, Bool.and_self]
theorem dotsJoins_law (x : ElP l06_DotsJoins_g.ps) (_ : okP l06_DotsJoins_g.ps x) : (l06_DotsJoins_g.f x).run = some true := by
  obtain ⟨a, b, d, _⟩ := x
  exact dotsJoins_core a b d

theorem joinL_good {n m n' m' : Nat} {a b : List Seen} (ha : SmN n m a) (hb : SmN n' m' b) (ca : ctxB a = true) (cb : ctxB b = true) (h : n * m + n' * m' ≤ 4096) : joinL a b = (outL a b, 0) ∧ ctxB (outL a b) = true ∧ ∀ d, hasB (outL a b) d = (hasB a d || hasB b d) := by
  have h1 := ha.sum
  have h2 := hb.sum
  obtain ⟨k1, k2⟩ := outL_ok ca cb (by omega)
  refine ⟨?_, k1, k2⟩
  unfold joinL
  rw [ca, cb, k1]; rfl
theorem dotsKnow_core (a b : List Seen) (d : Dot × Dot) : (l06_DotsKnow_T a b d).run = some true := by
  have b0 : inb 0 2 = true := by decide
  have b1 : inb 1 2 = true := by decide
  unfold l06_DotsKnow_T
  simp only [Tree.run, few06_run, Option.bind_some, b0, b1, Bool.or_true, cond_true]
  cases fa : fewB q06 12 a with
  | false => simp [awake06]
  | true =>
  cases fb : fewB q06 12 b with
  | false => simp [awake06]
  | true =>
  have sa := few06_small fa
  have sb := few06_small fb
  have sm := sa.small (by omega) (by omega)
  have sn := sb.small (by omega) (by omega)
  simp only [may_run a sm, may_run b sn]
  cases ca : ctxB a with
  | false => simp [awake06]
  | true =>
  cases cb : ctxB b with
  | false => simp [awake06]
  | true =>
  by_cases hd1 : (100 : Int) < (d.1.1.length : Int)
  · simp [awake06, hd1]
  by_cases hd2 : (100 : Int) < (d.2.1.length : Int)
  · simp [awake06, hd2]
  have hd' : d.1.1.length ≤ 100 := by omega
  obtain ⟨e1, e2, e3⟩ := joinL_good sa sb ca cb (by omega)
  have so := (sa.out sb ca cb).small (by omega) (by omega)
  have hj := join_run a b sa sb (by omega) (by omega)
  rw [e1] at hj
  simp only [Bool.not_true, Bool.or_self, decide_eq_false hd1, decide_eq_false hd2, cond_false, Bool.not_false, Option.isNone_some, Bool.and_false, Option.getD_some, Bool.or_false, hj, Option.bind_some, decide_true, may_run _ so, e2]
  rw [loopF_run (S := fun i => (i : Int)) (n := 2) (a := (.inr () : Bool ⊕ Unit)) (fun i hi => by
    have h2 : (i : Int) < 2 := by omega
    unfold l06_DotsKnow_L7_step
    simp only [Tree.run, h2, decide_true, cond_true]
    by_cases h0 : i = 0
    · subst h0
      simp only [Int.ofNat_zero, Int.natCast_zero, decide_true, cond_true, b0, Bool.or_true, has_run _ _ so, has_run _ _ sm, has_run _ _ sn, Option.bind_some, e3]
      cases hasB a d.1 <;> cases hasB b d.1 <;> rfl
    · have h1 : i = 1 := by omega
      subst h1
      have q0 : decide (((1 : Nat) : Int) = 0) = false := by decide
      have q1 : decide (((1 : Nat) : Int) = 1) = true := by decide
      simp only [q0, q1, cond_true, cond_false, b1, Bool.or_true, has_run _ _ so, has_run _ _ sm, has_run _ _ sn, Option.bind_some, e3]
      cases hasB a d.2 <;> cases hasB b d.2 <;> rfl) (by
    unfold l06_DotsKnow_L7_step
    have : decide (((2 : Nat) : Int) < 2) = false := by decide
    simp only [Tree.run, this, cond_false]) (s0 := (0 : Int)) rfl]
  simp only [Tree.run, b0, b1, Bool.or_true, cond_true, Option.bind_some, add_run a d.1 sa hd' (by omega) (by omega), isDot_run d.1 hd']
  cases hdd : dotB d.1 with
  | false =>
    have : addL a d.1 = ([], 1) := by unfold addL; rw [hdd]; rfl
    simp [this, awake06]
  | true =>
    have so1 := oneL_small (d := d.1) hd'
    obtain ⟨co, ho⟩ := oneL_ok hdd
    obtain ⟨f1, f2, f3⟩ := joinL_good sa so1 ca co (by omega)
    have e : addL a d.1 = (outL a (oneL d.1), 0) := by unfold addL; rw [hdd, cond_true, f1]
    have sp := (sa.out so1 ca co).small (by omega) (by omega)
    have hk : ((d.2.1 == d.1.1) && ((decide (d.2.2 = d.1.2)) && true)) = decide (d.2 = d.1) := by
      rw [Bool.eq_iff_iff]
      simp only [Bool.and_eq_true, beq_iff_eq, decide_eq_true_eq, and_true]
      exact ⟨fun q => Prod.ext q.1 q.2, fun q => by rw [q]; exact ⟨rfl, rfl⟩⟩
    simp only [e, Bool.not_true, cond_false, decide_true, may_run _ sp, f2, Option.isNone_some, Bool.and_false, Option.getD_some, Bool.and_self, has_run _ _ sp, has_run _ _ sm, f3, ho, Bool.or_true, cond_true, hk, awake06, beq_self_eq_true]
theorem dotsKnow_law (x : ElP l06_DotsKnow_g.ps) (_ : okP l06_DotsKnow_g.ps x) : (l06_DotsKnow_g.f x).run = some true := by
  obtain ⟨a, b, d, _⟩ := x
  exact dotsKnow_core a b d

theorem dotsOrder_core (a b c : List Seen) : (l06_DotsOrder_T a b c).run = some true := by
  unfold l06_DotsOrder_T
  simp only [Tree.run, few06_run, Option.bind_some]
  cases fa : fewB q06 12 a with
  | false => simp [awake06]
  | true =>
  cases fb : fewB q06 12 b with
  | false => simp [awake06]
  | true =>
  cases fc : fewB q06 12 c with
  | false => simp [awake06]
  | true =>
  have sa := few06_small fa
  have sb := few06_small fb
  have sc := few06_small fc
  have ma := sa.small (by omega) (by omega)
  have mb := sb.small (by omega) (by omega)
  have mc := sc.small (by omega) (by omega)
  simp only [may_run a ma, may_run b mb, may_run c mc]
  cases ca : ctxB a with
  | false => simp [awake06]
  | true =>
  cases cb : ctxB b with
  | false => simp [awake06]
  | true =>
  cases cc : ctxB c with
  | false => simp [awake06]
  | true =>
  obtain ⟨x1, x2, x3⟩ := joinL_good sa sb ca cb (by omega)
  obtain ⟨y1, y2, y3⟩ := joinL_good sb sa cb ca (by omega)
  obtain ⟨z1, z2, z3⟩ := joinL_good sa sa ca ca (by omega)
  obtain ⟨u1, u2, u3⟩ := joinL_good sb sc cb cc (by omega)
  have sab := sa.out sb ca cb
  have sbc := sb.out sc cb cc
  have saa := sa.out sa ca ca
  have jab := join_run a b sa sb (by omega) (by omega)
  have jba := join_run b a sb sa (by omega) (by omega)
  have jaa := join_run a a sa sa (by omega) (by omega)
  have jbc := join_run b c sb sc (by omega) (by omega)
  rw [x1] at jab
  rw [y1] at jba
  rw [z1] at jaa
  rw [u1] at jbc
  have eba : outL b a = outL a b := ctx_uniq y2 x2 fun d => by rw [y3, x3, Bool.or_comm]
  have eaa : outL a a = a := ctx_uniq z2 ca fun d => by rw [z3, Bool.or_self]
  rw [eba] at jba
  rw [eaa] at jaa
  generalize hab : outL a b = ab at *
  generalize hbc : outL b c = bc at *
  obtain ⟨v1, v2, v3⟩ := joinL_good sab sc x2 cc (by omega)
  obtain ⟨w1, w2, w3⟩ := joinL_good sa sbc ca u2 (by omega)
  have j1 := join_run ab c sab sc (by omega) (by omega)
  have j2 := join_run a bc sa sbc (by omega) (by omega)
  rw [v1] at j1
  rw [w1] at j2
  have so := (sab.out sc x2 cc).small (by omega) (by omega)
  have e12 : outL a bc = outL ab c := ctx_uniq w2 v2 fun d => by rw [w3, v3, u3, x3, Bool.or_assoc]
  rw [e12] at j2
  have mab := sab.small (by omega) (by omega)
  have c1 : coversB ab a = true := (coversB_iff x2 ca).2 fun d h => by rw [x3, h, Bool.true_or]
  have c2 : coversB ab b = true := (coversB_iff x2 cb).2 fun d h => by rw [x3, h, Bool.or_true]
  have c3 : coversB a a = true := (coversB_iff ca ca).2 fun d h => h
  simp only [Bool.not_true, Bool.or_self, cond_false, Bool.not_false, Option.isNone_some, Bool.and_false, Option.getD_some, Bool.or_false, jab, jba, jaa, jbc, j1, j2, Option.bind_some, decide_true, same_run _ _ mab, same_run _ _ ma, same_run _ _ so, covers_run _ _ mab ma, covers_run _ _ mab mb, covers_run _ _ ma ma, c1, c2, c3, covers_run _ _ mc ma, covers_run _ _ mc mb, covers_run _ _ mc mab, covers_run _ _ ma mb, covers_run _ _ mb ma, covers_run _ _ mb mc, covers_run _ _ ma mc]
  have q1 : ((coversB c a && coversB c b) && !coversB c ab) = false := by
    cases h1 : coversB c a with
    | false => rfl
    | true =>
    cases h2 : coversB c b with
    | false => rfl
    | true =>
      have : coversB c ab = true := (coversB_iff cc x2).2 fun d h => by
        rw [x3] at h
        rcases Bool.or_eq_true_iff.1 h with h | h
        · exact (coversB_iff cc ca).1 h1 d h
        · exact (coversB_iff cc cb).1 h2 d h
      rw [this]; rfl
  have q2 : (coversB a b && !(coversB b a == decide (a = b))) = false := by
    cases h1 : coversB a b with
    | false => rfl
    | true =>
      have : coversB b a = decide (a = b) := by
        rw [Bool.eq_iff_iff, decide_eq_true_eq]
        constructor
        · intro h2
          exact ctx_uniq ca cb fun d => by
            rw [Bool.eq_iff_iff]
            exact ⟨(coversB_iff cb ca).1 h2 d, (coversB_iff ca cb).1 h1 d⟩
        · rintro rfl; exact h1
      rw [this]; simp
  have q3 : ((!coversB a b || !coversB b c) || coversB a c) = true := by
    cases h1 : coversB a b with
    | false => rfl
    | true =>
    cases h2 : coversB b c with
    | false => rfl
    | true =>
      have : coversB a c = true := (coversB_iff ca cc).2 fun d h => (coversB_iff ca cb).1 h1 d ((coversB_iff cb cc).1 h2 d h)
      rw [this]; rfl
  simp only [q1, q2, q3, cond_false, awake06, Bool.and_self, Option.getD_some, Option.isNone_some, Bool.and_false]
theorem dotsOrder_law (x : ElP l06_DotsOrder_g.ps) (_ : okP l06_DotsOrder_g.ps x) : (l06_DotsOrder_g.f x).run = some true := by
  obtain ⟨a, b, c, _⟩ := x
  exact dotsOrder_core a b c

end Go.Eng
