/- Contexts: whether they may be, what they know, whether one covers another one: the program's functions and the reference's come to the same plain ones. -/
import Derived.Test.YteoafkipoapjlaaGreatDoorM40
import Derived.Test.YteoafkipoapjlaaGreatDoorK05
namespace Go.Eng
open Go Go.Proofs

abbrev M53 : Int := 9007199254740992
/-- Contexts that are not great. -/
def SmallC (c : List Seen) : Prop := c.length ≤ 1000 ∧ ∀ x ∈ c, x.1.length ≤ 1000000 ∧ x.2.2.length ≤ 1000

/-! Is a dot known? -/
/-! May a context be? -/
def riseG (last n : Int) : Bool := !(decide (n ≤ last) || decide (M53 < n))
def seenB (x : Seen) : Bool := nameS x.1 && decide (0 ≤ x.2.1) && decide (x.2.1 ≤ M53) && !(decide (x.2.1 = 0) && decide (x.2.2.length = 0)) && chain riseG (fun _ n => n) (x.2.1 + 1) x.2.2
def ctxG (c : Int × Option Str) (x : Seen) : Bool := seenB x && (match c.2 with | none => true | some p => ltS p x.1) && decide ((x.2.2.length : Int) ≤ c.1)
def ctxN (c : Int × Option Str) (x : Seen) : Int × Option Str := (c.1 - (x.2.2.length : Int), some x.1)
def ctxB (c : List Seen) : Bool := chain ctxG ctxN (4096, none) c

theorem w64_in6 {x : Int} (h0 : -9223372036854775808 ≤ x) (h1 : x ≤ 9223372036854775807) : w64 x = x := by
  show IntKind.i64.wrap _ = _
  rw [IntKind.wrap_i64]; omega

theorem isSeen_run (x : Seen) (hx : x.2.2.length ≤ 1000) : (dots_isSeen_T x).run = some (seenB x) := by
  unfold dots_isSeen_T seenB
  simp only [Tree.run, nameIs_run, Option.bind_some]
  cases h1 : nameS x.1
  · simp
  by_cases h2 : x.2.1 < 0
  · have h2' : ¬ (0 ≤ x.2.1) := by omega
    simp [h2, h2']
  by_cases h3 : (9007199254740992 : Int) < x.2.1
  · have h3' : ¬ (x.2.1 ≤ M53) := by unfold M53; omega
    simp [h3, h3']
  have h2' : 0 ≤ x.2.1 := by omega
  have h3' : x.2.1 ≤ M53 := by unfold M53; omega
  have e4 : decide ((x.2.2.length : Int) = 0) = decide (x.2.2.length = 0) := by rw [decide_eq_decide]; omega
  rw [e4]
  cases h4 : (decide (x.2.1 = 0) && decide (x.2.2.length = 0)) with
  | true => simp only [Bool.or_true, cond_true, Bool.not_true, Bool.and_false, Bool.false_and]
  | false =>
    simp only [h2, h3, h2', h3', h4, decide_false, decide_true, Bool.not_true, Bool.or_false, cond_false, Bool.not_false, Bool.and_true, Bool.true_and]
    rw [w64_in6 (by omega) (by unfold M53 at h3'; omega)]
    rw [chain_loop (st := fun v => (dots_isSeen_L5_step x.2.2 (x.2.2.length : Int) v.1 v.2).run) x.2.2 riseG (fun _ n => n) (fun i (c : Int) => (c, (i : Int))) (fun _ _ => True) (Sum.inl false : Bool ⊕ Unit) (.inr ()) (fun i c hi _ => by
      refine ⟨?_, fun _ => trivial⟩
      unfold dots_isSeen_L5_step riseG
      simp only [Tree.run, Int.ofNat_lt, hi, decide_true, cond_true, inb_nat, Int.toNat_natCast, getD_lt _ _ _ hi, w64_i i (by omega)]
      cases decide (x.2.2[i] ≤ c) || decide (9007199254740992 < x.2.2[i]) <;> rfl) (fun c _ => by unfold dots_isSeen_L5_step; simp [Tree.run]) (x.2.1 + 1) trivial (s0 := ((x.2.1 + 1 : Int), (0 : Int))) rfl]
    cases chain riseG (fun _ n => n) (x.2.1 + 1) x.2.2 <;> rfl

theorem prev_ok (c : List Seen) (hc : c.length ≤ 1000) (i : Nat) (hi : i < c.length) (y : Bool) : ((!((!(!y)) && (decide ((0 : Int) < (i : Int))))) || inb (w64 ((i : Int) - 1)) c.length) = true := by
  cases i with
  | zero => simp
  | succ i =>
    have e1 : w64 (((i + 1 : Nat) : Int) - 1) = (i : Int) := (w64_in6 (by omega) (by omega)).trans (by omega)
    have hi' : i < c.length := by omega
    rw [e1, inb_nat, decide_eq_true hi', Bool.or_true]
def prevOf (c : List Seen) (i : Nat) : Option Str := if i = 0 then none else (c[i - 1]?).map fun x => x.1
def prevB (p : Option Str) (s : Str) : Bool := match p with | none => true | some p => ltS p s
theorem prev_lt (c : List Seen) (hc : c.length ≤ 1000) (i : Nat) (hi : i < c.length) (s : Str) : ((decide ((0 : Int) < (i : Int))) && (!ltS (c.getD ((w64 ((i : Int) - 1)).toNat) (dfl tSeen : Seen)).1 s)) = !prevB (prevOf c i) s := by
  cases i with
  | zero => rfl
  | succ i =>
    have e1 : w64 (((i + 1 : Nat) : Int) - 1) = (i : Int) := (w64_in6 (by omega) (by omega)).trans (by omega)
    have hi' : i < c.length := by omega
    have e0 : decide ((0 : Int) < ((i + 1 : Nat) : Int)) = true := by rw [decide_eq_true_eq]; omega
    rw [e1, e0, Int.toNat_natCast, getD_lt _ _ _ hi']
    unfold prevOf
    rw [if_neg (by omega), Nat.add_sub_cancel, List.getElem?_eq_getElem hi']
    rfl
theorem prev_next (c : List Seen) (i : Nat) (hi : i < c.length) : some c[i].1 = prevOf c (i + 1) := by
  unfold prevOf
  rw [if_neg (by omega), Nat.add_sub_cancel, List.getElem?_eq_getElem hi]; rfl

theorem check_run (c : List Seen) (hc : SmallC c) : (dots_Check_T c).run = some (bif ctxB c then 0 else 1) := by
  unfold dots_Check_T ctxB
  simp only [Tree.run]
  rw [chain_loop (st := fun v => (dots_Check_L3_step c c (c.length : Int) v.1 v.2).run) c ctxG ctxN (fun i (g : Int × Option Str) => (g.1, (i : Int))) (fun i g => -1 ≤ g.1 ∧ g.1 ≤ 4096 ∧ g.2 = prevOf c i) (Sum.inl 1 : Int ⊕ Unit) (.inr ()) (fun i g hi hI => by
    obtain ⟨g1, g2⟩ := g
    obtain ⟨hg0, hg, h2⟩ := hI
    simp only at hg0 hg h2
    subst h2
    have hlen := (hc.2 c[i] (List.getElem_mem hi)).2
    have hc1 := hc.1
    constructor
    · unfold dots_Check_L3_step ctxG ctxN
      simp only [Tree.run, Int.ofNat_lt, hi, decide_true, cond_true, inb_nat, Int.toNat_natCast, getD_lt _ _ _ hi, prod_eta, isSeen_run _ hlen, Option.bind_some]
      have e3 : decide (g1 < (c[i].2.2.length : Int)) = !decide ((c[i].2.2.length : Int) ≤ g1) := by
        rw [← decide_not]; congr 1; rw [eq_iff_iff]; omega
      rw [w64_in6 (x := g1 - (c[i].2.2.length : Int)) (by omega) (by omega), w64_i i (by omega), e3, prev_ok c hc1 i hi, prev_lt c hc1 i hi]
      show _ = some (bif seenB c[i] && prevB (prevOf c i) c[i].1 && _ then _ else _)
      cases seenB c[i] <;> cases prevB (prevOf c i) c[i].1 <;> cases decide ((c[i].2.2.length : Int) ≤ g1) <;> rfl
    · intro hgood
      unfold ctxG at hgood
      simp only [Bool.and_eq_true, decide_eq_true_eq] at hgood
      exact ⟨by show -1 ≤ g1 - _; omega, by show g1 - _ ≤ 4096; omega, prev_next c i hi⟩) (fun g _ => by unfold dots_Check_L3_step; simp [Tree.run]) (4096, none) ⟨by omega, by omega, rfl⟩ (s0 := ((4096 : Int), (0 : Int))) rfl]
  cases chain ctxG ctxN (4096, none) c <;> rfl

theorem mayInner (c : List Seen) (x : Seen) (i n : Int) (hx : x.2.2.length ≤ 1000) (q1 : (0 : Int) ≤ x.2.1) (q2 : x.2.1 ≤ M53) : loopF (fun v => (r06_May_L11_step c n i x v.1 v.2).run) ((w64 (x.2.1 + 1)), 0) = some (bif chain riseG (fun _ n => n) (x.2.1 + 1) x.2.2 then .inr () else .inl false) := by
  rw [w64_in6 (by omega) (by unfold M53 at q2; omega)]
  refine chain_loop (st := fun v => (r06_May_L11_step c n i x v.1 v.2).run) x.2.2 riseG (fun _ n => n) (fun i (c : Int) => (c, (i : Int))) (fun _ _ => True) (Sum.inl false : Bool ⊕ Unit) (.inr ()) (fun k d hk _ => ?_) (fun d _ => by unfold r06_May_L11_step; simp [Tree.run]) (x.2.1 + 1) trivial rfl
  refine ⟨?_, fun _ => trivial⟩
  unfold r06_May_L11_step riseG
  simp only [Tree.run, Int.ofNat_lt, hk, decide_true, cond_true, inb_nat, Int.toNat_natCast, getD_lt _ _ _ hk, w64_i k (by omega), Bool.or_true]
  cases decide (x.2.2[k] ≤ d) || decide (9007199254740992 < x.2.2[k]) <;> rfl

theorem may_run (c : List Seen) (hc : SmallC c) : (r06_May_T c).run = some (ctxB c) := by
  unfold r06_May_T ctxB
  simp only [Tree.run]
  rw [chain_loop (st := fun v => (r06_May_L3_step c v.1 v.2).run) c ctxG ctxN (fun i (g : Int × Option Str) => (4096 - g.1, (i : Int))) (fun i g => -1 ≤ g.1 ∧ g.1 ≤ 4096 ∧ g.2 = prevOf c i) (Sum.inl false : Bool ⊕ Unit) (.inr ()) (fun i g hi hI => by
    obtain ⟨g1, g2⟩ := g
    obtain ⟨hg0, hg, h2⟩ := hI
    simp only at hg0 hg h2
    subst h2
    have hlen := (hc.2 c[i] (List.getElem_mem hi)).2
    have hc1 := hc.1
    constructor
    · unfold r06_May_L3_step ctxG ctxN
      simp only [Tree.run, Int.ofNat_lt, hi, decide_true, cond_true, inb_nat, Int.toNat_natCast, getD_lt _ _ _ hi, prod_eta, r05Is_run _ (hc.2 c[i] (List.getElem_mem hi)).1, Option.bind_some]
      have e3 : decide (w64 (4096 - (4096 - g1)) < (c[i].2.2.length : Int)) = !decide ((c[i].2.2.length : Int) ≤ g1) := by
        rw [w64_in6 (by omega) (by omega), ← decide_not]; congr 1; rw [eq_iff_iff]; omega
      have e5 : w64 (4096 - g1 + (c[i].2.2.length : Int)) = 4096 - (g1 - (c[i].2.2.length : Int)) := (w64_in6 (by omega) (by omega)).trans (by omega)
      have e4 : decide ((c[i].2.2.length : Int) = 0) = decide (c[i].2.2.length = 0) := by rw [decide_eq_decide]; omega
      rw [e5, w64_i i (by omega), e3, e4, prev_ok c hc1 i hi, prev_lt c hc1 i hi]
      show _ = some (bif seenB c[i] && prevB (prevOf c i) c[i].1 && _ then _ else _)
      have inner := mayInner c c[i] (i : Int) (4096 - (g1 - (c[i].2.2.length : Int))) hlen
      unfold seenB
      generalize c[i] = x at *
      generalize prevB (prevOf c i) x.1 = pb
      generalize decide ((x.2.2.length : Int) ≤ g1) = rb
      generalize nameS x.1 = nb
      have f1 : decide (x.2.1 < 0) = !decide ((0 : Int) ≤ x.2.1) := by rw [← decide_not]; congr 1; rw [eq_iff_iff]; omega
      have f2 : decide ((9007199254740992 : Int) < x.2.1) = !decide (x.2.1 ≤ M53) := by rw [← decide_not]; congr 1; rw [eq_iff_iff]; unfold M53; omega
      rw [f1, f2]
      cases hq1 : decide ((0 : Int) ≤ x.2.1)
      · cases nb <;> cases pb <;> rfl
      cases hq2 : decide (x.2.1 ≤ M53)
      · cases nb <;> cases pb <;> rfl
      rw [inner (of_decide_eq_true hq1) (of_decide_eq_true hq2)]
      generalize (decide (x.2.1 = 0) && decide (x.2.2.length = 0)) = zb
      cases chain riseG (fun _ n => n) (x.2.1 + 1) x.2.2 <;> cases nb <;> cases pb <;> cases zb <;> cases rb <;> rfl
    · intro hgood
      unfold ctxG at hgood
      simp only [Bool.and_eq_true, decide_eq_true_eq] at hgood
      exact ⟨by show -1 ≤ g1 - _; omega, by show g1 - _ ≤ 4096; omega, prev_next c i hi⟩) (fun g _ => by unfold r06_May_L3_step; simp [Tree.run]) (4096, none) ⟨by omega, by omega, rfl⟩ (s0 := ((0 : Int), (0 : Int))) rfl]
  cases chain ctxG ctxN (4096, none) c <;> rfl

/-! What is known of a node. -/
/-! Does a context cover another one? -/
