/- Laws in plain Lean: e52. -/
import Derived.Test.YthmlpkdgmpbffaaGreatDoorX52
namespace Go.Eng
open Go Go.Proofs Go.RowKit

/-! Lists are the same as themselves. -/
theorem same_walk {α : Type} (l : List α) (st : Int → Tree (Int ⊕ (Bool ⊕ Unit))) (hl : l.length ≤ 1000000) (h : ∀ i, i < l.length → (st (i : Int)).run = some (.inl (w64 ((i : Int) + 1)))) (h0 : (st (l.length : Int)).run = some (.inr (.inr ()))) :
    loopF (fun v => (st v).run) 0 = some (.inr ()) :=
  loopF_run (S := fun i => (i : Int)) (n := l.length) (fun i hi => by rw [h i hi, xw64 i (by omega)]) h0 rfl
theorem both_t {n : Nat} {i : Nat} (h : i < n) : (decide ((i : Int) < (n : Int)) && decide ((i : Int) < (n : Int))) = true := by rw [decide_eq_true (by omega)]; rfl
theorem both_f (n : Nat) : (decide ((n : Int) < (n : Int)) && decide ((n : Int) < (n : Int))) = false := by rw [decide_eq_false (by omega)]; rfl
theorem sameInts_refl (l : List Int) (hl : l.length ≤ 1000000) : (r06_SameInts_T l l).run = some true := by
  have hw := same_walk l (fun v => r06_SameInts_L4_step l l v) hl (fun i hi => by
    unfold r06_SameInts_L4_step
    refine (run_t (both_t hi)).trans ?_
    refine (run_ask (xin (by omega) (by omega))).trans ?_
    refine (run_ask (xin (by omega) (by omega))).trans ?_
    exact run_f (by simp)) (by
    unfold r06_SameInts_L4_step
    exact run_f (both_f _))
  unfold r06_SameInts_T
  refine (run_f (by simp)).trans ?_
  exact (run_bnd (xloop hw)).trans rfl
def SmS (c : List Seen) : Prop := c.length ≤ 1000000 ∧ ∀ x ∈ c, x.2.2.length ≤ 1000000
theorem sameSeen_refl (c : List Seen) (hc : SmS c) : (r06_Same_T c c).run = some true := by
  have hw := same_walk c (fun v => r06_Same_L4_step c c v) hc.1 (fun i hi => by
    have hx := sameInts_refl c[i].2.2 (hc.2 _ (List.getElem_mem hi))
    have ha : inb (i : Int) c.length = true := xin (by omega) (by omega)
    unfold r06_Same_L4_step
    rw [Int.toNat_natCast, getD_lt _ _ _ hi, ha]
    refine (run_t (both_t hi)).trans ?_
    refine (run_ask rfl).trans ?_
    refine (run_ask rfl).trans ?_
    refine (run_ask (Bool.or_true _)).trans ?_
    refine (run_ask (Bool.or_true _)).trans ?_
    refine (run_ask (Bool.or_true _)).trans ?_
    refine (run_ask (Bool.or_true _)).trans ?_
    refine (run_grd hx).trans ?_
    exact run_f (by simp)) (by
    unfold r06_Same_L4_step
    exact run_f (both_f _))
  unfold r06_Same_T
  refine (run_f (by simp)).trans ?_
  exact (run_bnd (xloop hw)).trans rfl
theorem sibs_nil : (r07_SameSibs_T [] []).run = some true := Tree.runN_run (n := 5) (by kernel_rfl)
theorem sameObj_refl (c : List Seen) (hc : SmS c) : (r07_Same_T (c, []) (c, [])).run = some true := by
  unfold r07_Same_T
  refine (run_bnd (sameSeen_refl c hc)).trans ?_
  exact (run_grd sibs_nil).trans rfl
theorem sameCalls_refl (x : Call) (hc : SmS x.2.2.2.2.2.1) : (r45_SameCalls_T [x] [x]).run = some true := by
  have hw := same_walk [x] (fun v => r45_SameCalls_L4_step [x] [x] v) (by show 1 ≤ _; omega) (fun i hi => by
    have h1 : i = 0 := by have : i < 1 := hi; omega
    subst h1
    unfold r45_SameCalls_L4_step
    refine (run_t (both_t hi)).trans ?_
    refine (run_ask rfl).trans ?_
    refine (run_ask rfl).trans ?_
    refine Tree.run_both ?_ ?_
    · refine (run_grd (sameObj_refl _ hc)).trans ?_
      exact run_f (by simp)
    · refine (run_grd (sameObj_refl _ hc)).trans ?_
      exact run_f (by simp)) (by
    unfold r45_SameCalls_L4_step
    exact run_f (both_f _))
  unfold r45_SameCalls_T
  refine (run_f (by simp)).trans ?_
  exact (run_bnd (xloop hw)).trans rfl
def ctxE (e : Event) : List Seen := e.2.2.2.2.2.1.2.2.2.2.2.1
theorem sameEvents_refl (l : List Event) (hl : l.length ≤ 1000000) (hc : ∀ e ∈ l, SmS (ctxE e)) : (r45_SameEvents_T l l).run = some true := by
  have hw := same_walk l (fun v => r45_SameEvents_L4_step l l v) hl (fun i hi => by
    have hx := sameCalls_refl l[i].2.2.2.2.2.1 (hc _ (List.getElem_mem hi))
    have ha : inb (i : Int) l.length = true := xin (by omega) (by omega)
    unfold r45_SameEvents_L4_step
    rw [Int.toNat_natCast, getD_lt _ _ _ hi, ha]
    generalize l[i] = e at hx ⊢
    refine (run_t (both_t hi)).trans ?_
    refine (run_ask rfl).trans ?_
    refine (run_ask rfl).trans ?_
    refine Tree.run_both ?_ ?_
    · refine (run_grd hx).trans ?_
      exact run_f (by simp)
    · refine (run_grd hx).trans ?_
      exact run_f (by simp)) (by
    unfold r45_SameEvents_L4_step
    exact run_f (both_f _))
  unfold r45_SameEvents_T
  refine (run_f (by simp)).trans ?_
  exact (run_bnd (xloop hw)).trans rfl
def evTick : Event := (6, (([110, 49] : Str), ([], ([], ((-2), ((0, ([], ([], ([], ([], ([], 0)))))), (0, ([], ([], ([], ([], (0, ([], ([], ([], false)))))))))))))))
def lnTick : Str := [116, 105, 99, 107, 32, 110, 49, 32, 95, 32, 95, 32, 45, 50]
theorem awake52 : l52_awake_T.run = some true := by
  unfold l52_awake_T
  refine (run_bnd (a := lnTick) (Tree.runN_run (n := 40) (by kernel_rfl))).trans ?_
  refine (run_bnd (a := (evTick, 0, ())) (Tree.runN_run (n := 40) (by kernel_rfl))).trans ?_
  refine (run_bnd (a := ([], 2, 3, ())) (Tree.runN_run (n := 40) (by kernel_rfl))).trans ?_
  refine (run_bnd (a := ([97, 32, 98], true, ())) (Tree.runN_run (n := 40) (by kernel_rfl))).trans ?_
  refine (run_grd (sameEvents_refl [evTick] (by show 1 ≤ _; omega) (fun e he => by
    obtain rfl := List.mem_singleton.1 he
    exact ⟨Nat.zero_le _, fun _ h => absurd h List.not_mem_nil⟩))).trans ?_
  refine (run_grd (a := [97, 37, 50, 48, 98]) (Tree.runN_run (n := 40) (by kernel_rfl))).trans ?_
  refine (run_grd (a := lnTick ++ [10]) (Tree.runN_run (n := 40) (by kernel_rfl))).trans ?_
  refine (run_ask (by decide)).trans ?_
  show some _ = some true
  decide

end Go.Eng

