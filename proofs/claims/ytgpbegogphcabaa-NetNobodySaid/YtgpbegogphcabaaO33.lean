/- Laws in plain Lean: o33. -/
import Derived.Test.YtgpbegogphcabaaN33
namespace Go.Eng
open Go Go.Proofs Go.RowKit

/-! awake, Few, and the law of NetApart. -/
theorem awake_run : l33_awake_T.run = some true := by
  have s1 : (net_Net_Send_T ([116] : Str) ([97] : Str) []).run = some ((), (((), ()), (([([116], [[97]])] : NM), ()))) := (send_run _ _ [] (by decide) (by decide)).trans rfl
  have s2 : (net_Net_Send_T ([117] : Str) ([98] : Str) ([([116], [[97]])] : NM)).run = some ((), (((), ()), (([([116], [[97]]), ([117], [[98]])] : NM), ()))) := (send_run _ _ _ (by decide) (by decide)).trans rfl
  have s3 : (net_Net_Send_T ([116] : Str) ([99] : Str) ([([116], [[97]]), ([117], [[98]])] : NM)).run = some ((), (((), ()), (([([116], [[97], [99]]), ([117], [[98]])] : NM), ()))) := (send_run _ _ _ (by decide) (by decide)).trans rfl
  have s4 : (net_Net_Twice_T ([116] : Str) (-1) ([([116], [[97], [99]]), ([117], [[98]])] : NM)).run = some (true, (((), ()), (([([116], [[97], [99], [99]]), ([117], [[98]])] : NM), ()))) := (twice_run _ _ _ (by decide) (by decide)).trans rfl
  have s5 : (net_Net_Take_T ([116] : Str) 3 ([([116], [[97], [99], [99]]), ([117], [[98]])] : NM)).run = some (((([97] : Str), (true, ())), (((), ()), (([([116], [[99], [99]]), ([117], [[98]])] : NM), ())))) := (take_run _ _ _ (by decide) (by decide)).trans rfl
  have s6 : (net_Net_Len_T ([([116], [[99], [99]]), ([117], [[98]])] : NM) ([116] : Str)).run = some (2 : Int) := (len_run _ _).trans rfl
  have s7 : (net_Net_All_T ([([116], [[99], [99]]), ([117], [[98]])] : NM) ([116] : Str)).run = some [([99] : Str), ([99] : Str)] := (all_run _ _ (by decide)).trans rfl
  have s8 : (r01_SameTexts_T [([99] : Str), ([99] : Str)] [([99] : Str), ([99] : Str)]).run = some true := sameTexts_run _ _ (by decide) rfl
  have s9 : (net_Net_Lanes_T ([([116], [[99], [99]]), ([117], [[98]])] : NM)).run = some [([116] : Str), ([117] : Str)] := (lanes_run _ (by decide)).trans rfl
  have s10 : (r01_SameTexts_T [([116] : Str), ([117] : Str)] [([116] : Str), ([117] : Str)]).run = some true := sameTexts_run _ _ (by decide) rfl
  unfold l33_awake_T
  refine (run_bnd (a := ((), (([] : List (Str × List Str)), (((), ()), ())))) rfl).trans ((run_f rfl).trans ?_)
  refine (run_bnd s1).trans ((run_bnd s2).trans ((run_bnd s3).trans ((run_bnd s4).trans ((run_bnd s5).trans ?_))))
  refine (run_grd s6).trans ((run_grd s7).trans ((run_grd s8).trans ((run_grd s9).trans ((run_grd s10).trans ?_))))
  rfl
theorem few_run (l : List R33_Act) : (r33_Few_T l).run = some false ∨ ((r33_Few_T l).run = some true ∧ l.length ≤ 60) := by
  obtain ⟨r, hr, hq⟩ := loopF_tot (st := fun v => (r33_Few_L2_step l v).run) (S := fun i => ((i : Nat) : Int)) (n := min l.length 60) (Q := fun a => a = .inl false ∨ a = .inr ()) (fun i hi => by
      have h1 : i < l.length := by omega
      have h2 : i < 60 := by omega
      have hb : inb (i : Int) l.length = true := by rw [inb_nat]; exact decide_eq_true h1
      unfold r33_Few_L2_step
      rw [show (Tree.run (.ite ((decide ((i : Int) < (l.length : Int))) && (decide ((i : Int) < 60))) _ _)) = _ from run_t (by rw [decide_eq_true (show (i : Int) < (l.length : Int) by omega), decide_eq_true (show (i : Int) < 60 by omega)]; rfl)]
      rw [run_ask hb, run_ask (by rw [hb, Bool.or_true])]
      cases hc : ((decide ((100 : Int) < ((l.getD (i : Int).toNat (dfl tR33_Act : R33_Act)).2.1.length : Int))) || (decide ((100 : Int) < ((l.getD (i : Int).toNat (dfl tR33_Act : R33_Act)).2.2.1.length : Int)))) with
      | true => rw [run_t rfl]; exact .inr ⟨_, rfl, .inl rfl⟩
      | false =>
        rw [run_f rfl]
        refine .inl ?_
        show some (Sum.inl (w64 ((i : Int) + 1))) = _
        rw [w64_nat i (by omega)]) (by
      unfold r33_Few_L2_step
      refine ⟨.inr (), ?_, .inr rfl⟩
      refine (run_f ?_).trans rfl
      by_cases h : l.length ≤ 60
      · rw [decide_eq_false (show ¬ ((min l.length 60 : Nat) : Int) < (l.length : Int) by omega)]; rfl
      · rw [decide_eq_false (show ¬ ((min l.length 60 : Nat) : Int) < 60 by omega), Bool.and_false]) rfl
  unfold r33_Few_T
  have hb : (Tree.loop (fun v => r33_Few_L2_step l v) 0).run = some r := hr
  rw [run_bnd hb]
  rcases hq with rfl | rfl
  · exact .inl rfl
  · show some (decide ((l.length : Int) ≤ 60)) = some false ∨ _
    by_cases h : l.length ≤ 60
    · exact .inr ⟨by show some (decide ((l.length : Int) ≤ 60)) = _; rw [decide_eq_true (by omega)], h⟩
    · exact .inl (by rw [decide_eq_false (by omega)])
def actA (l : List R33_Act) (i : Nat) : R33_Act := l.getD i (dfl tR33_Act : R33_Act)
def stA (l : List R33_Act) (lane : Str) : Nat → NM × NM
  | 0 => ([], [])
  | i + 1 => if (actA l i).2.1 = lane then ((doN (actA l i) (stA l lane i).1).2, (doN (actA l i) (stA l lane i).2).2) else ((doN (actA l i) (stA l lane i).1).2, (stA l lane i).2)
theorem stA_ok (l : List R33_Act) (lane : Str) (i : Nat) : NOk i (stA l lane i).1 ∧ NOk i (stA l lane i).2 ∧ gtM (stA l lane i).1 lane = gtM (stA l lane i).2 lane := by
  induction i with
  | zero => exact ⟨NOk.nil, NOk.nil, rfl⟩
  | succ i ih =>
    obtain ⟨h1, h2, h3⟩ := ih
    obtain ⟨a1, a2, a3⟩ := doN_lane (actA l i) h1
    obtain ⟨b1, b2, b3⟩ := doN_lane (actA l i) h2
    unfold stA
    by_cases e : (actA l i).2.1 = lane
    · rw [if_pos e]
      refine ⟨a3, b3, ?_⟩
      show gtM (doN _ _).2 lane = gtM (doN _ _).2 lane
      rw [a2 lane, b2 lane, if_pos e.symm, if_pos e.symm, e, h3]
    · rw [if_neg e]
      refine ⟨a3, h2.mono (Nat.le_succ _), ?_⟩
      show gtM (doN _ _).2 lane = gtM (stA l lane i).2 lane
      rw [a2 lane, if_neg (fun q => e q.symm)]; exact h3
theorem netApart_law (x : ElP l33_NetApart_g.ps) (_ : okP l33_NetApart_g.ps x) : (l33_NetApart_g.f x).run = some true := by
  obtain ⟨l, lane, _⟩ := x
  show (l33_NetApart_T l lane).run = some true
  unfold l33_NetApart_T
  rcases few_run l with hf | ⟨hf, hl⟩
  · exact (run_bnd hf).trans ((run_t rfl).trans ((run_bnd awake_run).trans rfl))
  refine (run_bnd hf).trans ?_
  cases hg : decide ((100 : Int) < (lane.length : Int)) with
  | true => exact (run_t rfl).trans ((run_bnd awake_run).trans rfl)
  | false =>
  refine (run_f rfl).trans ?_
  refine (run_bnd (a := ((), (([] : List (Str × List Str)), (((), ()), ())))) rfl).trans ((run_bnd (a := ((), (([] : List (Str × List Str)), (((), ()), ())))) rfl).trans ?_)
  have hloop : (Tree.loop (fun v => l33_NetApart_L5_step l lane v.1 v.2.1 v.2.2) (0, ([] : NM), ([] : NM))).run = some (.inr (stA l lane l.length)) := by
    show loopF (fun v : Int × NM × NM => (l33_NetApart_L5_step l lane v.1 v.2.1 v.2.2).run) (0, ([] : NM), ([] : NM)) = _
    refine loopF_run (S := fun i => (((i : Nat) : Int), (stA l lane i).1, (stA l lane i).2)) (n := l.length) (fun i hi => ?_) ?_ rfl
    · obtain ⟨h1, h2, h3⟩ := stA_ok l lane i
      have hb : inb (i : Int) l.length = true := by rw [inb_nat]; exact decide_eq_true hi
      have r1 := do_run (actA l i) (stA l lane i).1 (Nat.le_trans (h1.all _) (by omega)) (Nat.le_trans h1.len (by omega))
      have r2 := do_run (actA l i) (stA l lane i).2 (Nat.le_trans (h2.all _) (by omega)) (Nat.le_trans h2.len (by omega))
      show (l33_NetApart_L5_step l lane (i : Int) (stA l lane i).1 (stA l lane i).2).run = _
      unfold l33_NetApart_L5_step
      simp only [Int.toNat_natCast]
      refine (run_t (decide_eq_true (by omega))).trans ((run_ask hb).trans ((run_bnd r1).trans ((run_ask hb).trans ?_)))
      by_cases e : (actA l i).2.1 = lane
      · have e' : (!((l.getD i (dfl tR33_Act : R33_Act)).2.1 == lane)) = false := by
          show (!((actA l i).2.1 == lane)) = false
          rw [e, beq_self_eq_true]; rfl
        refine (run_f e').trans ((run_ask hb).trans ((run_bnd r2).trans ?_))
        have hd : (doN (actA l i) (stA l lane i).1).1 = (doN (actA l i) (stA l lane i).2).1 := by
          rw [(doN_lane (actA l i) h1).1, (doN_lane (actA l i) h2).1, e, h3]
        refine (run_f ?_).trans ?_
        · show ((!((doN (actA l i) (stA l lane i).1).1.1 == (doN (actA l i) (stA l lane i).2).1.1)) || (!((doN (actA l i) (stA l lane i).1).1.2 == (doN (actA l i) (stA l lane i).2).1.2))) = false
          rw [hd, beq_self_eq_true, beq_self_eq_true]; rfl
        · show some (Sum.inl (w64 ((i : Int) + 1), (doN (actA l i) (stA l lane i).1).2, (doN (actA l i) (stA l lane i).2).2)) = some (Sum.inl (((i + 1 : Nat) : Int), (stA l lane (i + 1)).1, (stA l lane (i + 1)).2))
          rw [w64_nat i (by omega)]
          rw [show stA l lane (i + 1) = ((doN (actA l i) (stA l lane i).1).2, (doN (actA l i) (stA l lane i).2).2) by rw [stA, if_pos e]]
      · have e' : (!((l.getD i (dfl tR33_Act : R33_Act)).2.1 == lane)) = true := by
          show (!((actA l i).2.1 == lane)) = true
          rw [beq_eq_false_iff_ne.2 e]; rfl
        refine (run_t e').trans ?_
        show some (Sum.inl (w64 ((i : Int) + 1), (doN (actA l i) (stA l lane i).1).2, (stA l lane i).2)) = some (Sum.inl (((i + 1 : Nat) : Int), (stA l lane (i + 1)).1, (stA l lane (i + 1)).2))
        rw [w64_nat i (by omega)]
        rw [show stA l lane (i + 1) = ((doN (actA l i) (stA l lane i).1).2, (stA l lane i).2) by rw [stA, if_neg e]]
    · show (l33_NetApart_L5_step l lane (l.length : Int) (stA l lane l.length).1 (stA l lane l.length).2).run = _
      unfold l33_NetApart_L5_step
      exact (run_f (decide_eq_false (by omega))).trans rfl
  obtain ⟨h1, h2, h3⟩ := stA_ok l lane l.length
  refine (run_bnd hloop).trans ?_
  show Tree.run (Tree.bnd (net_Net_All_T (stA l lane l.length).1 lane) _) = _
  refine (run_bnd (all_run _ _ (Nat.le_trans (h1.all _) (by omega)))).trans ((run_bnd (all_run _ _ (Nat.le_trans (h2.all _) (by omega)))).trans ((run_bnd (sameTexts_run _ _ (Nat.le_trans (h1.all _) (by omega)) h3)).trans ((run_grd awake_run).trans rfl)))

end Go.Eng

