/- Laws in plain Lean: s33. -/
import Derived.Test.YtgpbegogphcabaaO33
namespace Go.Eng
open Go Go.Proofs Go.RowKit

/-! A net that nobody made. -/
theorem lenN_run (q : Str) : (net_Net_Len_nil_T q).run = some 0 := by
  unfold net_Net_Len_nil_T
  exact (run_bnd (a := false) rfl).trans ((run_t rfl).trans rfl)
theorem atN_run (q : Str) (k : Int) : (net_Net_at_nil_T q k).run = some (0, false, ()) := by
  unfold net_Net_at_nil_T
  exact (run_bnd (lenN_run q)).trans ((run_t rfl).trans rfl)
theorem sendNil_run (q b : Str) : (net_Net_Send_nil_T q b).run = some () := by
  unfold net_Net_Send_nil_T
  exact (run_bnd (a := false) rfl).trans ((run_f rfl).trans rfl)
theorem takeNil_run (q : Str) (k : Int) : (net_Net_Take_nil_T q k).run = some ([], false, ()) := by
  unfold net_Net_Take_nil_T
  exact (run_bnd (atN_run q k)).trans ((run_t rfl).trans rfl)
theorem twiceNil_run (q : Str) (k : Int) : (net_Net_Twice_nil_T q k).run = some false := by
  unfold net_Net_Twice_nil_T
  exact (run_bnd (atN_run q k)).trans ((run_f rfl).trans rfl)
theorem doNil_run (a : R33_Act) : (l33_do_nil_T a).run = some ([], false, ()) := by
  unfold l33_do_nil_T
  by_cases e1 : a.1 = 1
  · exact (run_t (decide_eq_true e1)).trans ((run_bnd (sendNil_run _ _)).trans rfl)
  refine (run_f (decide_eq_false e1)).trans ?_
  by_cases e2 : a.1 = 2
  · exact (run_t (decide_eq_true e2)).trans ((run_bnd (takeNil_run _ _)).trans rfl)
  refine (run_f (decide_eq_false e2)).trans ?_
  by_cases e3 : a.1 = 3
  · exact (run_t (decide_eq_true e3)).trans ((run_bnd (twiceNil_run _ _)).trans rfl)
  exact (run_f (decide_eq_false e3)).trans rfl
theorem allNil_run (q : Str) : (net_Net_All_nil_T q).run = some [] := by
  unfold net_Net_All_nil_T
  exact (run_bnd (a := false) rfl).trans ((run_t rfl).trans rfl)
theorem lanesNil_run : net_Net_Lanes_nil_T.run = some [] := by
  unfold net_Net_Lanes_nil_T
  exact (run_bnd (a := false) rfl).trans ((run_t rfl).trans rfl)
theorem lenE_run (q : Str) : (net_Net_Len__T q).run = some 0 := by
  unfold net_Net_Len__T
  exact (run_bnd (a := false) rfl).trans ((run_t rfl).trans rfl)
theorem atE_run (q : Str) (k : Int) : (net_Net_at__T q k).run = some (0, false, ()) := by
  unfold net_Net_at__T
  exact (run_bnd (lenE_run q)).trans ((run_t rfl).trans rfl)
theorem sendE_run (q b : Str) : (net_Net_Send__T q b).run = some () := by
  unfold net_Net_Send__T
  exact (run_bnd (a := false) rfl).trans ((run_f rfl).trans rfl)
theorem takeE_run (q : Str) (k : Int) : (net_Net_Take__T q k).run = some ([], false, ()) := by
  unfold net_Net_Take__T
  exact (run_bnd (atE_run q k)).trans ((run_t rfl).trans rfl)
theorem twiceE_run (q : Str) (k : Int) : (net_Net_Twice__T q k).run = some false := by
  unfold net_Net_Twice__T
  exact (run_bnd (atE_run q k)).trans ((run_f rfl).trans rfl)
theorem doE_run (a : R33_Act) : (l33_do__T a).run = some ([], false, ()) := by
  unfold l33_do__T
  by_cases e1 : a.1 = 1
  · exact (run_t (decide_eq_true e1)).trans ((run_bnd (sendE_run _ _)).trans rfl)
  refine (run_f (decide_eq_false e1)).trans ?_
  by_cases e2 : a.1 = 2
  · exact (run_t (decide_eq_true e2)).trans ((run_bnd (takeE_run _ _)).trans rfl)
  refine (run_f (decide_eq_false e2)).trans ?_
  by_cases e3 : a.1 = 3
  · exact (run_t (decide_eq_true e3)).trans ((run_bnd (twiceE_run _ _)).trans rfl)
  exact (run_f (decide_eq_false e3)).trans rfl
theorem allE_run (q : Str) : (net_Net_All__T q).run = some [] := by
  unfold net_Net_All__T
  exact (run_bnd (a := false) rfl).trans ((run_t rfl).trans rfl)
theorem lanesE_run : net_Net_Lanes__T.run = some [] := by
  unfold net_Net_Lanes__T
  exact (run_bnd (a := false) rfl).trans ((run_t rfl).trans rfl)
theorem netNobody_law (x : ElP l33_NetNobody_g.ps) (_ : okP l33_NetNobody_g.ps x) : (l33_NetNobody_g.f x).run = some true := by
  obtain ⟨a, _⟩ := x
  show (l33_NetNobody_T a).run = some true
  unfold l33_NetNobody_T
  have fin : ∀ {k : Bool → Tree Bool}, (∀ b, (k b).run = some b) → (Tree.bnd l33_awake_T k).run = some true := fun h => (run_bnd awake_run).trans (h true)
  rcases few_run [a] with hf | ⟨hf, _⟩
  · exact (run_bnd hf).trans ((run_t rfl).trans (fin fun _ => rfl))
  refine (run_bnd hf).trans ((run_f rfl).trans ((run_t rfl).trans ?_))
  refine (run_bnd (doNil_run a)).trans ((run_grd (lenN_run _)).trans ((run_grd (allNil_run _)).trans ((run_grd lanesNil_run).trans ((run_f rfl).trans ((run_t ?_).trans ?_)))))
  · decide
  refine (run_bnd (doE_run a)).trans ((run_grd (lenE_run _)).trans ((run_grd (allE_run _)).trans ((run_grd lanesE_run).trans ((run_f rfl).trans ((run_f ?_).trans (fin fun _ => rfl))))))
  decide

end Go.Eng

