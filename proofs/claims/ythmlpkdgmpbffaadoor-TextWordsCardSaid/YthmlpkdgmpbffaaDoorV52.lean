/- Laws in plain Lean: v52. -/
import Derived.Test.YthmlpkdgmpbffaaDoorE52
namespace Go.Eng
open Go Go.Proofs Go.RowKit

theorem textWords_law (x : ElP l52_TextWords_g.ps) (_ : okP l52_TextWords_g.ps x) : (l52_TextWords_g.f x).run = some true := by
  obtain ⟨s, w, _⟩ := x
  show (l52_TextWords_T s w).run = _
  unfold l52_TextWords_T
  by_cases hc : ((decide ((200 : Int) < (s.length : Int))) || (decide ((200 : Int) < (w.length : Int)))) = true
  · exact (run_t hc).trans ((run_bnd awake52).trans rfl)
  · have hc := Bool.not_eq_true _ ▸ hc
    refine (run_f hc).trans ?_
    simp only [Bool.or_eq_false_iff, decide_eq_false_iff_not] at hc
    have hl := wordS_len s
    refine (run_bnd (read_word_run w (by omega))).trans ?_
    refine (run_bnd (rread_word_run w (by omega))).trans ?_
    refine (run_bnd (word_run s (by omega))).trans ?_
    refine (run_bnd (read_word_run (wordS s) (by omega))).trans ?_
    refine (run_bnd (word_run s (by omega))).trans ?_
    refine (run_bnd (rword_run s (by omega))).trans ?_
    refine (run_grd awake52).trans ?_
    rw [read_of_word]
    show some _ = some true
    simp

end Go.Eng

