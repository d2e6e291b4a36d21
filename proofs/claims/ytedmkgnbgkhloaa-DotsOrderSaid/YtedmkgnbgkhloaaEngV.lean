/- Functions without a body. -/
import Derived.Test.YtedmkgnbgkhloaaEngU
import Derived.Laws.Externs
import Derived.Lib.Bytealg
namespace Go.Eng
open Go Go.RowKit

variable {P : Program} {T : Tab} {base : Env} {w : World} {S : Nat → Prop} {m : Locs} {M : Mem}

theorem args2 {vs : Array Value} {a b : AV} (h : RelL w S m vs [a, b]) : ∃ x y, vs = #[x, y] ∧ Rel w S m x a ∧ Rel w S m y b := by
  obtain ⟨h1, h2⟩ := h
  have hs : vs.size = 2 := h1
  refine ⟨vs[0]'(by omega), vs[1]'(by omega), ?_, ?_, ?_⟩
  · apply Array.ext
    · simpa using hs
    · intro i h1 h2
      have : i = 0 ∨ i = 1 := by simp at h2; omega
      rcases this with rfl | rfl <;> rfl
  · have := h2 0 (by simp [lenA])
    simpa [hs, nth, Array.getD_eq_getD_getElem?] using this
  · have := h2 1 (by simp [lenA])
    simpa [hs, nth, Array.getD_eq_getD_getElem?] using this

theorem compare_three (a b : List UInt8) : Lib.compareBytes a b = -1 ∨ Lib.compareBytes a b = 0 ∨ Lib.compareBytes a b = 1 := by
  induction a generalizing b with
  | nil => cases b <;> simp [Lib.compareBytes]
  | cons x a ih =>
    cases b with
    | nil => simp [Lib.compareBytes]
    | cons y b =>
      simp only [Lib.compareBytes]
      split
      · simp
      · split
        · simp
        · exact ih b

/-- strings.Compare's inner part. -/
theorem ACalls.cmpstring {f : FuncId} {fn : Func} (hf : P.funcs[f]? = some fn) (hname : (fn.name == "runtime.NumGoroutine") = false) (hb : fn.body.isNone = true) (hn : Extern.findNext fn = none)
    (he : Extern.find fn = some Extern.BytealgCompare.compare) (a b : List UInt8) : ACalls P f [.str a, .str b] (.val (.int .i64 (Lib.compareBytes a b))) := by
  intro w S vs hsb hr
  obtain ⟨x, y, rfl, hx, hy⟩ := args2 hr
  cases hx; cases hy
  refine .inr ⟨.int .i64 (Lib.compareBytes a b), w, ?_, _, rfl, Below.refl _ _, ?_⟩
  · rw [run_callFunc_extern hf hname hb hn he, Lib.run_compareString]
    rfl
  · show Rel w _ [] _ (.int .i64 _)
    refine .int _ _ _ ?_
    rcases compare_three a b with h | h | h <;> rw [h] <;> decide

end Go.Eng
