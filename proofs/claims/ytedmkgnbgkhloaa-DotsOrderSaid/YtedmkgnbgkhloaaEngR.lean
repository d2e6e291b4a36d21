/- From the evaluator to the calls of a program. -/
import Derived.Test.YtedmkgnbgkhloaaEngQ
namespace Go.Eng
open Go Go.RowKit

variable {P : Program} {T : Tab} {base : Env} {w : World} {S : Nat → Prop} {m : Locs} {M : Mem}

def fnsOf (P : Program) : Fns := fun f => match P.funcs[f]? with
  | none => none
  | some fn => match fn.body with
    | none => none
    | some c => some ⟨c, fn.ntmps, fn.results.toList⟩

def namesOk (P : Program) : Bool := P.funcs.toList.all fun fn => !(fn.name == "runtime.NumGoroutine")

theorem name_ok (h : namesOk P = true) {f : Nat} {fn : Func} (hf : P.funcs[f]? = some fn) : (fn.name == "runtime.NumGoroutine") = false := by
  unfold namesOk at h
  rw [List.all_eq_true] at h
  have := h fn (by have := Array.mem_of_getElem? hf; simpa using this)
  simpa using this

theorem fnsOf_ok (h : namesOk P = true) : FnsOk P (fnsOf P) := by
  intro f c nt rs hf
  unfold fnsOf at hf
  split at hf
  · simp at hf
  rename_i fn hfn
  split at hf
  · simp at hf
  rename_i c' hc
  cases hf
  exact ⟨fn, hfn, hc, name_ok h hfn, rfl, rfl⟩

def noCall : Oracle := ⟨noPu, noMe⟩
theorem noCall_sound : Sound P noCall := ⟨fun _ _ _ _ h => by simp [noCall, noPu] at h, fun _ _ _ _ h => by simp [noCall, noMe] at h⟩

theorem ACalls.via {f : FuncId} {fn : Func} {c : Code} (hf : P.funcs[f]? = some fn) (hb : fn.body = some c) (hname : (fn.name == "runtime.NumGoroutine") = false) {args : List AV} {r : CR} (h : ACalls P f args r)
    {w : World} {vs : Array Value} (hsb : ∀ b, S b → b < w.heap.size) (hr : RelL w S [] vs args) : Calls P f vs w (CPost w S r) := by
  rcases h w S vs hsb hr with h | ⟨v, w', h, _⟩
  · exact h.2
  · have hn : ¬ fn.name = "runtime.NumGoroutine" := by simpa using hname
    have : (callFunc f vs).run P w = .ok (.enter f vs) w := by simp [callFunc, hf, hb, hn]
    rw [this] at h; cases h

/-- A contract with a boolean answer, as a call. -/
theorem ACalls.bool {f : FuncId} {fn : Func} {c : Code} (hf : P.funcs[f]? = some fn) (hb : fn.body = some c) (hname : (fn.name == "runtime.NumGoroutine") = false) {args : List AV} {b : Bool} (h : ACalls P f args (.val (.bool b)))
    {w : World} {vs : Array Value} (hsb : ∀ b, S b → b < w.heap.size) (hr : RelL w S [] vs args) {R : Ending → World → Prop} (hR : ∀ w', Below w.heap.size w w' → R (.returned (.bool b)) w') : Calls P f vs w R := by
  refine Calls.mono (h.via hf hb hname hsb hr) ?_
  rintro e w' ⟨v, rfl, hbel, hres⟩
  have hv : v = .bool b := by
    have hres : Rel w' (NewS w w' S) [] v (.bool b) := hres
    cases hres; rfl
  subst hv
  exact hR w' hbel

end Go.Eng
