/- The abstract machine as a function: code and calls, with fuel. What it comes to holds. From the evaluator to the calls of a program. What is to be shown of code, as a function that is reckoned out: loops and open branches stand as they are. -/
import Derived.Test.YthmlpkdgmpbffaaGreatDoorEngP
import Derived.Scope
namespace Go.Eng
open Go Go.RowKit

variable {P : Program} {T : Tab} {base : Env} {w : World} {S : Nat → Prop} {m : Locs} {M : Mem}

theorem AWp.label {l : Nat} {Q : Exit → AS → Prop} {A : AS} (h : Q .normal A) : AWp P (.label l) Q A := ⟨fun _ _ _ _ _ hM hA => wp_label (.here h hM hA)⟩

/-- A scope through which the run goes without a jump. -/
theorem AWp.scope {c : Code} {Q : Exit → AS → Prop} {A : AS} (h : AWp P c Q A) (hno : ∀ l A', ¬ Q (.goto l) A') : AWp P (.scope c) Q A := by
  refine ⟨fun base w S m a hM hA => wp_scope_straight (Code.wp_mono ?_ (h.sem base w S m a hM hA))⟩
  intro e a' w' hl
  cases e with
  | goto l => obtain ⟨A', S', m', h1, _⟩ := hl; exact absurd h1 (hno l A')
  | _ => exact hl

def allT : List Bool → Bool
  | [] => true
  | k :: l => match k with | true => allT l | false => false
theorem AllT.of {l : List Bool} (h : allT l = true) : AllT l := by
  induction l with
  | nil => trivial
  | cons k l ih =>
    simp only [allT] at h
    split at h
    · rw [AllT.cons]; exact ⟨rfl, ih h⟩
    · simp at h

/-! Calls. -/

structure FnI where
  code : Code
  nt : Nat
  rs : List ResultVar

abbrev Fns := Nat → Option FnI

end Go.Eng

namespace Go.Eng
open Go Go.RowKit

variable {P : Program} {T : Tab} {base : Env} {w : World} {S : Nat → Prop} {m : Locs} {M : Mem}

def namesOk (P : Program) : Bool := P.funcs.toList.all fun fn => !(fn.name == "runtime.NumGoroutine")

theorem name_ok (h : namesOk P = true) {f : Nat} {fn : Func} (hf : P.funcs[f]? = some fn) : (fn.name == "runtime.NumGoroutine") = false := by
  unfold namesOk at h
  rw [List.all_eq_true] at h
  have := h fn (by have := Array.mem_of_getElem? hf; simpa using this)
  simpa using this

def noCall : Oracle := ⟨noPu, noMe⟩
theorem ACalls.via {f : FuncId} {fn : Func} {c : Code} (hf : P.funcs[f]? = some fn) (hb : fn.body = some c) (hname : (fn.name == "runtime.NumGoroutine") = false) {args : List AV} {r : CR} (h : ACalls P f args r)
    {w : World} {vs : Array Value} (hgl : GL w) (hsb : ∀ b, S b → b < w.heap.size) (hr : RelL w S [] vs args) : Calls P f vs w (CPost w S r) := by
  rcases h w S vs hgl hsb hr with h | ⟨v, w', h, _⟩
  · exact h.2
  · have hn : ¬ fn.name = "runtime.NumGoroutine" := by simpa using hname
    have : (callFunc f vs).run P w = .ok (.enter f vs) w := by simp [callFunc, hf, hb, hn]
    rw [this] at h; cases h

/-- A contract with a boolean answer, as a call. -/
theorem ACalls.bool {f : FuncId} {fn : Func} {c : Code} (hf : P.funcs[f]? = some fn) (hb : fn.body = some c) (hname : (fn.name == "runtime.NumGoroutine") = false) {args : List AV} {b : Bool} (h : ACalls P f args (.val (.bool b)))
    {w : World} {vs : Array Value} (hgl : GL w) (hsb : ∀ b, S b → b < w.heap.size) (hr : RelL w S [] vs args) {R : Ending → World → Prop} (hR : ∀ w', Below w.heap.size w w' → R (.returned (.bool b)) w') : Calls P f vs w R := by
  refine Calls.mono (h.via hf hb hname hgl hsb hr) ?_
  rintro e w' ⟨v, rfl, hbel, hres⟩
  have hv : v = .bool b := by
    have hres : Rel w' (NewS w w' S) [] v (.bool b) := hres
    cases hres; rfl
  subst hv
  exact hR w' hbel

end Go.Eng

namespace Go.Eng
open Go Go.RowKit

variable {P : Program} {T : Tab} {base : Env} {w : World} {S : Nat → Prop} {m : Locs} {M : Mem}

/-- A goal with what was asked on the way. -/
structure Asks (ks : List Bool) (G : Prop) : Prop where
  ks : AllT ks
  goal : G

/-- What stands as it is: loops and their like. -/
abbrev Leaf := Code → (Exit → AS → Prop) → AS → Prop
end Go.Eng
