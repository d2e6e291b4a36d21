/- The abstract machine as a function: code and calls, with fuel. What it comes to holds. From the evaluator to the calls of a program. What is to be shown of code, as a function that is reckoned out: loops and open branches stand as they are. -/
import Derived.Test.YtjkhncojgilbaaaGreatDoorEngP
import Derived.Scope
namespace Go.aT
open Go Go.RowKit
variable {P:Program} {T:aX} {base:Env} {w:World} {S:Nat->Prop} {m:aY} {M:Mem}
theorem bL.label {l:Nat} {Q:Exit->AS->Prop} {A:AS} (h:Q .normal A):bL P (.label l) Q A:=⟨fun _ _ _ _ _ hM hA=>wp_label (.here h hM hA)⟩
theorem bL.scope {c:Code} {Q:Exit->AS->Prop} {A:AS} (h:bL P c Q A) (hno:∀ l A',¬ Q (.goto l) A'):bL P (.scope c) Q A:=by
 refine ⟨fun base w S m a hM hA=>wp_scope_straight (Code.wp_mono ?_ (h.jI base w S m a hM hA))⟩
 intro e a' w' hl
 cases e with
 | goto l=>obtain ⟨A',S',m',h1,_⟩:=hl; exact absurd h1 (hno l A')
 | _=>exact hl
def allT:List Bool->Bool
 | []=>true
 | k::l=>match k with | true=>allT l | false=>false
theorem aG.of {l:List Bool} (h:allT l=true):aG l:=by
 induction l with
 | nil=>trivial
 | cons k l ih =>
  simp only [allT] at h
  split at h
  ·rw [aG.cons]; exact ⟨rfl,ih h⟩
  ·simp at h
structure FnI where
 code:Code
 nt:Nat
 rs:List ResultVar
abbrev Fns:=Nat->Option FnI
end Go.aT
namespace Go.aT
open Go Go.RowKit
variable {P:Program} {T:aX} {base:Env} {w:World} {S:Nat->Prop} {m:aY} {M:Mem}
def yY (P : Program) : Bool := P.funcs.toList.all fun fn => !(fn.name == "runtime.NumGoroutine")
theorem Ls (h : yY P = true) {f : Nat} {fn : Func} (hf : P.funcs[f]? = some fn) : (fn.name == "runtime.NumGoroutine") = false := by
 unfold yY at h
 rw [List.all_eq_true] at h
 have:=h fn (by have:=Array.mem_of_getElem? hf; simpa using this)
 simpa using this
def CJ:dD:=⟨aaq,aap⟩
theorem iX.via {f : FuncId} {fn : Func} {c : Code} (hf : P.funcs[f]? = some fn) (hb : fn.body = some c) (hname : (fn.name == "runtime.NumGoroutine") = false) {args : List AV} {r : CR} (h : iX P f args r)
  {w:World} {vs:Array Value} (hgl:GL w) (hsb:∀ b,S b->b<w.heap.size) (hr:lh w S [] vs args):Calls P f vs w (yP w S r):=by
 rcases h w S vs hgl hsb hr with h | ⟨v,w',h,_⟩
 ·exact h.2
 ·have hn : ¬ fn.name = "runtime.NumGoroutine" := by simpa using hname
  have:(callFunc f vs).run P w = .ok (.enter f vs) w:=by simp [callFunc,hf,hb,hn]
  rw [this] at h; cases h
theorem iX.bool {f : FuncId} {fn : Func} {c : Code} (hf : P.funcs[f]? = some fn) (hb : fn.body = some c) (hname : (fn.name == "runtime.NumGoroutine") = false) {args : List AV} {b : Bool} (h : iX P f args (.val (.bool b)))
  {w:World} {vs:Array Value} (hgl:GL w) (hsb:∀ b,S b->b<w.heap.size) (hr:lh w S [] vs args) {R:Ending->World->Prop} (hR:∀ w',Below w.heap.size w w'->R (.returned (.bool b)) w'):Calls P f vs w R:=by
 refine Calls.mono (h.via hf hb hname hgl hsb hr) ?_
 rintro e w' ⟨v,rfl,hbel,hres⟩
 have hv:v = .bool b:=by
  have hres:Rel w' (oD w w' S) [] v (.bool b):=hres
  cases hres; rfl
 subst hv
 exact hR w' hbel
end Go.aT
namespace Go.aT
open Go Go.RowKit
variable {P:Program} {T:aX} {base:Env} {w:World} {S:Nat->Prop} {m:aY} {M:Mem}
structure aj6 (ks:List Bool) (G:Prop):Prop where
 ks:aG ks
 goal:G
abbrev aj7:=Code->(Exit->AS->Prop)->AS->Prop
end Go.aT
