/- The abstract machine as a function: code and calls, with fuel. What it comes to holds. From the evaluator to the calls of a program. What is to be shown of code, as a function that is reckoned out: loops and open branches stand as they are. -/
import Derived.Test.YteoafkipoapjlaaGreatDoorEngP
import Derived.Scope
namespace Go.Eng
open Go Go.RowKit

variable {P : Program} {T : Tab} {base : Env} {w : World} {S : Nat → Prop} {m : Locs} {M : Mem}

theorem AWp.label {l : Nat} {Q : Exit → AS → Prop} {A : AS} (h : Q .normal A) : AWp P (.label l) Q A := ⟨fun _ _ _ _ _ hM hA => wp_label (.here h hM hA)⟩

/-- A scope through which the run goes without a jump. -/
theorem AWp.scope {c : Code} {Q : Exit → AS → Prop} {A : AS} (h : AWp P c Q A) (hno : ∀ l A', ¬ Q (.goto l) A') : AWp P (.scope c) Q A := by
  refine ⟨fun base w S m a hM hA => wp_scope_straight (Code.wp_mono ?_ (h.sem base w S m a hM hA))⟩
  intro e a' w' hl
  cases e with
  | goto l => obtain ⟨A', S', m', h1, _⟩ := hl; exact absurd h1 (hno l A')
  | _ => exact hl

def allT : List Bool → Bool
  | [] => true
  | k :: l => match k with | true => allT l | false => false
theorem AllT.of {l : List Bool} (h : allT l = true) : AllT l := by
  induction l with
  | nil => trivial
  | cons k l ih =>
    simp only [allT] at h
    split at h
    · rw [AllT.cons]; exact ⟨rfl, ih h⟩
    · simp at h

/-! Calls. -/

structure FnI where
  code : Code
  nt : Nat
  rs : List ResultVar

abbrev Fns := Nat → Option FnI

end Go.Eng

namespace Go.Eng
open Go Go.RowKit

variable {P : Program} {T : Tab} {base : Env} {w : World} {S : Nat → Prop} {m : Locs} {M : Mem}

def namesOk (P : Program) : Bool := P.funcs.toList.all fun fn => !(fn.name == "runtime.NumGoroutine")

theorem name_ok (h : namesOk P = true) {f : Nat} {fn : Func} (hf : P.funcs[f]? = some fn) : (fn.name == "runtime.NumGoroutine") = false := by
  unfold namesOk at h
  rw [List.all_eq_true] at h
  have := h fn (by have := Array.mem_of_getElem? hf; simpa using this)
  simpa using this

def noCall : Oracle := ⟨noPu, noMe⟩
theorem ACalls.via {f : FuncId} {fn : Func} {c : Code} (hf : P.funcs[f]? = some fn) (hb : fn.body = some c) (hname : (fn.name == "runtime.NumGoroutine") = false) {args : List AV} {r : CR} (h : ACalls P f args r)
    {w : World} {vs : Array Value} (hgl : GL w) (hsb : ∀ b, S b → b < w.heap.size) (hr : RelL w S [] vs args) : Calls P f vs w (CPost w S r) := by
  rcases h w S vs hgl hsb hr with h | ⟨v, w', h, _⟩
  · exact h.2
  · have hn : ¬ fn.name = "runtime.NumGoroutine" := by simpa using hname
    have : (callFunc f vs).run P w = .ok (.enter f vs) w := by simp [callFunc, hf, hb, hn]
    rw [this] at h; cases h

/-- A contract with a boolean answer, as a call. -/
theorem ACalls.bool {f : FuncId} {fn : Func} {c : Code} (hf : P.funcs[f]? = some fn) (hb : fn.body = some c) (hname : (fn.name == "runtime.NumGoroutine") = false) {args : List AV} {b : Bool} (h : ACalls P f args (.val (.bool b)))
    {w : World} {vs : Array Value} (hgl : GL w) (hsb : ∀ b, S b → b < w.heap.size) (hr : RelL w S [] vs args) {R : Ending → World → Prop} (hR : ∀ w', Below w.heap.size w w' → R (.returned (.bool b)) w') : Calls P f vs w R := by
  refine Calls.mono (h.via hf hb hname hgl hsb hr) ?_
  rintro e w' ⟨v, rfl, hbel, hres⟩
  have hv : v = .bool b := by
    have hres : Rel w' (NewS w w' S) [] v (.bool b) := hres
    cases hres; rfl
  subst hv
  exact hR w' hbel

end Go.Eng

namespace Go.Eng
open Go Go.RowKit

variable {P : Program} {T : Tab} {base : Env} {w : World} {S : Nat → Prop} {m : Locs} {M : Mem}

/-- A goal with what was asked on the way. -/
structure Asks (ks : List Bool) (G : Prop) : Prop where
  ks : AllT ks
  goal : G

/-- What stands as it is: loops and their like. -/
abbrev Leaf := Code → (Exit → AS → Prop) → AS → Prop
def leafOf (P : Program) : Leaf := fun c Q A => AWp P c Q A

def wpT (L : Leaf) (p : Prims) (T : Tab) (call : Oracle) : Code → (Exit → AS → Prop) → AS → Prop
  | .skip, Q, A => Q .normal A
  | .label _, Q, A => Q .normal A
  | .exit id, Q, A => Q (.exit id) A
  | .ret, Q, A => Q .ret A
  | .region _ ops false, Q, A => match aOps p T call ops.toList ops.toList ⟨A.ts, A.m, [], []⟩ with
    | ⟨ts, m, tg, []⟩ => Q .normal ⟨wipe ts tg, m, A.np⟩
    | ⟨ts, m, tg, ks⟩ => Asks ks (Q .normal ⟨wipe ts tg, m, A.np⟩)
  | .region _ ops true, Q, A => match drawOk ops with
    | false => False
    | true => match aOpsQ p T call ops.toList ops.toList ⟨A.ts, A.m, [], []⟩ with
      | ⟨ts, m, tg, []⟩ => Q .normal ⟨wipe ts tg, m, A.np⟩
      | ⟨ts, m, tg, ks⟩ => Asks ks (Q .normal ⟨wipe ts tg, m, A.np⟩)
  | .seq x y, Q, A => wpT L p T call x (thenQ (wpT L p T call y Q) Q) A
  | .cond c x y, Q, A => match opnd A.ts c with
    | .bool b => match b with
      | true => wpT L p T call x Q A
      | false => wpT L p T call y Q A
    | .nilB n => (n = 0 → wpT L p T call x Q A) ∧ wpT L p T call y Q A
    | _ => False
  | .block id c, Q, A => wpT L p T call c (blockQ id Q) A
  | .goto _, _, _ => False
  | .refuse _, _, _ => False
  | c, Q, A => L c Q A

theorem wpT_sound (hm : P.follows .mixedOrders = true) (hT : TabOk P T) {call : Oracle} (hcall : Sound P call) {p : Prims} (hp : p = std) {L : Leaf} (hL : L = leafOf P) : ∀ (c : Code) (Q : Exit → AS → Prop) (A : AS), wpT L p T call c Q A → AWp P c Q A := by
  subst hp hL
  intro c
  induction c with
  | skip => intro Q A h; exact .skip h
  | label l => intro Q A h; exact .label h
  | exit id => intro Q A h; exact .exit h
  | ret => intro Q A h; exact .ret h
  | region id ops d =>
    intro Q A h
    cases d with
    | false =>
      simp only [wpT] at h
      split at h
      · rename_i ts m tg hs
        exact AWp.region hT hcall hs trivial h
      · rename_i ts m tg ks _ hs
        exact AWp.region hT hcall hs h.ks h.goal
    | true =>
      simp only [wpT] at h
      split at h
      · exact h.elim
      · rename_i hd
        split at h
        · rename_i ts m tg hs
          exact AWp.regionDraw hm hT hcall hd hs trivial h
        · rename_i ts m tg ks _ hs
          exact AWp.regionDraw hm hT hcall hd hs h.ks h.goal
  | seq x y ihx ihy =>
    intro Q A h
    simp only [wpT] at h
    refine AWp.seq ((ihx _ _ h).mono ?_)
    intro e A' h'
    cases e with
    | normal => exact ihy _ _ h'
    | _ => exact h'
  | cond c x y ihx ihy =>
    intro Q A h
    simp only [wpT] at h
    split at h
    · rename_i b hb
      refine AWp.cond hb (fun hb => ?_) (fun hb => ?_)
      · subst hb; exact ihx _ _ h
      · subst hb; exact ihy _ _ h
    · rename_i n hb
      exact AWp.condN hb (fun e => ihx _ _ (h.1 e)) (ihy _ _ h.2)
    · exact h.elim
  | block id c ih => intro Q A h; exact AWp.block (ih _ _ h)
  | loop c ih => intro Q A h; exact h
  | scope c ih => intro Q A h; exact h
  | goto l => intro Q A h; exact h.elim
  | refuse s => intro Q A h; exact h.elim
  | rangeFunc f ps a b => intro Q A h; exact h

/-- A contract, by reckoning out what is to be shown. -/
theorem ACalls.ofT {f : FuncId} {fn : Func} {c : Code} (hf : P.funcs[f]? = some fn) (hb : fn.body = some c) (hn : namesOk P = true) (hm : P.follows .mixedOrders = true) (hT : TabOk P T) {call : Oracle} (hcall : Sound P call) {args : List AV} {r : CR}
    (h : ∀ (p : Prims) (L : Leaf), p = std → L = leafOf P → ArgsOk args → wpT L p T call c (PostOf T fn.results.toList r) ⟨catA args (und (fn.ntmps - lenA args)), [], 0⟩) : ACalls P f args r :=
  ACalls.of hT hf hb (name_ok hn hf) fun ha => wpT_sound hm hT hcall rfl rfl _ _ _ (h std _ rfl rfl ha)

end Go.Eng
