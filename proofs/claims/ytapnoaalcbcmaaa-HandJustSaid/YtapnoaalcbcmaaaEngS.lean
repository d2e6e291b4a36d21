/- The abstract machine as a function: code and calls, with fuel. What it comes to holds. From the evaluator to the calls of a program. What is to be shown of code, as a function that is reckoned out: loops and open branches stand as they are. -/
import Derived.Test.YtapnoaalcbcmaaaEngP
import Derived.Scope
namespace Go.Eng
open Go Go.RowKit

variable {P : Program} {T : Tab} {base : Env} {w : World} {S : Nat → Prop} {m : Locs} {M : Mem}

theorem AWp.label {l : Nat} {Q : Exit → AS → Prop} {A : AS} (h : Q .normal A) : AWp P (.label l) Q A := ⟨fun _ _ _ _ _ hM hA => wp_label (.here h hM hA)⟩

/-- A scope through which the run goes without a jump. -/
theorem AWp.scope {c : Code} {Q : Exit → AS → Prop} {A : AS} (h : AWp P c Q A) (hno : ∀ l A', ¬ Q (.goto l) A') : AWp P (.scope c) Q A := by
  refine ⟨fun base w S m a hM hA => wp_scope_straight (Code.wp_mono ?_ (h.sem base w S m a hM hA))⟩
  intro e a' w' hl
  cases e with
  | goto l => obtain ⟨A', S', m', h1, _⟩ := hl; exact absurd h1 (hno l A')
  | _ => exact hl

def allT : List Bool → Bool
  | [] => true
  | k :: l => match k with | true => allT l | false => false
theorem AllT.of {l : List Bool} (h : allT l = true) : AllT l := by
  induction l with
  | nil => trivial
  | cons k l ih =>
    simp only [allT] at h
    split at h
    · rw [AllT.cons]; exact ⟨rfl, ih h⟩
    · simp at h

/-- Rounds of a loop. -/
def loopN (f : AS → Option (Exit × AS)) : Nat → AS → Option (Exit × AS)
  | 0, _ => none
  | n + 1, A => match f A with
    | some (.normal, A') => loopN f n A'
    | r => r

def regN (np : Nat) (s : St) : Option (Exit × AS) := match allT s.ks with | true => some (.normal, ⟨wipe s.ts s.tg, s.m, np⟩) | false => none

def runC (p : Prims) (T : Tab) (call : Oracle) (fuel : Nat) : Code → AS → Option (Exit × AS)
  | .skip, A => some (.normal, A)
  | .label _, A => some (.normal, A)
  | .exit id, A => some (.exit id, A)
  | .ret, A => some (.ret, A)
  | .region _ ops false, A => regN A.np (aOps p T call ops.toList ops.toList ⟨A.ts, A.m, [], []⟩)
  | .region _ ops true, A => match drawOk ops with
    | true => regN A.np (aOpsQ p T call ops.toList ops.toList ⟨A.ts, A.m, [], []⟩)
    | false => none
  | .seq x y, A => match runC p T call fuel x A with
    | some (.normal, A') => runC p T call fuel y A'
    | r => r
  | .cond c x y, A => match opnd A.ts c with
    | .bool true => runC p T call fuel x A
    | .bool false => runC p T call fuel y A
    | _ => none
  | .block id c, A => match runC p T call fuel c A with
    | some (.exit id', A') => match Nat.beq id' id with | true => some (.normal, A') | false => some (.exit id', A')
    | r => r
  | .loop c, A => loopN (runC p T call fuel c) fuel A
  | .scope c, A => match runC p T call fuel c A with
    | some (.goto _, _) => none
    | r => r
  | _, _ => none

theorem loopN_sound {c : Code} {f : AS → Option (Exit × AS)} (hf : ∀ A e A', f A = some (e, A') → AWp P c (fun e' A'' => e' = e ∧ A'' = A') A) {n : Nat} {A : AS} {e : Exit} {A' : AS} (h : loopN f n A = some (e, A')) :
    AWp P (.loop c) (fun e' A'' => e' = e ∧ A'' = A') A := by
  refine AWp.loop (fun n B => loopN f n B = some (e, A')) n h ?_
  intro n B hB
  cases n with
  | zero => simp [loopN] at hB
  | succ n =>
    simp only [loopN] at hB
    cases hfB : f B with
    | none => rw [hfB] at hB; simp at hB
    | some r =>
      obtain ⟨e1, B1⟩ := r
      rw [hfB] at hB
      refine (hf B e1 B1 hfB).mono ?_
      rintro e' B' ⟨rfl, rfl⟩
      cases e' with
      | normal => exact ⟨n, Nat.lt_succ_self n, hB⟩
      | _ => injection hB with hB; injection hB with h1 h2; exact ⟨h1, h2⟩

theorem runC_sound (hm : P.follows .mixedOrders = true) (hT : TabOk P T) {call : Oracle} (hcall : Sound P call) {fuel : Nat} : ∀ (c : Code) (A : AS) (e : Exit) (A' : AS), runC std T call fuel c A = some (e, A') → AWp P c (fun e' A'' => e' = e ∧ A'' = A') A := by
  intro c
  induction c with
  | skip => intro A e A' h; cases h; exact .skip ⟨rfl, rfl⟩
  | label l => intro A e A' h; cases h; exact .label ⟨rfl, rfl⟩
  | exit id => intro A e A' h; cases h; exact .exit ⟨rfl, rfl⟩
  | ret => intro A e A' h; cases h; exact .ret ⟨rfl, rfl⟩
  | region id ops d =>
    intro A e A' h
    cases d with
    | false =>
      simp only [runC, regN] at h
      split at h
      · rename_i hk
        cases h
        exact AWp.region hT hcall rfl (AllT.of hk) ⟨rfl, rfl⟩
      · simp at h
    | true =>
      simp only [runC] at h
      split at h
      · rename_i hd
        simp only [regN] at h
        split at h
        · rename_i hk
          cases h
          exact AWp.regionDraw hm hT hcall hd rfl (AllT.of hk) ⟨rfl, rfl⟩
        · simp at h
      · simp at h
  | seq x y ihx ihy =>
    intro A e A' h
    simp only [runC] at h
    refine AWp.seq ?_
    cases hx : runC std T call fuel x A with
    | none => rw [hx] at h; simp at h
    | some r =>
      obtain ⟨e1, A1⟩ := r
      rw [hx] at h
      refine (ihx A e1 A1 hx).mono ?_
      rintro e' B' ⟨rfl, rfl⟩
      cases e' with
      | normal => exact ihy _ _ _ h
      | _ => injection h with h; injection h with h1 h2; exact ⟨h1, h2⟩
  | cond c x y ihx ihy =>
    intro A e A' h
    simp only [runC] at h
    split at h
    · rename_i hc
      exact AWp.cond hc (fun _ => ihx _ _ _ h) (fun h => by simp at h)
    · rename_i hc
      exact AWp.cond hc (fun h => by simp at h) (fun _ => ihy _ _ _ h)
    · simp at h
  | block id c ih =>
    intro A e A' h
    simp only [runC] at h
    refine AWp.block ?_
    cases hx : runC std T call fuel c A with
    | none => rw [hx] at h; simp at h
    | some r =>
      obtain ⟨e1, A1⟩ := r
      rw [hx] at h
      refine (ih A e1 A1 hx).mono ?_
      rintro e' B' ⟨rfl, rfl⟩
      cases e' with
      | exit id' =>
        simp only at h
        split at h
        · rename_i hb
          have hb := Nat.eq_of_beq_eq_true hb
          cases h
          show if id' = id then _ else _
          rw [if_pos hb]; exact ⟨rfl, rfl⟩
        · rename_i hb
          have hb : id' ≠ id := fun e => by rw [e, Nat.beq_refl] at hb; simp at hb
          cases h
          show if id' = id then _ else _
          rw [if_neg hb]; exact ⟨rfl, rfl⟩
      | _ => injection h with h; injection h with h1 h2; exact ⟨h1, h2⟩
  | loop c ih =>
    intro A e A' h
    exact loopN_sound ih h
  | scope c ih =>
    intro A e A' h
    simp only [runC] at h
    cases hx : runC std T call fuel c A with
    | none => rw [hx] at h; simp at h
    | some r =>
      obtain ⟨e1, A1⟩ := r
      rw [hx] at h
      have hne : ∀ l, e1 ≠ .goto l := fun l e => by subst e; simp at h
      have h : e1 = e ∧ A1 = A' := by
        cases e1 with
        | goto l => exact absurd rfl (hne l)
        | _ => injection h with h; injection h with h1 h2; exact ⟨h1, h2⟩
      obtain ⟨rfl, rfl⟩ := h
      exact AWp.scope (ih A _ _ hx) fun l B h => hne l h.1.symm
  | goto l => intro A e A' h; simp [runC] at h
  | refuse s => intro A e A' h; simp [runC] at h
  | rangeFunc f ps a b => intro A e A' h; simp [runC] at h

/-! Calls. -/

structure FnI where
  code : Code
  nt : Nat
  rs : List ResultVar

abbrev Fns := Nat → Option FnI

def resOf (T : Tab) (A : AS) (rs : List ResultVar) : Option CR :=
  match allT (retKs T A rs) with
  | false => none
  | true => match rs with
    | [r] => match (aRes1 T A r).v with
      | .own b n => match blk A.m b with
        | .rows e sz n' c => match Nat.beq n n' with
          | true => some (.fresh e sz n c)
          | false => none
        | _ => none
      | v => some (.val (borrow A.m v))
    | rs => some (.val (.tup (retVs T A rs)))

/-- Calls, so deep. -/
def callN (T : Tab) (fs : Fns) (call : Oracle) (fuel : Nat) : Nat → Oracle
  | 0 => call
  | d + 1 => tblO fun p f args => match call.pu p f args with
    | some r => some r
    | none => match fs f with
      | none => none
      | some ⟨c, nt, rs⟩ => match runC p T (callN T fs call fuel d) fuel c ⟨catA args (und (nt - lenA args)), [], 0⟩ with
        | some (.ret, A) => match resOf T A rs with | some r => some ⟨r, []⟩ | none => none
        | some (.normal, A) => match resOf T A rs with | some r => some ⟨r, []⟩ | none => none
        | _ => none

/-- What a function of a program is. -/
def FnsOk (P : Program) (fs : Fns) : Prop := ∀ f c nt rs, fs f = some ⟨c, nt, rs⟩ → ∃ fn : Func, P.funcs[f]? = some fn ∧ fn.body = some c ∧ (fn.name == "runtime.NumGoroutine") = false ∧ fn.ntmps = nt ∧ fn.results.toList = rs

theorem resOf_post {A : AS} {rs : List ResultVar} {r : CR} (h : resOf T A rs = some r) : PostR T rs A r := by
  unfold resOf at h
  split at h
  · simp at h
  rename_i hk
  have hk := AllT.of hk
  split at h
  · rename_i r1 _
    split at h
    · rename_i b n hv
      split at h
      · rename_i e sz n' c hb
        split at h
        · rename_i hn
          have hn := Nat.eq_of_beq_eq_true hn
          subst hn
          cases h
          exact ⟨hk, .inr ⟨r1, b, n, c, rfl, hv, hb, Nat.le_refl _, fun _ _ _ _ => rfl⟩⟩
        · simp at h
      · simp at h
    · cases h
      exact ⟨hk, Le.refl _⟩
  · rename_i hne
    cases h
    refine ⟨hk, ?_⟩
    cases rs with
    | nil => exact Le.refl _
    | cons r1 rs =>
      cases rs with
      | nil => exact absurd rfl (hne r1)
      | cons r2 rs => exact Le.refl _

theorem callN_sound (hm : P.follows .mixedOrders = true) (hT : TabOk P T) {fs : Fns} (hfs : FnsOk P fs) {call : Oracle} (hcall : Sound P call) {fuel : Nat} : ∀ d, Sound P (callN T fs call fuel d) := by
  intro d
  induction d with
  | zero => exact hcall
  | succ d ih =>
    refine Sound.tbl ?_
    intro f args r ks h hks
    split at h
    · rename_i r' hr
      injection h with h
      exact hcall.pu f args r ks (hr.trans (congrArg some h)) hks
    rename_i hno
    split at h
    · simp at h
    rename_i c nt rs hf
    obtain ⟨fn, h1, h2, h3, h4, h5⟩ := hfs f c nt rs hf
    subst h4 h5
    refine ACalls.of hT h1 h2 h3 fun _ => ?_
    split at h
    · rename_i A hA
      split at h
      · rename_i r' hr
        cases h
        refine (runC_sound hm hT ih _ _ _ _ hA).mono ?_
        rintro e' A' ⟨rfl, rfl⟩
        exact resOf_post hr
      · simp at h
    · rename_i A hA
      split at h
      · rename_i r' hr
        cases h
        refine (runC_sound hm hT ih _ _ _ _ hA).mono ?_
        rintro e' A' ⟨rfl, rfl⟩
        exact resOf_post hr
      · simp at h
    · simp at h

end Go.Eng

namespace Go.Eng
open Go Go.RowKit

variable {P : Program} {T : Tab} {base : Env} {w : World} {S : Nat → Prop} {m : Locs} {M : Mem}

def fnsOf (P : Program) : Fns := fun f => match P.funcs[f]? with
  | none => none
  | some fn => match fn.body with
    | none => none
    | some c => some ⟨c, fn.ntmps, fn.results.toList⟩

def namesOk (P : Program) : Bool := P.funcs.toList.all fun fn => !(fn.name == "runtime.NumGoroutine")

theorem name_ok (h : namesOk P = true) {f : Nat} {fn : Func} (hf : P.funcs[f]? = some fn) : (fn.name == "runtime.NumGoroutine") = false := by
  unfold namesOk at h
  rw [List.all_eq_true] at h
  have := h fn (by have := Array.mem_of_getElem? hf; simpa using this)
  simpa using this

theorem fnsOf_ok (h : namesOk P = true) : FnsOk P (fnsOf P) := by
  intro f c nt rs hf
  unfold fnsOf at hf
  split at hf
  · simp at hf
  rename_i fn hfn
  split at hf
  · simp at hf
  rename_i c' hc
  cases hf
  exact ⟨fn, hfn, hc, name_ok h hfn, rfl, rfl⟩

def noCall : Oracle := ⟨noPu, noMe⟩
theorem noCall_sound : Sound P noCall := ⟨fun _ _ _ _ h => by simp [noCall, noPu] at h, fun _ _ _ _ h => by simp [noCall, noMe] at h⟩

theorem ACalls.via {f : FuncId} {fn : Func} {c : Code} (hf : P.funcs[f]? = some fn) (hb : fn.body = some c) (hname : (fn.name == "runtime.NumGoroutine") = false) {args : List AV} {r : CR} (h : ACalls P f args r)
    {w : World} {vs : Array Value} (hgl : GL w) (hsb : ∀ b, S b → b < w.heap.size) (hr : RelL w S [] vs args) : Calls P f vs w (CPost w S r) := by
  rcases h w S vs hgl hsb hr with h | ⟨v, w', h, _⟩
  · exact h.2
  · have hn : ¬ fn.name = "runtime.NumGoroutine" := by simpa using hname
    have : (callFunc f vs).run P w = .ok (.enter f vs) w := by simp [callFunc, hf, hb, hn]
    rw [this] at h; cases h

/-- A contract with a boolean answer, as a call. -/
theorem ACalls.bool {f : FuncId} {fn : Func} {c : Code} (hf : P.funcs[f]? = some fn) (hb : fn.body = some c) (hname : (fn.name == "runtime.NumGoroutine") = false) {args : List AV} {b : Bool} (h : ACalls P f args (.val (.bool b)))
    {w : World} {vs : Array Value} (hgl : GL w) (hsb : ∀ b, S b → b < w.heap.size) (hr : RelL w S [] vs args) {R : Ending → World → Prop} (hR : ∀ w', Below w.heap.size w w' → R (.returned (.bool b)) w') : Calls P f vs w R := by
  refine Calls.mono (h.via hf hb hname hgl hsb hr) ?_
  rintro e w' ⟨v, rfl, hbel, hres⟩
  have hv : v = .bool b := by
    have hres : Rel w' (NewS w w' S) [] v (.bool b) := hres
    cases hres; rfl
  subst hv
  exact hR w' hbel

end Go.Eng

namespace Go.Eng
open Go Go.RowKit

variable {P : Program} {T : Tab} {base : Env} {w : World} {S : Nat → Prop} {m : Locs} {M : Mem}

/-- All of what was asked. -/
def AllP : List Bool → Prop
  | [] => True
  | k :: l => match k with | true => AllP l | false => False
/-- What was asked, as a list. -/
def anyF : List Bool → Bool
  | [] => true
  | k :: l => match k, l with
    | k, [] => k
    | k, l => k && anyF l

/-- A goal with what was asked on the way. -/
structure Asks (ks : List Bool) (G : Prop) : Prop where
  ks : AllT ks
  goal : G

/-- What stands as it is: loops and their like. -/
abbrev Leaf := Code → (Exit → AS → Prop) → AS → Prop
def leafOf (P : Program) : Leaf := fun c Q A => AWp P c Q A

def wpT (L : Leaf) (p : Prims) (T : Tab) (call : Oracle) : Code → (Exit → AS → Prop) → AS → Prop
  | .skip, Q, A => Q .normal A
  | .label _, Q, A => Q .normal A
  | .exit id, Q, A => Q (.exit id) A
  | .ret, Q, A => Q .ret A
  | .region _ ops false, Q, A => match aOps p T call ops.toList ops.toList ⟨A.ts, A.m, [], []⟩ with
    | ⟨ts, m, tg, []⟩ => Q .normal ⟨wipe ts tg, m, A.np⟩
    | ⟨ts, m, tg, ks⟩ => Asks ks (Q .normal ⟨wipe ts tg, m, A.np⟩)
  | .region _ ops true, Q, A => match drawOk ops with
    | false => False
    | true => match aOpsQ p T call ops.toList ops.toList ⟨A.ts, A.m, [], []⟩ with
      | ⟨ts, m, tg, []⟩ => Q .normal ⟨wipe ts tg, m, A.np⟩
      | ⟨ts, m, tg, ks⟩ => Asks ks (Q .normal ⟨wipe ts tg, m, A.np⟩)
  | .seq x y, Q, A => wpT L p T call x (thenQ (wpT L p T call y Q) Q) A
  | .cond c x y, Q, A => match opnd A.ts c with
    | .bool b => match b with
      | true => wpT L p T call x Q A
      | false => wpT L p T call y Q A
    | .nilB n => (n = 0 → wpT L p T call x Q A) ∧ wpT L p T call y Q A
    | _ => False
  | .block id c, Q, A => wpT L p T call c (blockQ id Q) A
  | .goto _, _, _ => False
  | .refuse _, _, _ => False
  | c, Q, A => L c Q A

theorem wpT_sound (hm : P.follows .mixedOrders = true) (hT : TabOk P T) {call : Oracle} (hcall : Sound P call) {p : Prims} (hp : p = std) {L : Leaf} (hL : L = leafOf P) : ∀ (c : Code) (Q : Exit → AS → Prop) (A : AS), wpT L p T call c Q A → AWp P c Q A := by
  subst hp hL
  intro c
  induction c with
  | skip => intro Q A h; exact .skip h
  | label l => intro Q A h; exact .label h
  | exit id => intro Q A h; exact .exit h
  | ret => intro Q A h; exact .ret h
  | region id ops d =>
    intro Q A h
    cases d with
    | false =>
      simp only [wpT] at h
      split at h
      · rename_i ts m tg hs
        exact AWp.region hT hcall hs trivial h
      · rename_i ts m tg ks _ hs
        exact AWp.region hT hcall hs h.ks h.goal
    | true =>
      simp only [wpT] at h
      split at h
      · exact h.elim
      · rename_i hd
        split at h
        · rename_i ts m tg hs
          exact AWp.regionDraw hm hT hcall hd hs trivial h
        · rename_i ts m tg ks _ hs
          exact AWp.regionDraw hm hT hcall hd hs h.ks h.goal
  | seq x y ihx ihy =>
    intro Q A h
    simp only [wpT] at h
    refine AWp.seq ((ihx _ _ h).mono ?_)
    intro e A' h'
    cases e with
    | normal => exact ihy _ _ h'
    | _ => exact h'
  | cond c x y ihx ihy =>
    intro Q A h
    simp only [wpT] at h
    split at h
    · rename_i b hb
      refine AWp.cond hb (fun hb => ?_) (fun hb => ?_)
      · subst hb; exact ihx _ _ h
      · subst hb; exact ihy _ _ h
    · rename_i n hb
      exact AWp.condN hb (fun e => ihx _ _ (h.1 e)) (ihy _ _ h.2)
    · exact h.elim
  | block id c ih => intro Q A h; exact AWp.block (ih _ _ h)
  | loop c ih => intro Q A h; exact h
  | scope c ih => intro Q A h; exact h
  | goto l => intro Q A h; exact h.elim
  | refuse s => intro Q A h; exact h.elim
  | rangeFunc f ps a b => intro Q A h; exact h

/-- A contract, by reckoning out what is to be shown. -/
theorem ACalls.ofT {f : FuncId} {fn : Func} {c : Code} (hf : P.funcs[f]? = some fn) (hb : fn.body = some c) (hn : namesOk P = true) (hm : P.follows .mixedOrders = true) (hT : TabOk P T) {call : Oracle} (hcall : Sound P call) {args : List AV} {r : CR}
    (h : ∀ (p : Prims) (L : Leaf), p = std → L = leafOf P → ArgsOk args → wpT L p T call c (PostOf T fn.results.toList r) ⟨catA args (und (fn.ntmps - lenA args)), [], 0⟩) : ACalls P f args r :=
  ACalls.of hT hf hb (name_ok hn hf) fun ha => wpT_sound hm hT hcall rfl rfl _ _ _ (h std _ rfl rfl ha)

end Go.Eng
