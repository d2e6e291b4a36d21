/- Trees: what code comes to, as plain functions with loops; the evaluator that reads code as a tree. -/
import Derived.Test.YtapnoaalcbcmaaaEngVd
import Derived.Test.YtapnoaalcbcmaaaEngPb
import Derived.Test.YtapnoaalcbcmaaaEngPa
namespace Go.Eng
open Go Go.RowKit

/-! Trees. -/
inductive Tree : Type → Type 1 where
  | ret {α : Type} (a : α) : Tree α
  | fail {α : Type} : Tree α
  | ite {α : Type} (c : Bool) (t e : Tree α) : Tree α
  | bnd {α β : Type} (t : Tree α) (k : α → Tree β) : Tree β
  | grd {α β : Type} (g : Bool) (t : Tree α) (d : α) (k : α → Tree β) : Tree β
  | sum {α β γ : Type} (s : α ⊕ β) (k : α → Tree γ) (l : β → Tree γ) : Tree γ
  | loop {σ α : Type} (step : σ → Tree (σ ⊕ α)) (s : σ) : Tree α
  | both {α : Type} (t e : Tree α) : Tree α

/-! Loops, without a bound. -/
inductive LoopR {σ α : Type} (f : σ → Option (σ ⊕ α)) : σ → α → Prop where
  | more {s s' : σ} {a : α} (h : f s = some (.inl s')) (r : LoopR f s' a) : LoopR f s a
  | done {s : σ} {a : α} (h : f s = some (.inr a)) : LoopR f s a

theorem LoopR.unique {σ α : Type} {f : σ → Option (σ ⊕ α)} {s : σ} {a b : α} (h : LoopR f s a) (k : LoopR f s b) : a = b := by
  induction h with
  | more h _ ih => cases k with
    | more h' k => rw [h] at h'; cases h'; exact ih k
    | done h' => rw [h] at h'; cases h'
  | done h => cases k with
    | more h' k => rw [h] at h'; cases h'
    | done h' => rw [h] at h'; cases h'; rfl

open Classical in
noncomputable def loopF {σ α : Type} (f : σ → Option (σ ⊕ α)) (s : σ) : Option α :=
  if h : ∃ a, LoopR f s a then some (Classical.choose h) else none

theorem loopF_some {σ α : Type} {f : σ → Option (σ ⊕ α)} {s : σ} {a : α} : loopF f s = some a ↔ LoopR f s a := by
  unfold loopF
  split
  · rename_i h
    constructor
    · intro e; injection e with e; subst e; exact Classical.choose_spec h
    · intro k; rw [(Classical.choose_spec h).unique k]
  · rename_i h
    exact ⟨(fun e => by cases e), fun k => absurd ⟨_, k⟩ h⟩

def loopStep {σ α : Type} (k : σ → Option α) : σ ⊕ α → Option α
  | .inl s => k s
  | .inr a => some a
theorem loopF_eq {σ α : Type} (f : σ → Option (σ ⊕ α)) (s : σ) : loopF f s = (f s).bind (loopStep (loopF f)) := by
  apply Option.ext
  intro a
  rw [loopF_some]
  constructor
  · intro h
    cases h with
    | more h r => rw [h]; exact loopF_some.2 r
    | done h => rw [h]; rfl
  · intro h
    cases hf : f s with
    | none => rw [hf] at h; cases h
    | some x =>
      rw [hf] at h
      cases x with
      | inl s' => exact .more hf (loopF_some.1 h)
      | inr b => cases h; exact .done hf

def loopK {σ α : Type} (f : σ → Option (σ ⊕ α)) : Nat → σ → Option α
  | 0, _ => none
  | n + 1, s => match f s with
    | some (.inl s') => loopK f n s'
    | some (.inr a) => some a
    | none => none

open Classical in
noncomputable def Tree.run : {α : Type} → Tree α → Option α
  | _, .ret a => some a
  | _, .fail => none
  | _, .ite c t e => bif c then t.run else e.run
  | _, .bnd t k => t.run.bind fun a => (k a).run
  | _, .grd g t d k => bif g && t.run.isNone then none else (k (t.run.getD d)).run
  | _, .sum s k l => match s with | .inl a => (k a).run | .inr b => (l b).run
  | _, .loop step s => loopF (fun s => (step s).run) s
  | _, .both t e => if t.run = e.run then t.run else none

/-- The same, of so many rounds of each loop. -/
def Tree.runN (n : Nat) : {α : Type} → Tree α → Option α
  | _, .ret a => some a
  | _, .fail => none
  | _, .ite c t e => bif c then t.runN n else e.runN n
  | _, .bnd t k => match t.runN n with | some a => (k a).runN n | none => none
  | _, .grd _ t _ k => match t.runN n with | some a => (k a).runN n | none => none
  | _, .sum s k l => match s with | .inl a => (k a).runN n | .inr b => (l b).runN n
  | _, .loop step s => loopK (fun s => (step s).runN n) n s
  | _, .both _ _ => none

theorem loopK_R {σ α : Type} {f g : σ → Option (σ ⊕ α)} (h : ∀ s x, f s = some x → g s = some x) : ∀ (n : Nat) (s : σ) (a : α), loopK f n s = some a → LoopR g s a := by
  intro n
  induction n with
  | zero => intro s a h; cases h
  | succ n ih =>
    intro s a hl
    simp only [loopK] at hl
    split at hl
    · rename_i hf; exact .more (h _ _ hf) (ih _ _ hl)
    · rename_i hf; cases hl; exact .done (h _ _ hf)
    · cases hl

theorem Tree.runN_run {n : Nat} {α : Type} {t : Tree α} {a : α} (h : t.runN n = some a) : t.run = some a := by
  induction t with
  | ret b => exact h
  | fail => cases h
  | ite c t e iht ihe =>
    simp only [Tree.runN, Tree.run] at h ⊢
    cases c
    · exact ihe h
    · exact iht h
  | bnd t k iht ihk =>
    simp only [Tree.runN, Tree.run] at h ⊢
    split at h
    · rename_i b hb; rw [iht hb]; exact ihk b h
    · cases h
  | grd g t d k iht ihk =>
    simp only [Tree.runN, Tree.run] at h ⊢
    split at h
    · rename_i b hb; rw [iht hb]; simp; exact ihk b h
    · cases h
  | sum s k l ihk ihl =>
    cases s with
    | inl a => exact ihk a h
    | inr b => exact ihl b h
  | loop step s ih =>
    simp only [Tree.runN, Tree.run] at h ⊢
    exact loopF_some.2 (loopK_R (fun s x hx => ih s hx) _ _ _ h)
  | both t e _ _ => cases h

def Tree.bind : {α β : Type} → Tree α → (α → Tree β) → Tree β
  | _, _, .ret a, f => f a
  | _, _, .fail, _ => .fail
  | _, _, .ite c t e, f => .ite c (t.bind f) (e.bind f)
  | _, _, .bnd t k, f => .bnd t fun a => (k a).bind f
  | _, _, .grd g t d k, f => .grd g t d fun a => (k a).bind f
  | _, _, .sum s k l, f => .sum s (fun a => (k a).bind f) (fun b => (l b).bind f)
  | _, _, .loop step s, f => .bnd (.loop step s) f
  | _, _, .both t e, f => .both (t.bind f) (e.bind f)

/-- A tree that nowhere goes two ways at once. -/
def Tree.pl : {α : Type} → Tree α → Prop
  | _, .ret _ => True
  | _, .fail => True
  | _, .ite _ t e => t.pl ∧ e.pl
  | _, .bnd _ k => ∀ a, (k a).pl
  | _, .grd _ _ _ k => ∀ a, (k a).pl
  | _, .sum _ k l => (∀ a, (k a).pl) ∧ ∀ b, (l b).pl
  | _, .loop _ _ => True
  | _, .both _ _ => False

theorem Tree.run_bind {α β : Type} {t : Tree α} (hp : t.pl) (f : α → Tree β) : (t.bind f).run = t.run.bind fun a => (f a).run := by
  induction t with
  | ret a => rfl
  | fail => rfl
  | ite c t e iht ihe => simp only [Tree.bind, Tree.run]; cases c; exact ihe hp.2 f; exact iht hp.1 f
  | bnd t k iht ihk =>
    simp only [Tree.bind, Tree.run]
    cases t.run with
    | none => rfl
    | some a => exact ihk a (hp a) f
  | grd g t d k iht ihk =>
    simp only [Tree.bind, Tree.run]
    cases g && t.run.isNone with
    | true => rfl
    | false => exact ihk _ (hp _) f
  | sum s k l ihk ihl =>
    cases s with
    | inl a => exact ihk a (hp.1 a) f
    | inr b => exact ihl b (hp.2 b) f
  | loop step s ih => rfl
  | both t e => exact hp.elim

theorem Tree.pl_bind {α β : Type} {t : Tree α} (hp : t.pl) {f : α → Tree β} (hf : ∀ a, (f a).pl) : (t.bind f).pl := by
  induction t with
  | ret a => exact hf a
  | fail => trivial
  | ite c t e iht ihe => exact ⟨iht hp.1 hf, ihe hp.2 hf⟩
  | bnd t k iht ihk => exact fun a => ihk a (hp a) hf
  | grd g t d k iht ihk => exact fun a => ihk a (hp a) hf
  | sum s k l ihk ihl => exact ⟨fun a => ihk a (hp.1 a) hf, fun b => ihl b (hp.2 b) hf⟩
  | loop step s ih => exact hf
  | both t e => exact hp.elim

/-- All that a tree may come to is of Q. -/
def Tree.wp : {α : Type} → Tree α → (α → Prop) → Prop
  | _, .ret a, Q => Q a
  | _, .fail, _ => False
  | _, .ite c t e, Q => bif c then t.wp Q else e.wp Q
  | _, .bnd t k, Q => ∃ a, t.run = some a ∧ (k a).wp Q
  | _, .grd g t d k, Q => (g && t.run.isNone) = false ∧ (k (t.run.getD d)).wp Q
  | _, .sum s k l, Q => match s with | .inl a => (k a).wp Q | .inr b => (l b).wp Q
  | _, .loop step s, Q => ∃ a, loopF (fun s => (step s).run) s = some a ∧ Q a
  | _, .both t e, Q => t.wp Q ∧ e.wp Q

theorem Tree.wp_bind {α β : Type} {t : Tree α} {f : α → Tree β} {Q : β → Prop} : (t.bind f).wp Q ↔ t.wp fun a => (f a).wp Q := by
  induction t with
  | ret a => exact Iff.rfl
  | fail => exact Iff.rfl
  | ite c t e iht ihe => cases c; exact ihe; exact iht
  | bnd t k iht ihk => exact ⟨fun ⟨a, h1, h2⟩ => ⟨a, h1, (ihk a).1 h2⟩, fun ⟨a, h1, h2⟩ => ⟨a, h1, (ihk a).2 h2⟩⟩
  | grd g t d k iht ihk => exact ⟨fun ⟨h1, h2⟩ => ⟨h1, (ihk _).1 h2⟩, fun ⟨h1, h2⟩ => ⟨h1, (ihk _).2 h2⟩⟩
  | sum s k l ihk ihl => cases s with
    | inl a => exact ihk a
    | inr b => exact ihl b
  | loop step s ih => exact Iff.rfl
  | both t e iht ihe => exact ⟨fun ⟨h1, h2⟩ => ⟨iht.1 h1, ihe.1 h2⟩, fun ⟨h1, h2⟩ => ⟨iht.2 h1, ihe.2 h2⟩⟩

theorem Tree.wp_mono {α : Type} {t : Tree α} {Q R : α → Prop} (h : t.wp Q) (hr : ∀ a, Q a → R a) : t.wp R := by
  induction t with
  | ret a => exact hr _ h
  | fail => exact h
  | ite c t e iht ihe => cases c; exact ihe h hr; exact iht h hr
  | bnd t k iht ihk => obtain ⟨a, h1, h2⟩ := h; exact ⟨a, h1, ihk a h2 hr⟩
  | grd g t d k iht ihk => exact ⟨h.1, ihk _ h.2 hr⟩
  | sum s k l ihk ihl => cases s with
    | inl a => exact ihk a h hr
    | inr b => exact ihl b h hr
  | loop step s ih => obtain ⟨a, h1, h2⟩ := h; exact ⟨a, h1, hr a h2⟩
  | both t e iht ihe => exact ⟨iht h.1 hr, ihe h.2 hr⟩

theorem Tree.run_wp {α : Type} {t : Tree α} {a : α} (h : t.run = some a) : t.wp (fun b => b = a) := by
  induction t with
  | ret b => cases h; rfl
  | fail => cases h
  | ite c t e iht ihe => cases c; exact ihe h; exact iht h
  | bnd t k iht ihk =>
    simp only [Tree.run] at h
    cases hb : t.run with
    | none => rw [hb] at h; cases h
    | some b => rw [hb] at h; exact ⟨b, hb, ihk b h⟩
  | grd g t d k iht ihk =>
    simp only [Tree.run] at h
    cases hg : g && t.run.isNone with
    | true => rw [hg] at h; cases h
    | false => rw [hg] at h; exact ⟨hg, ihk _ h⟩
  | sum s k l ihk ihl => cases s with
    | inl a => exact ihk a h
    | inr b => exact ihl b h
  | loop step s ih => exact ⟨a, h, rfl⟩
  | both t e iht ihe =>
    simp only [Tree.run] at h
    split at h
    · rename_i e1; exact ⟨iht h, ihe (e1 ▸ h)⟩
    · cases h

theorem Tree.wp_run {α : Type} {t : Tree α} (hp : t.pl) {Q : α → Prop} (h : t.wp Q) : ∃ a, t.run = some a ∧ Q a := by
  induction t with
  | ret b => exact ⟨b, rfl, h⟩
  | fail => exact h.elim
  | ite c t e iht ihe => cases c; exact ihe hp.2 h; exact iht hp.1 h
  | bnd t k iht ihk =>
    obtain ⟨b, h1, h2⟩ := h
    simp only [Tree.run, h1]
    exact ihk b (hp b) h2
  | grd g t d k iht ihk =>
    obtain ⟨h1, h2⟩ := h
    simp only [Tree.run, h1]
    exact ihk _ (hp _) h2
  | sum s k l ihk ihl => cases s with
    | inl a => exact ihk a (hp.1 a) h
    | inr b => exact ihl b (hp.2 b) h
  | loop step s ih => exact h
  | both t e => exact hp.elim

theorem Tree.run_both {α : Type} {t e : Tree α} {a : α} (h : t.run = some a) (k : e.run = some a) : (Tree.both t e).run = some a := by
  simp only [Tree.run, h, k, if_true]

/-- What was asked on the way. -/
def asksT {α : Type} : List Bool → Tree α → Tree α
  | [], t => t
  | k :: l, t => .ite k (asksT l t) .fail
theorem asksT_pl {α : Type} {ks : List Bool} {t : Tree α} (h : t.pl) : (asksT ks t).pl := by
  induction ks with
  | nil => exact h
  | cons k l ih => exact ⟨ih, trivial⟩
theorem asksT_run {α : Type} {ks : List Bool} {t : Tree α} {a : α} (h : (asksT ks t).run = some a) : AllT ks ∧ t.run = some a := by
  induction ks with
  | nil => exact ⟨trivial, h⟩
  | cons k l ih =>
    simp only [asksT, Tree.run] at h
    cases k with
    | false => cases h
    | true => obtain ⟨h1, h2⟩ := ih h; exact ⟨AllT.cons.2 ⟨rfl, h1⟩, h2⟩

/-! Contracts as trees. -/
structure CallT where
  α : Type
  t : Tree α
  r : α → CR
  d : α
structure CallM where
  α : Type
  t : Tree α
  r : α → R
structure OrT where
  pu : Nat → List AV → Option CallT
  me : Nat → List AV → Mem → Option CallM
  lp : Nat → AS → Option (Tree (Exit × AS))
  fz : Nat → List Pre

/-- As the elder table. -/
noncomputable def OrT.old (o : OrT) : Oracle where
  pu := fun _ id args => match o.pu id args with
    | some c => some ⟨c.r (c.t.run.getD c.d), [c.t.run.isSome]⟩
    | none => none
  me := fun _ id args M => match o.me id args M with
    | some c => match c.t.run with
      | some a => some (c.r a)
      | none => some (bad M)
    | none => none

structure SoundT (P : Program) (o : OrT) : Prop where
  pu : ∀ id args c a, o.pu id args = some c → c.t.run = some a → ACalls P id args (c.r a)
  me : ∀ id args M c a, o.me id args M = some c → c.t.run = some a → AllT (c.r a).ks → SCalls P id args M (c.r a)

theorem SoundT.old {P : Program} {o : OrT} (h : SoundT P o) : Sound P o.old := by
  refine ⟨fun id args r ks h1 h2 => ?_, fun id args M r h1 h2 => ?_⟩
  · simp only [OrT.old] at h1
    split at h1
    · rename_i c hc
      cases h1
      have h2 : c.t.run.isSome = true := h2
      obtain ⟨a, ha⟩ := Option.isSome_iff_exists.1 h2
      rw [ha]
      exact h.pu _ _ _ _ hc ha
    · cases h1
  · simp only [OrT.old] at h1
    split at h1
    · rename_i c hc
      split at h1
      · rename_i a ha; cases h1; exact h.me _ _ _ _ _ hc ha h2
      · cases h1; exact (not_bad h2).elim
    · cases h1

/-! One operation. -/
def aCallR (m : Mem) (oo : Bool) (ks : List Bool) : CR → R
  | .val v => match oo with
    | true => ⟨v, m, ks, none⟩
    | false => match flatR v with
      | true => ⟨v, m, ks, none⟩
      | false => bad m
  | .fresh e sz n c => match oo with
    | true => ⟨.own (lenM m) n, snocM m (.rows e sz n c), ks, none⟩
    | false => bad m
  | .freshT e u l => match orB oo (flatT u) with
    | true => ⟨.ownT (lenM m), snocM m (.trows e u l), ks, none⟩
    | false => bad m
  | .valN _ u l => match flatT u with
    | true => ⟨.tsl u l false, m, ks, none⟩
    | false => bad m

theorem aCallP_eq (p : Prims) (call : Oracle) (m : Mem) (id : Nat) (bargs : List AV) (oo : Bool) : aCallP p call m id bargs oo = match call.pu p id bargs with | some c => aCallR m oo c.ks c.r | none => bad m := by
  unfold aCallP
  cases call.pu p id bargs with
  | none => rfl
  | some c => obtain ⟨r, ks⟩ := c; cases r <;> rfl

def okT (s : St) : Tree St := asksT s.ks (.ret ⟨s.ts, s.m, s.tg, []⟩)

def puT (p : Prims) (s : St) (C : Chain) (dst : Option Nat) (oo : Bool) : Option CallT → Tree St
  | none => .fail
  | some c => match C with
    | [] => .bnd c.t fun a => match aCallR s.m oo [] (c.r a) with | ⟨v, m, ks, inv⟩ => okT (lay s [] dst v m ks inv)
    | x :: C => match chainVal p s.ts (x :: C) with
      | none => .fail
      | some g => .grd g c.t c.d fun a => match aCallR s.m oo [] (c.r a) with
        | ⟨v, _, ks, _⟩ => match v with
          | .own _ _ => .fail
          | .ownT _ => .fail
          | v => okT (lay s (x :: C) dst v s.m (impAll p g ks) none)

def meT (s : St) (C : Chain) (dst : Option Nat) (c : CallM) : Tree St :=
  match C with
  | [] => .bnd c.t fun a => match c.r a with | ⟨v, m, ks, inv⟩ => okT (lay s [] dst v m ks inv)
  | _ :: _ => .fail

def callT (p : Prims) (o : OrT) (s : St) (C : Chain) (dst : Option Nat) (f : AV) (args : List AV) : Tree St :=
  match f with
  | .fn (.func id) first cap => match o.me id (catA first (catA args cap)) s.m with
    | some c => meT s C dst c
    | none => puT p s C dst (allOut (catA first (catA args cap))) (o.pu id (borrows s.m (catA first (catA args cap))))
  | .clo id first cap => puT p s C dst (allOut args) (o.pu id (catA first (catA (borrows s.m args) cap)))
  | _ => .fail

/-- Operations that never come to an end. -/
def deadOp : Op → Bool
  | .makeInterface .. => true
  | .panic .. => true
  | _ => false

def stepT0 (p : Prims) (T : Tab) (o : OrT) (all : List Oper) (s : St) (op : Oper) : Tree St :=
  match op.op with
  | .call ⟨.value f, args, _⟩ => match chainOf all s.tg op.guard with
    | none => .fail
    | some C => match useOk s.tg C op.op.operands.toList with
      | false => .fail
      | true => callT p o s C op.dst (opnd s.ts f) (opnds s.ts args.toList)
  | _ => okT (aOper p T noCall all s op)
/-- What a map is whose values hold maps: its entries, and the inner maps. -/
abbrev Fam : Type := List (List UInt8 × (Int × (List UInt8 × Int))) × List (List (List UInt8 × Int))
/-- What is looked up in a map whose values hold maps: is it there, and what comes of it. -/
def famLk (T : Tab) (ts : List AV) (m : Mem) : Op → Option (Bool × AV × AV)
  | .lookup t x k ok => match famTy T t, opnd ts x, opnd ts k with
    | true, .mv a b l, .str kk => match castM a b .str viewT l with
      | some l => some ((getM .str viewT l kk).isSome, okV ok true (famW ((getM .str viewT l kk).getD (0, [], []))), okV ok false famN)
      | none => none
    | true, .mp i, .str kk => match blk m i with
      | .fam X _ => some ((getM .str famU X kk).isSome, okV ok true (famV i ((getM .str famU X kk).getD (0, [], 0))), okV ok false famN)
      | _ => none
    | _, _, _ => none
  | _ => none
def stepF (p : Prims) (T : Tab) (o : OrT) (all : List Oper) (s : St) (op : Oper) : Tree St :=
  match famLk T s.ts s.m op.op with
  | some (c, v1, v2) => match op.guard, useOk s.tg [] op.op.operands.toList with
    | none, true => .ite c (okT (lay s [] op.dst v1 s.m [] none)) (okT (lay s [] op.dst v2 s.m [] none))
    | _, _ => .fail
  | none => stepT0 p T o all s op
def stepT (p : Prims) (T : Tab) (o : OrT) (all : List Oper) (s : St) (op : Oper) : Tree St :=
  match deadOp op.op with
  | true => .fail
  | false => stepF p T o all s op

def opsT (p : Prims) (T : Tab) (o : OrT) (all : List Oper) : List Oper → St → Tree St
  | [], s => .ret s
  | op :: l, s => (stepT p T o all s op).bind (opsT p T o all l)

/-! Of a region that draws its order: all operations must be quiet. -/
def puQ (p : Prims) (s : St) (C : Chain) (dst : Option Nat) (oo : Bool) : Option CallT → Tree St
  | none => .fail
  | some c => match C with
    | [] => .bnd c.t fun a => match aCallR s.m oo [] (c.r a) with
      | ⟨v, _, ks, _⟩ => match v with
        | .own _ _ => .fail
        | .ownT _ => .fail
        | v => okT (lay s [] dst v s.m ks none)
    | x :: C => puT p s (x :: C) dst oo (some c)

def callQ (p : Prims) (o : OrT) (s : St) (C : Chain) (dst : Option Nat) (f : AV) (args : List AV) : Tree St :=
  match f with
  | .fn (.func id) first cap => match o.me id (catA first (catA args cap)) s.m with
    | some _ => .fail
    | none => puQ p s C dst (allOut (catA first (catA args cap))) (o.pu id (borrows s.m (catA first (catA args cap))))
  | .clo id first cap => puQ p s C dst (allOut args) (o.pu id (catA first (catA (borrows s.m args) cap)))
  | _ => .fail

def stepQ0 (p : Prims) (T : Tab) (o : OrT) (all : List Oper) (s : St) (op : Oper) : Tree St :=
  match op.op with
  | .call ⟨.value f, args, _⟩ => match chainOf all s.tg op.guard with
    | none => .fail
    | some C => match useOk s.tg C op.op.operands.toList, chainVal p s.ts C with
      | true, some _ => callQ p o s C op.dst (opnd s.ts f) (opnds s.ts args.toList)
      | _, _ => .fail
  | .pick .. => okT (aOper p T noCall all s op)
  | o' => match quietOp T o' with
    | true => okT (aOper p T noCall all s op)
    | false => .fail
def stepQ (p : Prims) (T : Tab) (o : OrT) (all : List Oper) (s : St) (op : Oper) : Tree St :=
  match deadOp op.op with
  | true => .fail
  | false => stepQ0 p T o all s op

def opsQ (p : Prims) (T : Tab) (o : OrT) (all : List Oper) : List Oper → St → Tree St
  | [], s => .ret s
  | op :: l, s => (stepQ p T o all s op).bind (opsQ p T o all l)

/-! Of a region that draws its order, and writes: first what looks at nothing that may change; then each order of the rest. -/
def fstOne (p : Prims) (T : Tab) (ops : Array Oper) (L : Array Bool) (s : St) (i : Nat) (op : Oper) : Bool :=
  match fstOk T s.ts op, useOk s.tg [] op.op.operands.toList with
  | true, true => match (Region.ready .any ops L).contains i, Region.free .any ops L i with | true, true => true | _, _ => false
  | _, _ => false
def fstT (p : Prims) (T : Tab) (o : OrT) (ops : Array Oper) : List Nat → Array Bool → Nat → St → Tree (Array Bool × Nat × St)
  | [], L, n, s => .ret (L, n, s)
  | i :: l, L, n, s => match ops[i]? with
    | none => fstT p T o ops l L n s
    | some op => match fstOne p T ops L s i op with
      | true => match n with
        | 0 => .fail
        | n + 1 => (stepT p T o ops.toList s op).bind fun s' => fstT p T o ops l (L.setIfInBounds i true) n s'
      | false => fstT p T o ops l L n s

/-- One that is ready and looks at no memory. -/
def quick (T : Tab) (ops : Array Oper) (L : Array Bool) (s : St) (i : Nat) (op : Oper) : Bool :=
  match pureOk T s.ts op, useOk s.tg [] op.op.operands.toList with
  | true, true => match (Region.ready .any ops L).contains i, Region.free .any ops L i with | true, true => true | _, _ => false
  | _, _ => false
def quickOf (T : Tab) (ops : Array Oper) (L : Array Bool) (s : St) : List Nat → Option (Nat × Oper)
  | [] => none
  | i :: l => match ops[i]? with
    | none => quickOf T ops L s l
    | some op => match quick T ops L s i op with
      | true => some (i, op)
      | false => quickOf T ops L s l
theorem quickOf_some {T : Tab} {ops : Array Oper} {L : Array Bool} {s : St} : ∀ {l : List Nat} {i : Nat} {op : Oper}, quickOf T ops L s l = some (i, op) → ops[i]? = some op ∧ quick T ops L s i op = true
  | [], _, _, h => by cases h
  | j :: l, i, op, h => by
    simp only [quickOf] at h
    split at h
    · exact quickOf_some h
    · rename_i op' ho
      split at h
      · rename_i hq; cases h; exact ⟨ho, hq⟩
      · exact quickOf_some h

def bothL (f : Nat → Tree St) : List Nat → Tree St
  | [] => .fail
  | [i] => f i
  | i :: l => .both (f i) (bothL f l)
/-- Where a guard holds, what hangs on it alone hangs on nothing. -/
def untag (d : Nat) (b : Bool) : Tags → Tags
  | [] => []
  | (t, [(e, c)]) :: l => match Nat.beq e d, c, b with
    | true, true, true => (t, []) :: untag d b l
    | true, false, false => (t, []) :: untag d b l
    | _, _, _ => (t, [(e, c)]) :: untag d b l
  | x :: l => x :: untag d b l
def untagS (d : Nat) (b : Bool) (s : St) : St := ⟨s.ts, s.m, untag d b s.tg, s.ks⟩
/-- A call that is handed memory, behind one guard. -/
def guardCall (p : Prims) (o : OrT) (ops : Array Oper) (s : St) (op : Oper) : Option (Bool × Nat × Bool) :=
  match op.op with
  | .call ⟨.value f, args, _⟩ => match op.guard with
    | some (j, b) => match opnd s.ts f with
      | .fn (.func id) first cap => match o.me id (catA first (catA (opnds s.ts args.toList) cap)) s.m with
        | some _ => match nthO ops.toList j with
          | some ⟨some d, _, _, _, _, _⟩ => match tagOf s.tg d, litOf p s.ts d b with
            | [], some g => some (g, d, b)
            | _, _ => none
          | _ => none
        | none => none
      | _ => none
    | none => none
  | _ => none
def anyOne (p : Prims) (T : Tab) (o : OrT) (ops : Array Oper) (k : Array Bool → St → Tree St) (L : Array Bool) (s : St) (i : Nat) : Tree St :=
  match ops[i]? with
  | some op => match guardCall p o ops s op with
    | some (g, d, b) => .ite g ((stepT p T o ops.toList (untagS d b s) { op with guard := none }).bind fun s' => k (L.setIfInBounds i true) s') ((okT (lay s [(d, b)] op.dst (.bool true) s.m [] none)).bind fun s' => k (L.setIfInBounds i true) s')
    | none => (stepT p T o ops.toList s op).bind fun s' => k (L.setIfInBounds i true) s'
  | none => .fail
def anyT (p : Prims) (T : Tab) (o : OrT) (ops : Array Oper) : Nat → Array Bool → St → Tree St
  | 0, L, s => match Region.ready .any ops L with | [] => .ret s | _ => .fail
  | n + 1, L, s => match Region.ready .any ops L with
    | [] => .ret s
    | l => match quickOf T ops L s l with
      | some (i, op) => (stepT p T o ops.toList s op).bind fun s' => anyT p T o ops n (L.setIfInBounds i true) s'
      | none => bothL (anyOne p T o ops (anyT p T o ops n) L s) l

def quietAll (ops : Array Oper) : Bool := ops.toList.all fun o => match o.op with
  | .call ⟨.value _, _, _⟩ => true
  | .pick .. => true
  | op => quietOp [] op

def evDraw (p : Prims) (T : Tab) (o : OrT) (ops : Array Oper) (A : AS) : Tree St :=
  match Region.noSelect ops with
  | true => (fstT p T o ops (List.range ops.size) (Array.replicate ops.size false) ops.size ⟨A.ts, A.m, [], []⟩).bind fun r => anyT p T o ops r.2.1 r.1 r.2.2
  | false => .fail

/-- The first region of code: by this a loop is told. -/
def firstId : Code → Nat
  | .region id _ _ => id
  | .seq a _ => firstId a
  | .block _ c => firstId c
  | .loop c => firstId c
  | .rangeFunc _ _ a _ => firstId a
  | .scope c => firstId c
  | _ => 0

theorem okT_pl (s : St) : (okT s).pl := asksT_pl trivial
theorem puT_pl (p : Prims) (s : St) (C : Chain) (dst : Option Nat) (oo : Bool) (c : Option CallT) : (puT p s C dst oo c).pl := by
  cases c with
  | none => trivial
  | some c =>
    cases C with
    | nil => exact fun a => okT_pl _
    | cons x C =>
      simp only [puT]
      split
      · trivial
      · intro a
        simp only
        split <;> first | trivial | exact okT_pl _
theorem meT_pl (s : St) (C : Chain) (dst : Option Nat) (c : CallM) : (meT s C dst c).pl := by
  cases C with
  | nil => exact fun a => okT_pl _
  | cons => trivial
theorem callT_pl (p : Prims) (o : OrT) (s : St) (C : Chain) (dst : Option Nat) (f : AV) (args : List AV) : (callT p o s C dst f args).pl := by
  unfold callT
  split
  · split
    · exact meT_pl _ _ _ _
    · exact puT_pl _ _ _ _ _ _
  · exact puT_pl _ _ _ _ _ _
  · trivial
theorem stepT_pl (p : Prims) (T : Tab) (o : OrT) (all : List Oper) (s : St) (op : Oper) : (stepT p T o all s op).pl := by
  unfold stepT
  split
  · trivial
  · unfold stepF
    split
    · split
      · exact ⟨okT_pl _, okT_pl _⟩
      · trivial
    unfold stepT0
    split
    · split
      · trivial
      · split
        · trivial
        · exact callT_pl _ _ _ _ _ _ _
    · exact okT_pl _
theorem opsT_pl (p : Prims) (T : Tab) (o : OrT) (all l : List Oper) (s : St) : (opsT p T o all l s).pl := by
  induction l generalizing s with
  | nil => trivial
  | cons op l ih => exact Tree.pl_bind (stepT_pl _ _ _ _ _ _) fun s' => ih s'
theorem puQ_pl (p : Prims) (s : St) (C : Chain) (dst : Option Nat) (oo : Bool) (c : Option CallT) : (puQ p s C dst oo c).pl := by
  cases c with
  | none => trivial
  | some c =>
    cases C with
    | nil =>
      intro a
      simp only
      split <;> first | trivial | exact okT_pl _
    | cons x C => exact puT_pl p s (x :: C) dst oo (some c)
theorem stepQ_pl (p : Prims) (T : Tab) (o : OrT) (all : List Oper) (s : St) (op : Oper) : (stepQ p T o all s op).pl := by
  unfold stepQ
  split
  · trivial
  · unfold stepQ0
    split
    · split
      · trivial
      · split
        · unfold callQ
          split
          · split
            · trivial
            · exact puQ_pl _ _ _ _ _ _
          · exact puQ_pl _ _ _ _ _ _
          · trivial
        · trivial
    · exact okT_pl _
    · split
      · exact okT_pl _
      · trivial
theorem opsQ_pl (p : Prims) (T : Tab) (o : OrT) (all l : List Oper) (s : St) : (opsQ p T o all l s).pl := by
  induction l generalizing s with
  | nil => trivial
  | cons op l ih => exact Tree.pl_bind (stepQ_pl _ _ _ _ _ _) fun s' => ih s'

/-- How many operations ahead leave memory alone. -/
def quietO (o : Oper) : Bool := match o.op with
  | .call ⟨.value _, _, _⟩ => true
  | .pick .. => true
  | op => quietOp [] op
def preN : List Oper → Nat → Nat
  | [], n => n
  | o :: l, n => match quietO o with | true => preN l (n + 1) | false => n
def listedN (n n0 : Nat) : Array Bool := ((List.range n).map fun i => Nat.blt i n0).toArray
def backOk (ops : Array Oper) : Bool := (List.range ops.size).all fun i => match ops[i]? with
  | none => true
  | some o => (predsOf o).all fun j => Nat.blt j i
def preOk (ops : Array Oper) (n0 : Nat) : Bool := Region.noSelect ops && backOk ops && preChk ops n0 && drawOk (ops.toList.take n0).toArray
/-- First all that leaves memory alone, in the text's order; then each order of the rest. -/
def evPreN (p : Prims) (T : Tab) (o : OrT) (ops : Array Oper) (n0 : Nat) (A : AS) : Tree St :=
  match preOk ops n0 with
  | true => (opsQ p T o (ops.toList.take n0) (ops.toList.take n0) ⟨A.ts, A.m, [], []⟩).bind fun s => anyT p T o ops (ops.size - n0) (listedN ops.size n0) s
  | false => .fail
def evPre (p : Prims) (T : Tab) (o : OrT) (ops : Array Oper) (A : AS) : Tree St := evPreN p T o ops (preN ops.toList 0) A
def hasTwo : List Pre → Bool
  | [] => false
  | .two :: _ => true
  | .twoN _ :: _ => true
  | _ :: l => hasTwo l
def preAt : List Pre → Nat → Nat
  | [], n => n
  | .twoN k :: _, _ => k
  | _ :: l, n => preAt l n
def endReg (np : Nat) (s : St) : Tree (Exit × AS) := .ret (.normal, ⟨wipe s.ts s.tg, s.m, np⟩)

def evReg (p : Prims) (T : Tab) (o : OrT) (ops : Array Oper) (d two : Bool) (k : Nat) (A : AS) : Tree (Exit × AS) :=
  match d with
  | false => (opsT p T o ops.toList ops.toList ⟨A.ts, A.m, [], []⟩).bind (endReg A.np)
  | true => match quietAll ops with
    | true => match two with
      | true => match Nat.ble 1000 k with
        | true => (evDraw p T o ops A).bind (endReg A.np)
        | false => (evPreN p T o ops k A).bind (endReg A.np)
      | false => match drawOk ops with
        | true => (opsQ p T o ops.toList ops.toList ⟨A.ts, A.m, [], []⟩).bind (endReg A.np)
        | false => .fail
    | false => match two with
      | true => (evPre p T o ops A).bind (endReg A.np)
      | false => (evDraw p T o ops A).bind (endReg A.np)

/-- So many ways, by a small number. -/
def splC (i : Nat) (k : IntKind) (x : Int) (f : AS → Tree (Exit × AS)) (A : AS) : Nat → Nat → Tree (Exit × AS)
  | 0, _ => .fail
  | n + 1, j => .ite (std.eq x (j : Int)) (f ⟨put A.ts i (.int k (j : Int)), A.m, A.np⟩) (splC i k x f A n (j + 1))
def splT (f : AS → Tree (Exit × AS)) : List Pre → AS → Tree (Exit × AS)
  | [], A => f A
  | .spl i n :: l, A => match nth A.ts i with
    | .int k x => splC i k x (splT f l) A n 0
    | _ => .fail
  | p :: l, A => splT f l (pre1A p A)

/-- A loop over a function stands in the list of loops as it is; of another loop its body does. -/
def isRange : Code → Bool
  | .rangeFunc _ _ _ _ => true
  | _ => false
def nodeL (c : Code) : Code := match isRange c with | true => c | false => .loop c

def catCo : List Code → List Code → List Code
  | [], l => l
  | a :: k, l => a :: catCo k l
def loopsOf : Code → List Code
  | .seq a b => catCo (loopsOf a) (loopsOf b)
  | .cond _ a b => catCo (loopsOf a) (loopsOf b)
  | .block _ c => loopsOf c
  | .loop c => [c]
  | .rangeFunc f ps a b => [.rangeFunc f ps a b]
  | .scope c => loopsOf c
  | _ => []

/-- A loop that is taken round by round, so often at most. -/
def unrOf : List Pre → Option Nat
  | [] => none
  | .unr n :: _ => some n
  | _ :: l => unrOf l
def unrT (f : AS → Tree (Exit × AS)) : Nat → AS → Tree (Exit × AS)
  | 0, _ => .fail
  | n + 1, A => (f A).bind fun r => match r with
    | (.normal, A') => unrT f n A'
    | (e, A') => .ret (e, A')

def evT (p : Prims) (T : Tab) (o : OrT) : Code → AS → Tree (Exit × AS)
  | .skip, A => .ret (.normal, A)
  | .exit id, A => .ret (.exit id, A)
  | .ret, A => .ret (.ret, A)
  | .region id ops d, A => splT (evReg p T o ops d (hasTwo (o.fz id)) (preAt (o.fz id) (ops.size - 1))) (o.fz id) A
  | .seq x y, A => (evT p T o x A).bind fun r => match r with
    | (.normal, A') => evT p T o y A'
    | (e, A') => .ret (e, A')
  | .cond c x y, A => match opnd A.ts c with
    | .bool b => .ite b (evT p T o x A) (evT p T o y A)
    | .nilB n => .ite (Nat.beq n 0) (.both (evT p T o x A) (evT p T o y A)) (evT p T o y A)
    | _ => .fail
  | .block id c, A => (evT p T o c A).bind fun r => match r with
    | (.exit i, A') => match Nat.beq i id with | true => .ret (.normal, A') | false => .ret (.exit i, A')
    | (e, A') => .ret (e, A')
  | .loop c, A => match isRange c with
    | true => .fail
    | false => match unrOf (o.fz (firstId c)) with
      | some n => match loopsOf c with
        | [] => unrT (evT p T o c) n A
        | _ => .fail
      | none => match o.lp (firstId c) A with
        | some t => t
        | none => .fail
  | .rangeFunc _ _ a _, A => match o.lp (firstId a) A with
    | some t => t
    | none => .fail
  | .scope c, A => (evT p T o c A).bind fun r => match r with
    | (.goto _, _) => .fail
    | (e, A') => .ret (e, A')
  | .label _, A => .ret (.normal, A)
  | _, _ => .fail

end Go.Eng
