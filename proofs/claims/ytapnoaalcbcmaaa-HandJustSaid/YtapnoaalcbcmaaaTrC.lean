/- The evaluator by trees is sound. -/
import Derived.Test.YtapnoaalcbcmaaaTrB
namespace Go.Eng
open Go Go.RowKit

variable {P : Program} {T : Tab}

theorem okT_run {s s' : St} (h : (okT s).run = some s') : AllT s.ks ∧ s' = ⟨s.ts, s.m, s.tg, []⟩ := by
  obtain ⟨h1, h2⟩ := asksT_run h
  exact ⟨h1, by cases h2; rfl⟩

/-- What an operation lays down. -/
def preG (p : Prims) (T : Tab) (call : Oracle) (ts : List AV) (m : Mem) (C : Chain) (op : Op) : Option (Chain × AV × Mem × List Bool × Option Nat) :=
  match chainVal p ts C with
  | none => none
  | some g => match quietOp T op with
    | true => some (C, (aOp p T call ts m op).v, m, impAll p g (aOp p T call ts m op).ks, none)
    | false => match op with
      | .call ⟨.value _, _, _⟩ => match quietCall p call ts m op, (aOp p T call ts m op).v with
        | true, .own _ _ => none
        | true, .ownT _ => none
        | true, v => some (C, v, m, impAll p g (aOp p T call ts m op).ks, none)
        | false, _ => none
      | _ => none
def pre1 (p : Prims) (T : Tab) (call : Oracle) (ts : List AV) (m : Mem) (tg : Tags) (C : Chain) (op : Op) : Option (Chain × AV × Mem × List Bool × Option Nat) :=
  match useOk tg C op.operands.toList with
  | false => none
  | true => match C with
    | [] => some ([], (aOp p T call ts m op).v, (aOp p T call ts m op).m, (aOp p T call ts m op).ks, (aOp p T call ts m op).inv)
    | x :: C => preG p T call ts m (x :: C) op
def pre2 (p : Prims) (T : Tab) (call : Oracle) (ts : List AV) (m : Mem) (tg : Tags) (C : Chain) : Op → Option (Chain × AV × Mem × List Bool × Option Nat)
  | .pick c a b => match pickOk tg C c a b, aPick p ts c a b with
    | true, some v => some (C, v, m, [], none)
    | _, _ => none
  | op => pre1 p T call ts m tg C op
def preOp (p : Prims) (T : Tab) (call : Oracle) (all : List Oper) (ts : List AV) (m : Mem) (tg : Tags) (o : Oper) : Option (Chain × AV × Mem × List Bool × Option Nat) :=
  match chainOf all tg o.guard with
  | none => none
  | some C => pre2 p T call ts m tg C o.op

def layP (s : St) (dst : Option Nat) : Option (Chain × AV × Mem × List Bool × Option Nat) → St
  | none => failSt s
  | some (C, v, m, ks, inv) => lay s C dst v m ks inv

theorem guarded_pre (p : Prims) (call : Oracle) (s : St) (C : Chain) (dst : Option Nat) (op : Op) : aGuarded p T call s C dst op = layP s dst (preG p T call s.ts s.m C op) := by
  unfold aGuarded preG
  cases chainVal p s.ts C with
  | none => rfl
  | some g =>
    cases quietOp T op with
    | true => rfl
    | false =>
      simp only
      split
      · generalize (aOp p T call s.ts s.m _).v = v
        cases quietCall p call s.ts s.m _ with
        | false => rfl
        | true => cases v <;> rfl
      · rename_i h
        split
        · exact absurd rfl (h _ _ _)
        · rfl

theorem aOper_pre (p : Prims) (call : Oracle) (all : List Oper) (s : St) (o : Oper) : aOper p T call all s o = layP s o.dst (preOp p T call all s.ts s.m s.tg o) := by
  unfold aOper preOp
  cases chainOf all s.tg o.guard with
  | none => rfl
  | some C =>
    simp only
    obtain ⟨dst, op, type, pos, after, guard⟩ := o
    have h1 : aOper1 p T call s C dst op = layP s dst (pre1 p T call s.ts s.m s.tg C op) := by
      unfold aOper1 pre1
      cases useOk s.tg C op.operands.toList with
      | false => rfl
      | true => cases C with
        | nil => rfl
        | cons x C => exact guarded_pre p call s (x :: C) dst op
    cases op with
    | pick c a b =>
      show aPickS p s C dst c a b = layP s dst (match pickOk s.tg C c a b, aPick p s.ts c a b with | true, some v => some (C, v, s.m, [], none) | _, _ => none)
      unfold aPickS
      cases pickOk s.tg C c a b <;> cases aPick p s.ts c a b <;> rfl
    | _ => exact h1

theorem aOp_noCall (p : Prims) (call call' : Oracle) (ts : List AV) (m : Mem) (op : Op) (h : ∀ f args ats, op ≠ .call ⟨.value f, args, ats⟩) : aOp p T call ts m op = aOp p T call' ts m op := by
  cases op with
  | call c =>
    obtain ⟨callee, args, ats⟩ := c
    cases callee with
    | value f => exact absurd rfl (h f args ats)
    | _ => rfl
  | makeMap t r => cases r <;> rfl
  | _ => rfl

theorem preOp_noCall (p : Prims) (call call' : Oracle) (all : List Oper) (ts : List AV) (m : Mem) (tg : Tags) (o : Oper) (h : ∀ f args ats, o.op ≠ .call ⟨.value f, args, ats⟩) : preOp p T call all ts m tg o = preOp p T call' all ts m tg o := by
  unfold preOp
  cases chainOf all tg o.guard with
  | none => rfl
  | some C =>
    simp only
    generalize o.op = op at h
    have hqc : quietCall p call ts m op = quietCall p call' ts m op := by
      cases op with
      | call c =>
        obtain ⟨callee, args, ats⟩ := c
        cases callee with
        | value f => exact absurd rfl (h f args ats)
        | _ => rfl
      | _ => rfl
    have h1 : pre1 p T call ts m tg C op = pre1 p T call' ts m tg C op := by
      unfold pre1 preG
      rw [aOp_noCall p call call' ts m op h, hqc]
    cases op with
    | pick => rfl
    | _ => exact h1

/-- How an operation is laid down, whatever was asked before. -/
theorem lay_acc {ts : List AV} {m : Mem} {tg : Tags} {C : Chain} {dst : Option Nat} {v : AV} {m1 : Mem} {ks : List Bool} {inv : Option Nat} (h : AllT (lay ⟨ts, m, tg, []⟩ C dst v m1 ks inv).ks) (k0 : List Bool) :
    lay ⟨ts, m, tg, k0⟩ C dst v m1 ks inv = ⟨(lay ⟨ts, m, tg, []⟩ C dst v m1 ks inv).ts, (lay ⟨ts, m, tg, []⟩ C dst v m1 ks inv).m, (lay ⟨ts, m, tg, []⟩ C dst v m1 ks inv).tg, catB k0 ks⟩ ∧ AllT ks := by
  refine ⟨?_, (lay_ks h).2⟩
  unfold lay at h ⊢
  cases dst with
  | none => cases inv <;> rfl
  | some d =>
    simp only at h ⊢
    cases e1 : mentioned d tg <;> cases e2 : mentions d C <;> simp only [e1, e2] at h ⊢ <;> first | exact (fail_ks h).elim | (cases inv <;> rfl)

/-- What is known of a step: how it is laid down. -/
def StepOk (T : Tab) (o : OrT) (all : List Oper) (s : St) (op : Oper) (s' : St) : Prop :=
  ∃ C v m1 ks inv, preOp std T o.old all s.ts s.m s.tg op = some (C, v, m1, ks, inv) ∧ AllT (lay ⟨s.ts, s.m, s.tg, []⟩ C op.dst v m1 ks inv).ks ∧
    s' = ⟨(lay ⟨s.ts, s.m, s.tg, []⟩ C op.dst v m1 ks inv).ts, (lay ⟨s.ts, s.m, s.tg, []⟩ C op.dst v m1 ks inv).m, (lay ⟨s.ts, s.m, s.tg, []⟩ C op.dst v m1 ks inv).tg, []⟩

theorem plainStep {o : OrT} {all : List Oper} {s s' : St} {op : Oper} (hs : s.ks = []) (hno : ∀ f args ats, op.op ≠ .call ⟨.value f, args, ats⟩) (h : (okT (aOper std T noCall all s op)).run = some s') : StepOk T o all s op s' := by
  obtain ⟨h1, h2⟩ := okT_run h
  obtain ⟨ts, m, tg, ks⟩ := s
  simp only at hs; subst hs
  rw [aOper_pre, preOp_noCall std noCall o.old all ts m tg op hno] at h1 h2
  unfold StepOk
  simp only
  cases hp : preOp std T o.old all ts m tg op with
  | none => rw [hp] at h1; exact (fail_ks h1).elim
  | some x =>
    obtain ⟨C, v, m1, ks, inv⟩ := x
    rw [hp] at h1 h2
    exact ⟨C, v, m1, ks, inv, rfl, h1, h2⟩

theorem aCallR_ks {m : Mem} {oo : Bool} {r : CR} (h : AllT (aCallR m oo [] r).ks) (k : Bool) : aCallR m oo [k] r = ⟨(aCallR m oo [] r).v, (aCallR m oo [] r).m, [k], (aCallR m oo [] r).inv⟩ := by
  cases r with
  | val v =>
    simp only [aCallR] at h ⊢
    cases oo with
    | true => rfl
    | false => cases hf : flatR v <;> simp only [hf] at h ⊢
               exact (not_bad h).elim
  | fresh => cases oo with
    | true => rfl
    | false => exact (not_bad h).elim
  | freshT e u l =>
    simp only [aCallR] at h ⊢
    cases hb : orB oo (flatT u) with
    | true => rfl
    | false => simp only [hb] at h; exact (not_bad h).elim
  | valN e u l =>
    simp only [aCallR] at h ⊢
    cases hb : flatT u with
    | true => rfl
    | false => simp only [hb] at h; exact (not_bad h).elim


/-- The same, with other questions. -/
theorem lay_swap {ts : List AV} {m : Mem} {tg : Tags} {C : Chain} {dst : Option Nat} {v : AV} {m1 : Mem} {ks : List Bool} {inv : Option Nat} (h : AllT (lay ⟨ts, m, tg, []⟩ C dst v m1 ks inv).ks) {ks' : List Bool} (hk : AllT ks') :
    AllT (lay ⟨ts, m, tg, []⟩ C dst v m1 ks' inv).ks ∧ (lay ⟨ts, m, tg, []⟩ C dst v m1 ks' inv).ts = (lay ⟨ts, m, tg, []⟩ C dst v m1 ks inv).ts ∧
      (lay ⟨ts, m, tg, []⟩ C dst v m1 ks' inv).m = (lay ⟨ts, m, tg, []⟩ C dst v m1 ks inv).m ∧ (lay ⟨ts, m, tg, []⟩ C dst v m1 ks' inv).tg = (lay ⟨ts, m, tg, []⟩ C dst v m1 ks inv).tg := by
  unfold lay at h ⊢
  cases dst with
  | none => cases inv <;> exact ⟨hk, rfl, rfl, rfl⟩
  | some d =>
    simp only at h ⊢
    cases e1 : mentioned d tg <;> cases e2 : mentions d C <;> simp only [e1, e2] at h ⊢ <;> first | exact (fail_ks h).elim | (cases inv <;> exact ⟨hk, rfl, rfl, rfl⟩)

theorem StepOk.mk' {o : OrT} {all : List Oper} {ts : List AV} {m : Mem} {tg : Tags} {s' : St} {op : Oper} {C : Chain} {v : AV} {m1 : Mem} {ks ks' : List Bool} {inv : Option Nat}
    (hp : preOp std T o.old all ts m tg op = some (C, v, m1, ks', inv)) (hk : AllT ks') (h : (okT (lay ⟨ts, m, tg, []⟩ C op.dst v m1 ks inv)).run = some s') : StepOk T o all ⟨ts, m, tg, []⟩ op s' := by
  obtain ⟨h1, h2⟩ := okT_run h
  obtain ⟨q1, q2, q3, q4⟩ := lay_swap h1 hk
  exact ⟨C, v, m1, ks', inv, hp, q1, by rw [h2, q2, q3, q4]⟩

theorem AllT_imp_of {g : Bool} {ks ks' : List Bool} (h : g = true → AllT ks') : AllT (impAll std g ks') := by
  cases g with
  | false => clear h; induction ks' with
    | nil => trivial
    | cons k l ih => exact AllT.cons.2 ⟨rfl, ih⟩
  | true => have := h rfl; clear h; induction ks' with
    | nil => trivial
    | cons k l ih => obtain ⟨h1, h2⟩ := AllT.cons.1 this; exact AllT.cons.2 ⟨by simp [std, h1], ih h2⟩

/-- A call of a contract by its arguments alone. -/
theorem puStep {o : OrT} {all : List Oper} {s s' : St} {op : Oper} {C : Chain} {f : Operand} {args : Array Operand} {ats : Array TypeId} {id : Nat} {bargs : List AV} {oo : Bool} {c : CallT} (hs : s.ks = []) (hop : op.op = .call ⟨.value f, args, ats⟩)
    (hC : chainOf all s.tg op.guard = some C) (hu : useOk s.tg C op.op.operands.toList = true) (hq : quietCall std o.old s.ts s.m op.op = true)
    (ha : aOp std T o.old s.ts s.m op.op = aCallP std o.old s.m id bargs oo) (hc : o.pu id bargs = some c) (h : (puT std s C op.dst oo (some c)).run = some s') : StepOk T o all s op s' := by
  have hold : o.old.pu std id bargs = some ⟨c.r (c.t.run.getD c.d), [c.t.run.isSome]⟩ := by simp only [OrT.old, hc]
  rw [aCallP_eq, hold] at ha
  simp only at ha
  have hpre : ∀ x, preOp std T o.old all s.ts s.m s.tg op = x ↔ pre1 std T o.old s.ts s.m s.tg C op.op = x := fun x => by
    unfold preOp; rw [hC]
    show pre2 std T o.old s.ts s.m s.tg C op.op = x ↔ _
    rw [hop]; exact Iff.rfl
  obtain ⟨ts, m, tg, ks⟩ := s
  simp only at hs; subst hs
  simp only at hC hu hq ha h hpre
  cases C with
  | nil =>
    simp only [puT, Tree.run] at h
    cases hr : c.t.run with
    | none => rw [hr] at h; cases h
    | some a =>
      rw [hr] at h ha
      simp only [Option.getD_some, Option.isSome_some] at ha
      have h : (okT (lay ⟨ts, m, tg, []⟩ [] op.dst (aCallR m oo [] (c.r a)).v (aCallR m oo [] (c.r a)).m (aCallR m oo [] (c.r a)).ks (aCallR m oo [] (c.r a)).inv)).run = some s' := h
      have hks := (lay_ks (okT_run h).1).2
      rw [aCallR_ks hks true] at ha
      exact StepOk.mk' (ks' := [true]) (by rw [hpre]; unfold pre1; rw [hu]; simp only; rw [ha]) rfl h
  | cons x C =>
    simp only [puT] at h
    cases hg : chainVal std ts (x :: C) with
    | none => rw [hg] at h; cases h
    | some g =>
      rw [hg] at h
      simp only [Tree.run] at h
      cases hgn : g && c.t.run.isNone with
      | true => rw [hgn] at h; cases h
      | false =>
        rw [hgn] at h
        have hgs : g = true → c.t.run.isSome = true := fun e => by
          subst e
          cases hr : c.t.run with
          | none => rw [hr] at hgn; cases hgn
          | some a => rfl
        generalize hv : c.t.run.getD c.d = a at h ha
        generalize hb : c.t.run.isSome = b at ha hgs
        have hv2 : ∃ v, (aCallR m oo [] (c.r a)).v = v ∧ (∀ b n, v ≠ .own b n) ∧ (∀ b, v ≠ .ownT b) ∧ (okT (lay ⟨ts, m, tg, []⟩ (x :: C) op.dst v m (impAll std g (aCallR m oo [] (c.r a)).ks) none)).run = some s' := by
          have h : (match (aCallR m oo [] (c.r a)).v with
            | .own _ _ => Tree.fail
            | .ownT _ => Tree.fail
            | v => okT (lay ⟨ts, m, tg, []⟩ (x :: C) op.dst v m (impAll std g (aCallR m oo [] (c.r a)).ks) none)).run = some s' := h
          generalize (aCallR m oo [] (c.r a)).v = v at h
          cases v <;> first | (cases h; done) | exact ⟨_, rfl, (fun _ _ e => by cases e), (fun _ e => by cases e), h⟩
        obtain ⟨v, hv3, hn1, hn2, h⟩ := hv2
        have himp := (lay_ks (okT_run h).1).2
        have hvm : ∀ k, (aCallR m oo [k] (c.r a)).v = v ∧ (g = true → k = true → AllT (aCallR m oo [k] (c.r a)).ks) := fun k => by
          clear h ha
          cases hcr : c.r a with
          | val v' =>
            rw [hcr] at hv3 himp
            simp only [aCallR] at hv3 himp ⊢
            cases oo with
            | true => exact ⟨hv3, fun _ hk => hk⟩
            | false =>
              cases hf : flatR v' <;> simp only [hf] at hv3 himp ⊢
              · exact ⟨hv3, fun hg' _ => by subst hg'; exact AllT_imp himp⟩
              · exact ⟨hv3, fun _ hk => hk⟩
          | fresh e sz n d =>
            rw [hcr] at hv3 himp
            cases oo with
            | true => exact absurd hv3.symm (hn1 _ _)
            | false => exact ⟨hv3, fun hg' _ => by subst hg'; exact AllT_imp himp⟩
          | freshT e u l =>
            rw [hcr] at hv3 himp
            simp only [aCallR] at hv3 himp ⊢
            cases hb : orB oo (flatT u) with
            | true => simp only [hb] at hv3; exact absurd hv3.symm (hn2 _)
            | false => simp only [hb] at hv3 himp ⊢; exact ⟨hv3, fun hg' _ => by subst hg'; exact AllT_imp himp⟩
          | valN e u l =>
            rw [hcr] at hv3 himp
            simp only [aCallR] at hv3 himp ⊢
            cases hb : flatT u with
            | true => simp only [hb] at hv3 ⊢; exact ⟨hv3, fun _ hk => hk⟩
            | false => simp only [hb] at hv3 himp ⊢; exact ⟨hv3, fun hg' _ => by subst hg'; exact AllT_imp himp⟩
        refine StepOk.mk' (ks' := impAll std g (aCallR m oo [b] (c.r a)).ks) ?_ (AllT_imp_of (ks := []) fun hg' => (hvm b).2 hg' (hgs hg')) h
        rw [hpre]; unfold pre1; rw [hu]
        show preG std T o.old ts m (x :: C) op.op = _
        unfold preG
        rw [hg, hop]
        rw [hop] at hq ha
        show (match quietCall std o.old ts m (.call ⟨.value f, args, ats⟩), (aOp std T o.old ts m (.call ⟨.value f, args, ats⟩)).v with
          | true, .own _ _ => none
          | true, .ownT _ => none
          | true, v => some (x :: C, v, m, impAll std g (aOp std T o.old ts m (.call ⟨.value f, args, ats⟩)).ks, none)
          | false, _ => none) = _
        rw [hq, ha, (hvm b).1]
        cases v <;> first | rfl | exact absurd rfl (hn1 _ _) | exact absurd rfl (hn2 _)


theorem meStep {o : OrT} {all : List Oper} {s s' : St} {op : Oper} {C : Chain} {f : Operand} {args : Array Operand} {ats : Array TypeId} {id : Nat} {args' : List AV} {c : CallM} (hs : s.ks = []) (hop : op.op = .call ⟨.value f, args, ats⟩)
    (hC : chainOf all s.tg op.guard = some C) (hu : useOk s.tg C op.op.operands.toList = true)
    (ha : ∀ r, o.old.me std id args' s.m = some r → aOp std T o.old s.ts s.m op.op = r) (hc : o.me id args' s.m = some c) (h : (meT s C op.dst c).run = some s') : StepOk T o all s op s' := by
  have hpre : ∀ x, preOp std T o.old all s.ts s.m s.tg op = x ↔ pre1 std T o.old s.ts s.m s.tg C op.op = x := fun x => by
    unfold preOp; rw [hC]
    show pre2 std T o.old s.ts s.m s.tg C op.op = x ↔ _
    rw [hop]; exact Iff.rfl
  obtain ⟨ts, m, tg, ks⟩ := s
  simp only at hs; subst hs
  simp only at hC hu ha hc h hpre
  cases C with
  | cons x C => cases h
  | nil =>
    simp only [meT, Tree.run] at h
    cases hr : c.t.run with
    | none => rw [hr] at h; cases h
    | some a =>
      rw [hr] at h
      have h : (okT (lay ⟨ts, m, tg, []⟩ [] op.dst (c.r a).v (c.r a).m (c.r a).ks (c.r a).inv)).run = some s' := h
      have hold : o.old.me std id args' m = some (c.r a) := by simp only [OrT.old, hc, hr]
      have ha := ha _ hold
      exact StepOk.mk' (by rw [hpre]; unfold pre1; rw [hu]; simp only; rw [ha]) (lay_ks (okT_run h).1).2 h

theorem old_me {o : OrT} {id : Nat} {args : List AV} {m : Mem} : (o.me id args m = none → o.old.me std id args m = none) := fun h => by simp only [OrT.old, h]

theorem callStep {o : OrT} {all : List Oper} {s s' : St} {op : Oper} {C : Chain} {f : Operand} {args : Array Operand} {ats : Array TypeId} (hs : s.ks = []) (hop : op.op = .call ⟨.value f, args, ats⟩)
    (hC : chainOf all s.tg op.guard = some C) (hu : useOk s.tg C op.op.operands.toList = true) (h : (callT std o s C op.dst (opnd s.ts f) (opnds s.ts args.toList)).run = some s') : StepOk T o all s op s' := by
  have haop : aOp std T o.old s.ts s.m op.op = aCall std o.old s.m (opnd s.ts f) (opnds s.ts args.toList) := by rw [hop]; rfl
  have hqc : quietCall std o.old s.ts s.m op.op = (match opnd s.ts f with
    | .fn (.func id) first cap => match o.old.me std id (catA first (catA (opnds s.ts args.toList) cap)) s.m with | none => true | some _ => false
    | _ => true) := by rw [hop]; rfl
  unfold callT at h
  split at h
  · rename_i id first cap hf
    rw [hf] at haop hqc
    simp only [aCall] at haop hqc
    split at h
    · rename_i c hc
      exact meStep hs hop hC hu (fun r hr => by rw [haop, hr]) hc h
    · rename_i hc
      rw [old_me hc] at haop hqc
      cases hp : o.pu id (borrows s.m (catA first (catA (opnds s.ts args.toList) cap))) with
      | none => rw [hp] at h; cases h
      | some c => rw [hp] at h; exact puStep hs hop hC hu hqc haop hp h
  · rename_i id first cap hf
    rw [hf] at haop hqc
    simp only [aCall] at haop hqc
    cases hp : o.pu id (catA first (catA (borrows s.m (opnds s.ts args.toList)) cap)) with
    | none => rw [hp] at h; cases h
    | some c => rw [hp] at h; exact puStep hs hop hC hu hqc haop hp h
  · cases h

theorem isVC_no {op : Op} (h : ∀ f args ats, op = .call ⟨.value f, args, ats⟩ → False) : ∀ f args ats, op ≠ .call ⟨.value f, args, ats⟩ := fun f args ats e => h f args ats e

theorem famLk_some {ts : List AV} {m : Mem} {op : Op} {c : Bool} {v1 v2 : AV} (h : famLk T ts m op = some (c, v1, v2)) {call : Oracle} : (∃ t x k ok, op = .lookup t x k ok) ∧ aOp std T call ts m op = val m (bif c then v1 else v2) := by
  unfold famLk at h
  split at h
  case h_2 => cases h
  rename_i t x k ok
  split at h
  case h_3 => cases h
  · rename_i a b l kk hf hx hk
    split at h
    case h_2 => cases h
    rename_i l' hc
    cases h
    refine ⟨⟨t, x, k, ok, rfl⟩, ?_⟩
    show aLook T m t (opnd ts x) (opnd ts k) ok = _
    unfold aLook aFamLook
    rw [hf, hx, hk]
    simp only [hc]
    cases getM .str viewT l' kk with
    | none => rfl
    | some q => rfl
  rename_i i kk hf hx hk
  split at h
  case h_2 => cases h
  rename_i X Y hb
  cases h
  refine ⟨⟨t, x, k, ok, rfl⟩, ?_⟩
  show aLook T m t (opnd ts x) (opnd ts k) ok = _
  unfold aLook aFamLook
  rw [hf, hx, hk]
  simp only [hb]
  cases getM .str famU X kk with
  | none => rfl
  | some q => rfl
theorem famStep {o : OrT} {all : List Oper} {s s' : St} {op : Oper} {c : Bool} {v1 v2 : AV} (hs : s.ks = []) (hlk : famLk T s.ts s.m op.op = some (c, v1, v2))
    (h : (match op.guard, useOk s.tg [] op.op.operands.toList with
      | none, true => Tree.ite c (okT (lay s [] op.dst v1 s.m [] none)) (okT (lay s [] op.dst v2 s.m [] none))
      | _, _ => .fail).run = some s') : StepOk T o all s op s' := by
  obtain ⟨⟨t, x, k, ok, hop⟩, ha⟩ := famLk_some hlk (call := o.old)
  split at h
  case h_2 => cases h
  rename_i hg hu
  have h : (okT (lay s [] op.dst (bif c then v1 else v2) s.m [] none)).run = some s' := by
    simp only [Tree.run] at h
    cases c <;> exact h
  obtain ⟨ts, m, tg, ks⟩ := s
  simp only at hs; subst hs
  simp only at hu ha h
  refine StepOk.mk' (C := []) (v := bif c then v1 else v2) (m1 := m) (ks := []) (ks' := []) (inv := none) ?_ trivial h
  unfold preOp
  rw [hg]
  show pre2 std T o.old ts m tg [] op.op = _
  rw [hop]
  show pre1 std T o.old ts m tg [] _ = _
  unfold pre1
  rw [← hop, hu]
  simp only
  rw [ha]
  rfl
theorem stepT_ok {o : OrT} {all : List Oper} {s s' : St} {op : Oper} (hs : s.ks = []) (h : (stepT std T o all s op).run = some s') : StepOk T o all s op s' := by
  unfold stepT at h
  split at h
  · cases h
  unfold stepF at h
  split at h
  · rename_i c v1 v2 hlk
    exact famStep hs hlk h
  unfold stepT0 at h
  split at h
  · rename_i f args ats hop
    split at h
    · cases h
    · rename_i C hC
      split at h
      · cases h
      · rename_i hu
        exact callStep hs hop hC hu h
  · rename_i hno
    exact plainStep hs hno h

/-- Operations in the order of the text. -/
theorem opsT_ok {o : OrT} {all : List Oper} : ∀ {l : List Oper} {s s' : St}, s.ks = [] → (opsT std T o all l s).run = some s' → s'.ks = [] ∧ ∀ k0, AllT k0 → ∃ K, AllT K ∧ aOps std T o.old all l ⟨s.ts, s.m, s.tg, k0⟩ = ⟨s'.ts, s'.m, s'.tg, K⟩ := by
  intro l
  induction l with
  | nil => intro s s' hs h; cases h; exact ⟨hs, fun k0 hk => ⟨k0, hk, rfl⟩⟩
  | cons op l ih =>
    intro s s' hs h
    rw [opsT, Tree.run_bind (stepT_pl _ _ _ _ _ _)] at h
    cases h1 : (stepT std T o all s op).run with
    | none => rw [h1] at h; cases h
    | some s1 =>
      rw [h1] at h
      obtain ⟨C, v, m1, ks, inv, q1, q2, q3⟩ := stepT_ok hs h1
      obtain ⟨r1, r2⟩ := ih (s := s1) (by rw [q3]) h
      refine ⟨r1, fun k0 hk => ?_⟩
      obtain ⟨e1, e2⟩ := lay_acc q2 k0
      have hK : AllT (catB k0 ks) := AllT.cat.2 ⟨hk, e2⟩
      obtain ⟨K, k1, k2⟩ := r2 (catB k0 ks) hK
      refine ⟨K, k1, ?_⟩
      show aOps std T o.old all l (aOper std T o.old all ⟨s.ts, s.m, s.tg, k0⟩ op) = _
      rw [aOper_pre, q1]
      show aOps std T o.old all l (lay ⟨s.ts, s.m, s.tg, k0⟩ C op.dst v m1 ks inv) = _
      rw [e1]
      rw [q3] at k2
      exact k2


/-! Regions that draw their order. -/
def NotOwn (v : AV) : Prop := (∀ b n, v ≠ .own b n) ∧ ∀ b, v ≠ .ownT b

theorem quietR_vc {f : Operand} {args : Array Operand} {ats : Array TypeId} {v : AV} (h : NotOwn v) : quietR T (.call ⟨.value f, args, ats⟩) true v = true := by
  cases v <;> first | rfl | exact absurd rfl (h.1 _ _) | exact absurd rfl (h.2 _)

/-- An operation that leaves memory alone, as the region that draws has it. -/
theorem eff_of_pre {o : OrT} {all : List Oper} {s : St} {op : Oper} {C : Chain} {v : AV} {m1 : Mem} {ks : List Bool} {inv : Option Nat} (hp : preOp std T o.old all s.ts s.m s.tg op = some (C, v, m1, ks, inv))
    (hq : (∃ a b c, op.op = .pick a b c) ∨ quietR T op.op (quietCall std o.old s.ts s.m op.op) (aOp std T o.old s.ts s.m op.op).v = true) : eff std T o.old all s op = some (C, v, ks) ∧ m1 = s.m ∧ inv = none := by
  unfold preOp at hp
  unfold eff
  cases hC : chainOf all s.tg op.guard with
  | none => rw [hC] at hp; cases hp
  | some C' =>
    rw [hC] at hp
    simp only at hp ⊢
    rcases hq with ⟨a, b, c, hop⟩ | hq
    · rw [hop] at hp ⊢
      simp only [pre2, eff2] at hp ⊢
      split at hp
      · cases hp; rename_i h1 h2; exact ⟨by simp only [h1, h2], rfl, rfl⟩
      · cases hp
    · obtain ⟨e1, e2⟩ := call_quiet (T := T) std o.old s op.op hq
      have hp1 : pre1 std T o.old s.ts s.m s.tg C' op.op = some (C, v, m1, ks, inv) := by
        revert hp; generalize op.op = oo at hq
        cases oo <;> first | exact fun h => h | (simp [quietR, quietOp] at hq)
      have he : eff2 std T o.old s C' op.op = effVal std T o.old s C' op.op := by
        revert hq; generalize op.op = oo
        cases oo <;> intro hq <;> first | rfl | (simp [quietR, quietOp] at hq)
      rw [he]
      unfold effVal
      unfold pre1 at hp1
      cases hu : useOk s.tg C' op.op.operands.toList with
      | false => rw [hu] at hp1; cases hp1
      | true =>
        rw [hu] at hp1
        simp only at hp1
        cases C' with
        | nil =>
          cases hp1
          refine ⟨?_, e1, e2⟩
          show (match true, (some true : Option Bool) with
            | true, some g => match aOp std T o.old s.ts s.m op.op with
              | r => match quietR T op.op (quietCall std o.old s.ts s.m op.op) r.v with
                | true => some (([] : Chain), r.v, r.ks)
                | false => none
            | _, _ => none) = _
          simp only [hq]
        | cons x C' =>
          simp only at hp1
          unfold preG at hp1
          cases hg : chainVal std s.ts (x :: C') with
          | none => rw [hg] at hp1; cases hp1
          | some g =>
            rw [hg] at hp1
            simp only [hq] at hp1 ⊢
            cases hqo : quietOp T op.op with
            | true => rw [hqo] at hp1; cases hp1; exact ⟨rfl, rfl, rfl⟩
            | false =>
              rw [hqo] at hp1
              simp only at hp1
              split at hp1
              · split at hp1 <;> first | (cases hp1; done) | (cases hp1; exact ⟨rfl, rfl, rfl⟩)
              · cases hp1

theorem puQ_T {s s' : St} {C : Chain} {dst : Option Nat} {oo : Bool} {c : CallT} (h : (puQ std s C dst oo (some c)).run = some s') : (puT std s C dst oo (some c)).run = some s' ∧ (C = [] → ∃ a, c.t.run = some a ∧ NotOwn (aCallR s.m oo [] (c.r a)).v) := by
  cases C with
  | cons x C => exact ⟨h, fun e => by cases e⟩
  | nil =>
    simp only [puQ, puT, Tree.run] at h ⊢
    cases hr : c.t.run with
    | none => rw [hr] at h; cases h
    | some a =>
      rw [hr] at h
      have h : (match (aCallR s.m oo [] (c.r a)).v with
        | .own _ _ => Tree.fail
        | .ownT _ => Tree.fail
        | v => okT (lay s [] dst v s.m (aCallR s.m oo [] (c.r a)).ks none)).run = some s' := h
      have key : NotOwn (aCallR s.m oo [] (c.r a)).v ∧ (okT (lay s [] dst (aCallR s.m oo [] (c.r a)).v s.m (aCallR s.m oo [] (c.r a)).ks none)).run = some s' := by
        generalize (aCallR s.m oo [] (c.r a)).v = v at h
        cases v <;> first | (cases h; done) | exact ⟨⟨(fun _ _ e => by cases e), fun _ e => by cases e⟩, h⟩
      obtain ⟨hn, h⟩ := key
      refine ⟨?_, fun _ => ⟨a, rfl, hn⟩⟩
      show (okT (lay s [] dst (aCallR s.m oo [] (c.r a)).v (aCallR s.m oo [] (c.r a)).m (aCallR s.m oo [] (c.r a)).ks (aCallR s.m oo [] (c.r a)).inv)).run = some s'
      have hm : (aCallR s.m oo [] (c.r a)).m = s.m ∧ (aCallR s.m oo [] (c.r a)).inv = none := by
        revert hn
        cases c.r a with
        | val v => intro _; simp only [aCallR]; cases oo <;> first | exact ⟨rfl, rfl⟩ | (simp only; cases flatR v <;> exact ⟨rfl, rfl⟩)
        | fresh e sz n d => intro hn; cases oo with
          | true => exact absurd rfl (hn.1 _ _)
          | false => exact ⟨rfl, rfl⟩
        | freshT e u l =>
          intro hn
          simp only [aCallR] at hn ⊢
          cases hb : orB oo (flatT u) with
          | true => simp only [hb] at hn; exact absurd rfl (hn.2 _)
          | false => exact ⟨rfl, rfl⟩
        | valN e u l =>
          intro hn
          simp only [aCallR] at hn ⊢
          cases hb : flatT u <;> exact ⟨rfl, rfl⟩
      rw [hm.1, hm.2]; exact h

def StepQ (T : Tab) (o : OrT) (all : List Oper) (s : St) (op : Oper) (s' : St) : Prop := StepOk T o all s op s' ∧ ∃ e, eff std T o.old all s op = some e

theorem stepQ_ok {o : OrT} {all : List Oper} {s s' : St} {op : Oper} (hs : s.ks = []) (h : (stepQ std T o all s op).run = some s') : StepQ T o all s op s' := by
  unfold stepQ at h
  split at h
  · cases h
  unfold stepQ0 at h
  split at h
  · rename_i f args ats hop
    split at h
    · cases h
    · rename_i C hC
      split at h
      case h_2 => cases h
      rename_i g hu hg
      have haop : aOp std T o.old s.ts s.m op.op = aCall std o.old s.m (opnd s.ts f) (opnds s.ts args.toList) := by rw [hop]; rfl
      have hqc : quietCall std o.old s.ts s.m op.op = (match opnd s.ts f with
        | .fn (.func id) first cap => match o.old.me std id (catA first (catA (opnds s.ts args.toList) cap)) s.m with | none => true | some _ => false
        | _ => true) := by rw [hop]; rfl
      have fin : ∀ {id : Nat} {bargs : List AV} {oo : Bool} {c : CallT}, quietCall std o.old s.ts s.m op.op = true → aOp std T o.old s.ts s.m op.op = aCallP std o.old s.m id bargs oo → o.pu id bargs = some c →
          (puQ std s C op.dst oo (some c)).run = some s' → StepQ T o all s op s' := by
        intro id bargs oo c hq ha hc h
        obtain ⟨h1, h2⟩ := puQ_T h
        have hst := puStep hs hop hC hu hq ha hc h1
        refine ⟨hst, ?_⟩
        obtain ⟨C', v, m1, ks, inv, q1, q2, q3⟩ := hst
        have hCC : C' = C := by
          have := q1
          unfold preOp at this
          rw [hC, hop] at this
          simp only [pre2, pre1] at this
          split at this
          · cases this
          · cases C with
            | nil => cases this; rfl
            | cons x C =>
              simp only [preG] at this
              split at this
              · cases this
              · split at this
                · cases this; rfl
                · split at this <;> first | (cases this; done) | (cases this; rfl)
        subst hCC
        refine ⟨_, (eff_of_pre q1 (.inr ?_)).1⟩
        rw [hq, hop]
        refine quietR_vc ?_
        rw [← hop]
        cases C' with
        | nil =>
          obtain ⟨a, hr, hn⟩ := h2 rfl
          have hold : o.old.pu std id bargs = some ⟨c.r (c.t.run.getD c.d), [c.t.run.isSome]⟩ := by simp only [OrT.old, hc]
          rw [ha, aCallP_eq, hold, hr]
          have hks : AllT (aCallR s.m oo [] (c.r a)).ks := by
            simp only [puT, Tree.run, hr] at h1
            have h1 : (okT (lay s [] op.dst (aCallR s.m oo [] (c.r a)).v (aCallR s.m oo [] (c.r a)).m (aCallR s.m oo [] (c.r a)).ks (aCallR s.m oo [] (c.r a)).inv)).run = some s' := h1
            exact (lay_ks (okT_run h1).1).2
          show NotOwn (aCallR s.m oo [true] (c.r a)).v
          rw [aCallR_ks hks true]; exact hn
        | cons x C' =>
          unfold preOp at q1
          rw [hC, hop] at q1
          simp only [pre2, pre1] at q1
          split at q1
          · cases q1
          · simp only [preG] at q1
            split at q1
            · cases q1
            · split at q1
              · rename_i hqq; cases hqq
              · rw [hop]
                generalize (aOp std T o.old s.ts s.m (.call ⟨.value f, args, ats⟩)).v = vv at q1
                generalize quietCall std o.old s.ts s.m (.call ⟨.value f, args, ats⟩) = qq at q1
                cases qq <;> cases vv <;> first | (cases q1; done) | exact ⟨(fun _ _ e => by cases e), fun _ e => by cases e⟩
      unfold callQ at h
      split at h
      · rename_i id first cap hf
        rw [hf] at haop hqc
        simp only [aCall] at haop hqc
        split at h
        · cases h
        · rename_i hc
          rw [old_me hc] at haop hqc
          cases hp : o.pu id (borrows s.m (catA first (catA (opnds s.ts args.toList) cap))) with
          | none => rw [hp] at h; cases h
          | some c => rw [hp] at h; exact fin hqc haop hp h
      · rename_i id first cap hf
        rw [hf] at haop hqc
        simp only [aCall] at haop hqc
        cases hp : o.pu id (catA first (catA (borrows s.m (opnds s.ts args.toList)) cap)) with
        | none => rw [hp] at h; cases h
        | some c => rw [hp] at h; exact fin hqc haop hp h
      · cases h
  · rename_i a b c hop
    have hst := plainStep (o := o) hs (fun f args ats e => by rw [hop] at e; cases e) h
    refine ⟨hst, ?_⟩
    obtain ⟨C', v, m1, ks, inv, q1, q2, q3⟩ := hst
    exact ⟨_, (eff_of_pre q1 (.inl ⟨a, b, c, hop⟩)).1⟩
  · rename_i hno hnp
    split at h
    · rename_i hq
      have hst := plainStep (o := o) hs hno h
      refine ⟨hst, ?_⟩
      obtain ⟨C', v, m1, ks, inv, q1, q2, q3⟩ := hst
      refine ⟨_, (eff_of_pre q1 (.inr ?_)).1⟩
      unfold quietR; rw [hq]
    · cases h

theorem opsQ_ok {o : OrT} {all : List Oper} : ∀ {l : List Oper} {s s' : St}, s.ks = [] → (opsQ std T o all l s).run = some s' → s'.ks = [] ∧ ∀ k0, AllT k0 → ∃ K, AllT K ∧ aOpsQ std T o.old all l ⟨s.ts, s.m, s.tg, k0⟩ = ⟨s'.ts, s'.m, s'.tg, K⟩ := by
  intro l
  induction l with
  | nil => intro s s' hs h; cases h; exact ⟨hs, fun k0 hk => ⟨k0, hk, rfl⟩⟩
  | cons op l ih =>
    intro s s' hs h
    rw [opsQ, Tree.run_bind (stepQ_pl _ _ _ _ _ _)] at h
    cases h1 : (stepQ std T o all s op).run with
    | none => rw [h1] at h; cases h
    | some s1 =>
      rw [h1] at h
      obtain ⟨⟨C, v, m1, ks, inv, q1, q2, q3⟩, e, he⟩ := stepQ_ok hs h1
      obtain ⟨r1, r2⟩ := ih (s := s1) (by rw [q3]) h
      refine ⟨r1, fun k0 hk => ?_⟩
      obtain ⟨e1, e2⟩ := lay_acc q2 k0
      have hK : AllT (catB k0 ks) := AllT.cat.2 ⟨hk, e2⟩
      obtain ⟨K, k1, k2⟩ := r2 (catB k0 ks) hK
      refine ⟨K, k1, ?_⟩
      have he' : eff std T o.old all ⟨s.ts, s.m, s.tg, k0⟩ op = some e := he
      show aOpsQ std T o.old all l (aOperQ std T o.old all ⟨s.ts, s.m, s.tg, k0⟩ op) = _
      have e3 : aOperQ std T o.old all ⟨s.ts, s.m, s.tg, k0⟩ op = aOper std T o.old all ⟨s.ts, s.m, s.tg, k0⟩ op := by
        rw [aOperQ_eq he']; unfold aOperQ; rw [he']
      rw [e3, aOper_pre, q1]
      show aOpsQ std T o.old all l (lay ⟨s.ts, s.m, s.tg, k0⟩ C op.dst v m1 ks inv) = _
      rw [e1]
      rw [q3] at k2
      exact k2

end Go.Eng
