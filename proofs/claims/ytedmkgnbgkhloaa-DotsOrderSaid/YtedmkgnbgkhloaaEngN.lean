/- A region that may go in any order comes to what it comes to in the order of its text, if its operations leave memory alone. -/
import Derived.Test.YtedmkgnbgkhloaaEngM
import Derived.Orders
namespace Go.Eng
open Go Go.RowKit

variable {P : Program} {T : Tab} {base : Env} {w : World} {S : Nat → Prop} {m : Locs} {M : Mem}

/-- Does an operation leave memory alone? -/
def quietR (op : Op) (q : Bool) (v : AV) : Bool :=
  match quietOp op with
  | true => true
  | false => match op with
    | .call ⟨.value _, _, _⟩ => match q, v with | false, _ => false | true, .own _ _ => false | true, .ownT _ => false | true, _ => true
    | _ => false

def effVal (p : Prims) (T : Tab) (call : Oracle) (s : St) (C : Chain) (op : Op) : Option (Chain × AV × List Bool) :=
  match useOk s.tg C op.operands.toList, chainVal p s.ts C with
  | true, some g => match aOp p T call s.ts s.m op with
    | r => match quietR op (quietCall p call s.ts s.m op) r.v with
      | true => some (C, r.v, match C with | [] => r.ks | _ :: _ => impAll p g r.ks)
      | false => none
  | _, _ => none

def eff2 (p : Prims) (T : Tab) (call : Oracle) (s : St) (C : Chain) : Op → Option (Chain × AV × List Bool)
  | .pick c a b => match pickOk s.tg C c a b, aPick p s.ts c a b with
    | true, some v => some (C, v, [])
    | _, _ => none
  | op => effVal p T call s C op

/-- What an operation lays down, where it leaves memory alone. -/
def eff (p : Prims) (T : Tab) (call : Oracle) (ops : List Oper) (s : St) (o : Oper) : Option (Chain × AV × List Bool) :=
  match chainOf ops s.tg o.guard with
  | none => none
  | some C => eff2 p T call s C o.op

def layE (s : St) (dst : Option Nat) : Option (Chain × AV × List Bool) → St
  | none => failSt s
  | some (C, v, ks) => lay s C dst v s.m ks none

def aOperQ (p : Prims) (T : Tab) (call : Oracle) (ops : List Oper) (s : St) (o : Oper) : St := layE s o.dst (eff p T call ops s o)

def aOpsQ (p : Prims) (T : Tab) (call : Oracle) (all : List Oper) : List Oper → St → St
  | [], s => s
  | o :: l, s => aOpsQ p T call all l (aOperQ p T call all s o)

theorem call_quiet (p : Prims) (call : Oracle) (s : St) (op : Op) (h : quietR op (quietCall p call s.ts s.m op) (aOp p T call s.ts s.m op).v = true) : (aOp p T call s.ts s.m op).m = s.m ∧ (aOp p T call s.ts s.m op).inv = none := by
  unfold quietR at h
  split at h
  · rename_i hq; exact quiet_mem p call _ _ _ hq
  · split at h
    · rename_i f args ats
      split at h
      · simp at h
      · simp at h
      · simp at h
      · rename_i hq hv hv'
        exact call_mem p call s.m _ _ (quietCall_no hq) (fun b n e => hv b n e) fun b e => hv' b e
    · simp at h

theorem aOperQ_eq {p : Prims} {call : Oracle} {ops : List Oper} {s : St} {o : Oper} {e : Chain × AV × List Bool} (h : eff p T call ops s o = some e) : aOper p T call ops s o = layE s o.dst (some e) := by
  unfold eff at h
  unfold aOper
  split at h
  · simp at h
  rename_i C hC
  simp only [hC]
  unfold eff2 at h
  unfold aOper2
  split at h
  · rename_i c a b hop
    rw [hop]
    show aPickS p s C o.dst c a b = _
    unfold aPickS
    split at h
    · rename_i v h1 h2
      injection h with h; subst h
      simp only [h1, h2]; rfl
    · simp at h
  · rename_i op hnp
    have hh : aOper1 p T call s C o.dst o.op = layE s o.dst (some e) := by
      unfold effVal at h
      unfold aOper1
      split at h
      case h_2 => simp at h
      rename_i g hu hg
      simp only [hu]
      simp only at h
      split at h
      case h_2 => simp at h
      rename_i hq
      injection h with h
      obtain ⟨e1, e2⟩ := call_quiet (T := T) p call s _ hq
      cases C with
      | nil =>
        subst h
        show aPlain p T call s o.dst o.op = _
        have e0 : aPlain p T call s o.dst o.op = lay s [] o.dst (aOp p T call s.ts s.m o.op).v (aOp p T call s.ts s.m o.op).m (aOp p T call s.ts s.m o.op).ks (aOp p T call s.ts s.m o.op).inv := rfl
        rw [e0, e1, e2]; rfl
      | cons x C =>
        subst h
        show aGuarded p T call s (x :: C) o.dst o.op = _
        unfold aGuarded
        simp only [hg]
        split
        · rfl
        · rename_i hqq
          unfold quietR at hq
          simp only [hqq] at hq
          split at hq
          · rename_i f args ats heq
            rw [heq] at hq ⊢
            simp only at hq ⊢
            generalize (aOp p T call s.ts s.m (Op.call ⟨.value f, args, ats⟩)).v = v at *
            generalize quietCall p call s.ts s.m (Op.call ⟨.value f, args, ats⟩) = q at *
            cases q <;> cases v <;> first | rfl | (simp at hq; done) | cases hq
          · simp at hq
    revert hh
    generalize o.op = op at hnp
    cases op <;> first | exact fun hh => hh | exact absurd rfl (hnp _ _ _)

/-! What an operation looks at. -/

theorem opnds_congr {ts ts' : List AV} : ∀ {l : List Operand}, (∀ x ∈ l, opnd ts x = opnd ts' x) → opnds ts l = opnds ts' l := by
  intro l
  induction l with
  | nil => intro _; rfl
  | cons x l ih => intro h; simp only [opnds]; rw [h x (by simp), ih fun y hy => h y (by simp [hy])]

theorem aParts_congr {ts ts' : List AV} : ∀ {l : List (Nat × Operand)}, (∀ x ∈ l.map (·.2), opnd ts x = opnd ts' x) → aParts ts l = aParts ts' l := by
  intro l
  induction l with
  | nil => intro _; rfl
  | cons x l ih => intro h; obtain ⟨i, x⟩ := x; simp only [aParts]; rw [h x (by simp), ih fun y hy => h y (by simp only [List.map_cons]; exact List.mem_cons_of_mem _ hy)]

theorem aOp_congr {p : Prims} {call : Oracle} {ts ts' : List AV} (o : Op) (h : ∀ x ∈ o.operands.toList, opnd ts x = opnd ts' x) : aOp p T call ts M o = aOp p T call ts' M o := by
  cases o <;> simp only [Op.operands] at h <;> simp only [aOp]
  case build t ps => rw [aParts_congr fun x hx => h x (by simpa using hx)]
  case buildSlice t n ps => rw [aParts_congr fun x hx => h x (by simpa using hx)]
  case makeFunc f a c => rw [opnds_congr (l := a.toList) fun x hx => h x (by simp at hx; simp [hx]), opnds_congr (l := c.toList) fun x hx => h x (by simp at hx; simp [hx])]
  case call c =>
    obtain ⟨callee, args, ats⟩ := c
    have ha : opnds ts args.toList = opnds ts' args.toList := opnds_congr fun x hx => h x (by simp at hx; simp [Call.operands, hx])
    cases callee with
    | value f => simp only; rw [ha, h f (by simp [Call.operands])]
    | invoke r m => rfl
    | builtin b => simp only; rw [ha]
  case slice t x lo hi mx =>
    cases mx with
    | some mx =>
      cases lo with
      | some lo => rfl
      | none => cases hi with
        | none => rfl
        | some hi =>
          have h1 := h x (by simp)
          have h2 := h hi (by simp)
          simp only
          rw [h1, h2]
    | none =>
      simp only
      have h1 := h x (by simp)
      have h2 : optOpnd ts lo = optOpnd ts' lo := by cases lo with | none => rfl | some lo => simp only [optOpnd]; rw [h lo (by simp)]
      have h3 : optOpnd ts hi = optOpnd ts' hi := by cases hi with | none => rfl | some hi => simp only [optOpnd]; rw [h hi (by simp)]
      rw [h1, h2, h3]
  all_goals (first | rfl | (simp_all; done))

theorem quietCall_congr {p : Prims} {call : Oracle} {ts ts' : List AV} (o : Op) (h : ∀ x ∈ o.operands.toList, opnd ts x = opnd ts' x) : quietCall p call ts M o = quietCall p call ts' M o := by
  cases o with
  | call c =>
    obtain ⟨callee, args, ats⟩ := c
    have ha : opnds ts args.toList = opnds ts' args.toList := opnds_congr fun x hx => h x (by simp at hx; simp [Op.operands, Call.operands, hx])
    cases callee with
    | value f => simp only [quietCall]; rw [ha, h f (by simp [Op.operands, Call.operands])]
    | invoke r m => rfl
    | builtin b => rfl
  | _ => rfl

theorem useOk_congr {tg tg' : Tags} {C : Chain} : ∀ {l : List Operand}, (∀ t, Operand.tmp t ∈ l → tagOf tg t = tagOf tg' t) → useOk tg C l = useOk tg' C l := by
  intro l
  induction l with
  | nil => intro _; rfl
  | cons x l ih =>
    intro h
    have := ih fun t ht => h t (by simp [ht])
    cases x with
    | tmp t => simp only [useOk]; rw [h t (by simp), this]
    | _ => simpa only [useOk] using this

theorem litOf_congr {p : Prims} {ts ts' : List AV} {s : Nat} {b : Bool} (h : nth ts s = nth ts' s) : litOf p ts s b = litOf p ts' s b := by unfold litOf; rw [h]

theorem chainVal_congr {p : Prims} {ts ts' : List AV} : ∀ {C : Chain}, (∀ s b, (s, b) ∈ C → nth ts s = nth ts' s) → chainVal p ts C = chainVal p ts' C := by
  intro C
  induction C with
  | nil => intro _; rfl
  | cons x C ih =>
    obtain ⟨s, b⟩ := x
    intro h
    have h1 := litOf_congr (p := p) (b := b) (h s b (by simp))
    have h2 := ih fun s b hm => h s b (by simp [hm])
    cases C with
    | nil => exact h1
    | cons y C => simp only [chainVal] at h2 ⊢; rw [h1, h2]

theorem opnd_congr {ts ts' : List AV} {x : Operand} (h : ∀ t, x = .tmp t → nth ts t = nth ts' t) : opnd ts x = opnd ts' x := by
  cases x with
  | tmp t => exact h t rfl
  | const v => cases v <;> rfl
  | _ => rfl

/-- Two states that agree on what an operation looks at. -/
structure Agree (ops : List Oper) (s h : St) (o : Oper) : Prop where
  m : s.m = h.m
  val : ∀ t, Operand.tmp t ∈ o.op.operands.toList → nth s.ts t = nth h.ts t ∧ tagOf s.tg t = tagOf h.tg t
  guard : ∀ C, chainOf ops s.tg o.guard = some C → chainOf ops h.tg o.guard = some C ∧ ∀ t b, (t, b) ∈ C → nth s.ts t = nth h.ts t

theorem eff_congr {p : Prims} {call : Oracle} {ops : List Oper} {s h : St} {o : Oper} (ha : Agree ops s h o) {e : Chain × AV × List Bool} (hs : eff p T call ops s o = some e) : eff p T call ops h o = some e := by
  unfold eff at hs ⊢
  split at hs
  · simp at hs
  rename_i C hC
  obtain ⟨hC', hv⟩ := ha.guard C hC
  simp only [hC']
  have hop : ∀ x ∈ o.op.operands.toList, opnd s.ts x = opnd h.ts x := fun x hx => opnd_congr fun t ht => (ha.val t (ht ▸ hx)).1
  rw [← hs]
  have gen : effVal p T call h C o.op = effVal p T call s C o.op := by
    unfold effVal
    rw [useOk_congr fun t ht => ((ha.val t ht).2).symm, chainVal_congr fun t b hm => (hv t b hm).symm, ← ha.m, aOp_congr (p := p) o.op fun x hx => (hop x hx).symm, quietCall_congr (p := p) o.op fun x hx => (hop x hx).symm]
  unfold eff2
  have hv' := ha.val
  generalize o.op = op at *
  cases op with
  | pick c a b =>
    simp only [Op.operands] at hv' hop
    simp only
    have hc := hop c (by simp)
    have h1 := hop a (by simp)
    have h2 := hop b (by simp)
    have e1 : pickOk h.tg C c a b = pickOk s.tg C c a b := by
      cases c with
      | tmp t =>
        simp only [pickOk]
        rw [(hv' t (by simp)).2, useOk_congr (l := [a]) fun t ht => ((hv' t (by simp at ht; simp [ht])).2).symm, useOk_congr (l := [b]) fun t ht => ((hv' t (by simp at ht; simp [ht])).2).symm]
      | _ => rfl
    have e2 : aPick p h.ts c a b = aPick p s.ts c a b := by
      unfold aPick
      rw [hc]
      split
      · split
        · rename_i a' _ _ _ _; rw [h1]
        · rw [h2]
        · rfl
      · rfl
    rw [e1, e2]
  | _ => exact gen

end Go.Eng
