/- A region that may go in any order comes to what it comes to in the order of its text, if its operations leave memory alone. A region that may go in any order: the proof that each order comes to the same. The rule for a region that may go in any order. -/
import Derived.Test.YtapnoaalcbcmaaaEngM
import Derived.Orders
namespace Go.Eng
open Go Go.RowKit

variable {P : Program} {T : Tab} {base : Env} {w : World} {S : Nat → Prop} {m : Locs} {M : Mem}

/-- Does an operation leave memory alone? -/
def quietR (T : Tab) (op : Op) (q : Bool) (v : AV) : Bool :=
  match quietOp T op with
  | true => true
  | false => match op with
    | .call ⟨.value _, _, _⟩ => match q, v with | false, _ => false | true, .own _ _ => false | true, .ownT _ => false | true, _ => true
    | _ => false

def effVal (p : Prims) (T : Tab) (call : Oracle) (s : St) (C : Chain) (op : Op) : Option (Chain × AV × List Bool) :=
  match useOk s.tg C op.operands.toList, chainVal p s.ts C with
  | true, some g => match aOp p T call s.ts s.m op with
    | r => match quietR T op (quietCall p call s.ts s.m op) r.v with
      | true => some (C, r.v, match C with | [] => r.ks | _ :: _ => impAll p g r.ks)
      | false => none
  | _, _ => none

def eff2 (p : Prims) (T : Tab) (call : Oracle) (s : St) (C : Chain) : Op → Option (Chain × AV × List Bool)
  | .pick c a b => match pickOk s.tg C c a b, aPick p s.ts c a b with
    | true, some v => some (C, v, [])
    | _, _ => none
  | op => effVal p T call s C op

/-- What an operation lays down, where it leaves memory alone. -/
def eff (p : Prims) (T : Tab) (call : Oracle) (ops : List Oper) (s : St) (o : Oper) : Option (Chain × AV × List Bool) :=
  match chainOf ops s.tg o.guard with
  | none => none
  | some C => eff2 p T call s C o.op

def layE (s : St) (dst : Option Nat) : Option (Chain × AV × List Bool) → St
  | none => failSt s
  | some (C, v, ks) => lay s C dst v s.m ks none

def aOperQ (p : Prims) (T : Tab) (call : Oracle) (ops : List Oper) (s : St) (o : Oper) : St := layE s o.dst (eff p T call ops s o)

def aOpsQ (p : Prims) (T : Tab) (call : Oracle) (all : List Oper) : List Oper → St → St
  | [], s => s
  | o :: l, s => aOpsQ p T call all l (aOperQ p T call all s o)

theorem call_quiet (p : Prims) (call : Oracle) (s : St) (op : Op) (h : quietR T op (quietCall p call s.ts s.m op) (aOp p T call s.ts s.m op).v = true) : (aOp p T call s.ts s.m op).m = s.m ∧ (aOp p T call s.ts s.m op).inv = none := by
  unfold quietR at h
  split at h
  · rename_i hq; exact quiet_mem p call _ _ _ hq
  · split at h
    · rename_i f args ats
      split at h
      · simp at h
      · simp at h
      · simp at h
      · rename_i hq hv hv'
        exact call_mem p call s.m _ _ (quietCall_no hq) (fun b n e => hv b n e) fun b e => hv' b e
    · simp at h

theorem aOperQ_eq {p : Prims} {call : Oracle} {ops : List Oper} {s : St} {o : Oper} {e : Chain × AV × List Bool} (h : eff p T call ops s o = some e) : aOper p T call ops s o = layE s o.dst (some e) := by
  unfold eff at h
  unfold aOper
  split at h
  · simp at h
  rename_i C hC
  simp only [hC]
  unfold eff2 at h
  unfold aOper2
  split at h
  · rename_i c a b hop
    rw [hop]
    show aPickS p s C o.dst c a b = _
    unfold aPickS
    split at h
    · rename_i v h1 h2
      injection h with h; subst h
      simp only [h1, h2]; rfl
    · simp at h
  · rename_i op hnp
    have hh : aOper1 p T call s C o.dst o.op = layE s o.dst (some e) := by
      unfold effVal at h
      unfold aOper1
      split at h
      case h_2 => simp at h
      rename_i g hu hg
      simp only [hu]
      simp only at h
      split at h
      case h_2 => simp at h
      rename_i hq
      injection h with h
      obtain ⟨e1, e2⟩ := call_quiet (T := T) p call s _ hq
      cases C with
      | nil =>
        subst h
        show aPlain p T call s o.dst o.op = _
        have e0 : aPlain p T call s o.dst o.op = lay s [] o.dst (aOp p T call s.ts s.m o.op).v (aOp p T call s.ts s.m o.op).m (aOp p T call s.ts s.m o.op).ks (aOp p T call s.ts s.m o.op).inv := rfl
        rw [e0, e1, e2]; rfl
      | cons x C =>
        subst h
        show aGuarded p T call s (x :: C) o.dst o.op = _
        unfold aGuarded
        simp only [hg]
        split
        · rfl
        · rename_i hqq
          unfold quietR at hq
          simp only [hqq] at hq
          split at hq
          · rename_i f args ats heq
            rw [heq] at hq ⊢
            simp only at hq ⊢
            generalize (aOp p T call s.ts s.m (Op.call ⟨.value f, args, ats⟩)).v = v at *
            generalize quietCall p call s.ts s.m (Op.call ⟨.value f, args, ats⟩) = q at *
            cases q <;> cases v <;> first | rfl | (simp at hq; done) | cases hq
          · simp at hq
    revert hh
    generalize o.op = op at hnp
    cases op <;> first | exact fun hh => hh | exact absurd rfl (hnp _ _ _)

/-! What an operation looks at. -/

theorem opnds_congr {ts ts' : List AV} : ∀ {l : List Operand}, (∀ x ∈ l, opnd ts x = opnd ts' x) → opnds ts l = opnds ts' l := by
  intro l
  induction l with
  | nil => intro _; rfl
  | cons x l ih => intro h; simp only [opnds]; rw [h x (by simp), ih fun y hy => h y (by simp [hy])]

theorem aParts_congr {ts ts' : List AV} : ∀ {l : List (Nat × Operand)}, (∀ x ∈ l.map (·.2), opnd ts x = opnd ts' x) → aParts ts l = aParts ts' l := by
  intro l
  induction l with
  | nil => intro _; rfl
  | cons x l ih => intro h; obtain ⟨i, x⟩ := x; simp only [aParts]; rw [h x (by simp), ih fun y hy => h y (by simp only [List.map_cons]; exact List.mem_cons_of_mem _ hy)]

theorem aOp_congr {p : Prims} {call : Oracle} {ts ts' : List AV} (o : Op) (h : ∀ x ∈ o.operands.toList, opnd ts x = opnd ts' x) : aOp p T call ts M o = aOp p T call ts' M o := by
  cases o <;> simp only [Op.operands] at h <;> simp only [aOp]
  case build t ps => rw [aParts_congr fun x hx => h x (by simpa using hx)]
  case buildSlice t n ps => rw [aParts_congr fun x hx => h x (by simpa using hx)]
  case makeFunc f a c => rw [opnds_congr (l := a.toList) fun x hx => h x (by simp at hx; simp [hx]), opnds_congr (l := c.toList) fun x hx => h x (by simp at hx; simp [hx])]
  case call c =>
    obtain ⟨callee, args, ats⟩ := c
    have ha : opnds ts args.toList = opnds ts' args.toList := opnds_congr fun x hx => h x (by simp at hx; simp [Call.operands, hx])
    cases callee with
    | value f => simp only; rw [ha, h f (by simp [Call.operands])]
    | invoke r m => rfl
    | builtin b => simp only; rw [ha]
  case slice t x lo hi mx =>
    cases mx with
    | some mx =>
      cases lo with
      | some lo => rfl
      | none => cases hi with
        | none => rfl
        | some hi =>
          have h1 := h x (by simp)
          have h2 := h hi (by simp)
          have h3 := h mx (by simp)
          simp only
          rw [h1, h2, h3]
    | none =>
      simp only
      have h1 := h x (by simp)
      have h2 : optOpnd ts lo = optOpnd ts' lo := by cases lo with | none => rfl | some lo => simp only [optOpnd]; rw [h lo (by simp)]
      have h3 : optOpnd ts hi = optOpnd ts' hi := by cases hi with | none => rfl | some hi => simp only [optOpnd]; rw [h hi (by simp)]
      rw [h1, h2, h3]
  all_goals (first | rfl | (simp_all; done) | (rename_i t r _; cases r <;> rfl) | (rename_i r _; cases r <;> rfl) | (rename_i r; cases r <;> rfl))

theorem quietCall_congr {p : Prims} {call : Oracle} {ts ts' : List AV} (o : Op) (h : ∀ x ∈ o.operands.toList, opnd ts x = opnd ts' x) : quietCall p call ts M o = quietCall p call ts' M o := by
  cases o with
  | call c =>
    obtain ⟨callee, args, ats⟩ := c
    have ha : opnds ts args.toList = opnds ts' args.toList := opnds_congr fun x hx => h x (by simp at hx; simp [Op.operands, Call.operands, hx])
    cases callee with
    | value f => simp only [quietCall]; rw [ha, h f (by simp [Op.operands, Call.operands])]
    | invoke r m => rfl
    | builtin b => rfl
  | _ => rfl

theorem useOk_congr {tg tg' : Tags} {C : Chain} : ∀ {l : List Operand}, (∀ t, Operand.tmp t ∈ l → tagOf tg t = tagOf tg' t) → useOk tg C l = useOk tg' C l := by
  intro l
  induction l with
  | nil => intro _; rfl
  | cons x l ih =>
    intro h
    have := ih fun t ht => h t (by simp [ht])
    cases x with
    | tmp t => simp only [useOk]; rw [h t (by simp), this]
    | _ => simpa only [useOk] using this

theorem litOf_congr {p : Prims} {ts ts' : List AV} {s : Nat} {b : Bool} (h : nth ts s = nth ts' s) : litOf p ts s b = litOf p ts' s b := by unfold litOf; rw [h]

theorem chainVal_congr {p : Prims} {ts ts' : List AV} : ∀ {C : Chain}, (∀ s b, (s, b) ∈ C → nth ts s = nth ts' s) → chainVal p ts C = chainVal p ts' C := by
  intro C
  induction C with
  | nil => intro _; rfl
  | cons x C ih =>
    obtain ⟨s, b⟩ := x
    intro h
    have h1 := litOf_congr (p := p) (b := b) (h s b (by simp))
    have h2 := ih fun s b hm => h s b (by simp [hm])
    cases C with
    | nil => exact h1
    | cons y C => simp only [chainVal] at h2 ⊢; rw [h1, h2]

theorem opnd_congr {ts ts' : List AV} {x : Operand} (h : ∀ t, x = .tmp t → nth ts t = nth ts' t) : opnd ts x = opnd ts' x := by
  cases x with
  | tmp t => exact h t rfl
  | const v => cases v <;> rfl
  | _ => rfl

/-- Two states that agree on what an operation looks at. -/
structure Agree (ops : List Oper) (s h : St) (o : Oper) : Prop where
  m : s.m = h.m
  val : ∀ t, Operand.tmp t ∈ o.op.operands.toList → nth s.ts t = nth h.ts t ∧ tagOf s.tg t = tagOf h.tg t
  guard : ∀ C, chainOf ops s.tg o.guard = some C → chainOf ops h.tg o.guard = some C ∧ ∀ t b, (t, b) ∈ C → nth s.ts t = nth h.ts t

theorem eff_congr {p : Prims} {call : Oracle} {ops : List Oper} {s h : St} {o : Oper} (ha : Agree ops s h o) {e : Chain × AV × List Bool} (hs : eff p T call ops s o = some e) : eff p T call ops h o = some e := by
  unfold eff at hs ⊢
  split at hs
  · simp at hs
  rename_i C hC
  obtain ⟨hC', hv⟩ := ha.guard C hC
  simp only [hC']
  have hop : ∀ x ∈ o.op.operands.toList, opnd s.ts x = opnd h.ts x := fun x hx => opnd_congr fun t ht => (ha.val t (ht ▸ hx)).1
  rw [← hs]
  have gen : effVal p T call h C o.op = effVal p T call s C o.op := by
    unfold effVal
    rw [useOk_congr fun t ht => ((ha.val t ht).2).symm, chainVal_congr fun t b hm => (hv t b hm).symm, ← ha.m, aOp_congr (p := p) o.op fun x hx => (hop x hx).symm, quietCall_congr (p := p) o.op fun x hx => (hop x hx).symm]
  unfold eff2
  have hv' := ha.val
  generalize o.op = op at *
  cases op with
  | pick c a b =>
    simp only [Op.operands] at hv' hop
    simp only
    have hc := hop c (by simp)
    have h1 := hop a (by simp)
    have h2 := hop b (by simp)
    have e1 : pickOk h.tg C c a b = pickOk s.tg C c a b := by
      cases c with
      | tmp t =>
        simp only [pickOk]
        rw [(hv' t (by simp)).2, useOk_congr (l := [a]) fun t ht => ((hv' t (by simp at ht; simp [ht])).2).symm, useOk_congr (l := [b]) fun t ht => ((hv' t (by simp at ht; simp [ht])).2).symm]
      | _ => rfl
    have e2 : aPick p h.ts c a b = aPick p s.ts c a b := by
      unfold aPick
      rw [hc]
      split
      · split
        · rename_i a' _ _ _ _; rw [h1]
        · rw [h2]
        · rfl
      · rfl
    rw [e1, e2]
  | _ => exact gen

end Go.Eng

namespace Go.Eng
open Go Go.RowKit

variable {P : Program} {T : Tab} {base : Env} {w : World} {S : Nat → Prop} {m : Locs} {M : Mem}

def predsOf (o : Oper) : List Nat := (o.after.toList.filter fun e => Region.binds .any e).map (·.on)

/-- The check of a region's text, one operation against all. -/
def drawOk1 (ops : Array Oper) (i : Nat) (o : Oper) : Bool :=
  (predsOf o).all (fun j => Nat.blt j i) &&
  (match o.guard with | some (g, _) => (predsOf o).contains g | none => true) &&
  (List.range ops.size).all fun j => match ops[j]? with
    | none => true
    | some o' => match o'.dst with
      | none => true
      | some d => (j == i || o.dst != some d) && (!(o.looksAt ops).contains d || (predsOf o).contains j || (predsOf o').contains i)

def drawOk (ops : Array Oper) : Bool :=
  (List.range ops.size).all fun i => match ops[i]? with
    | none => true
    | some o => drawOk1 ops i o

structure DrawOk (ops : Array Oper) : Prop where
  back : ∀ (i : Nat) (o : Oper), ops[i]? = some o → ∀ j ∈ predsOf o, j < i
  guard : ∀ (i : Nat) (o : Oper) (g : Nat) (b : Bool), ops[i]? = some o → o.guard = some (g, b) → g ∈ predsOf o
  one : ∀ (i j : Nat) (o o' : Oper) (d : Nat), ops[i]? = some o → ops[j]? = some o' → o'.dst = some d → j ≠ i → o.dst ≠ some d
  look : ∀ (i j : Nat) (o o' : Oper) (d : Nat), ops[i]? = some o → ops[j]? = some o' → o'.dst = some d → d ∈ o.looksAt ops → j ∈ predsOf o ∨ i ∈ predsOf o'

theorem DrawOk.of {ops : Array Oper} (h : drawOk ops = true) : DrawOk ops := by
  have h1 : ∀ (i : Nat) (o : Oper), ops[i]? = some o → drawOk1 ops i o = true := fun i o hi => by
    unfold drawOk at h
    rw [List.all_eq_true] at h
    have := h i (by rw [List.mem_range]; exact (Array.getElem?_eq_some_iff.1 hi).1)
    simpa only [hi] using this
  have h2 : ∀ (i j : Nat) (o o' : Oper) (d : Nat), ops[i]? = some o → ops[j]? = some o' → o'.dst = some d → ((j == i || o.dst != some d) && (!(o.looksAt ops).contains d || (predsOf o).contains j || (predsOf o').contains i)) = true := fun i j o o' d hi hj hd => by
    have := h1 i o hi
    unfold drawOk1 at this
    rw [Bool.and_eq_true, Bool.and_eq_true, List.all_eq_true (l := List.range ops.size)] at this
    have := this.2 j (by rw [List.mem_range]; exact (Array.getElem?_eq_some_iff.1 hj).1)
    simpa only [hj, hd] using this
  refine ⟨fun i o hi j hj => ?_, fun i o g b hi hg => ?_, fun i j o o' d hi hj hd hne he => ?_, fun i j o o' d hi hj hd hl => ?_⟩
  · have := h1 i o hi
    unfold drawOk1 at this
    rw [Bool.and_eq_true, Bool.and_eq_true, List.all_eq_true] at this
    have := this.1.1 j hj
    exact Nat.blt_eq ▸ this
  · have := h1 i o hi
    unfold drawOk1 at this
    rw [Bool.and_eq_true, Bool.and_eq_true] at this
    have := this.1.2
    rw [hg] at this
    simpa using this
  · have := h2 i j o o' d hi hj hd
    simp [hne, he] at this
  · have := h2 i j o o' d hi hj hd
    rw [Bool.and_eq_true] at this
    have := this.2
    simp [hl] at this
    exact this

def Wr (ops : Array Oper) (L : Nat → Prop) (t : Nat) : Prop := ∃ j o, L j ∧ ops[j]? = some o ∧ o.dst = some t

/-- A state in which just the operations of L are done. -/
structure Hyb (ops : Array Oper) (s0 sn : St) (L : Nat → Prop) (h : St) : Prop where
  m : h.m = s0.m
  len : lenA h.ts = lenA s0.ts
  wr : ∀ t, Wr ops L t → nth h.ts t = nth sn.ts t ∧ tagOf h.tg t = tagOf sn.tg t
  un : ∀ t, ¬ Wr ops L t → nth h.ts t = nth s0.ts t ∧ tagOf h.tg t = []
  tg : ∀ t C, (t, C) ∈ h.tg → ∀ s b, (s, b) ∈ C → Wr ops L s
  ks : AllT h.ks

theorem mem_tagOf {tg : Tags} {t s : Nat} {b : Bool} (h : (s, b) ∈ tagOf tg t) : ∃ C, (t, C) ∈ tg ∧ (s, b) ∈ C := by
  induction tg with
  | nil => simp [tagOf] at h
  | cons x tg ih =>
    obtain ⟨u, C⟩ := x
    simp only [tagOf] at h
    split at h
    · rename_i e
      have e := Nat.eq_of_beq_eq_true e
      subst e
      exact ⟨C, by simp, h⟩
    · obtain ⟨C', h1, h2⟩ := ih h
      exact ⟨C', List.mem_cons_of_mem _ h1, h2⟩

theorem mem_setTag {tg : Tags} {d t : Nat} {C C' : Chain} (h : (t, C') ∈ setTag tg d C) : (t = d ∧ C' = C) ∨ (t, C') ∈ tg := by
  unfold setTag at h
  split at h
  · exact .inr h
  · rcases List.mem_cons.1 h with h | h
    · injection h with h1 h2; exact .inl ⟨h1, h2⟩
    · exact .inr h

theorem mentions_false {d : Nat} {C : Chain} (h : ∀ s b, (s, b) ∈ C → d ≠ s) : mentions d C = false := by
  induction C with
  | nil => rfl
  | cons x C ih =>
    obtain ⟨s, b⟩ := x
    simp only [mentions]
    rw [nbeq_ne (h s b (by simp))]
    exact ih fun s b hm => h s b (List.mem_cons_of_mem _ hm)

theorem mentioned_false {d : Nat} {tg : Tags} (h : ∀ t C, (t, C) ∈ tg → ∀ s b, (s, b) ∈ C → d ≠ s) : mentioned d tg = false := by
  induction tg with
  | nil => rfl
  | cons x tg ih =>
    obtain ⟨t, C⟩ := x
    simp only [mentioned]
    rw [mentions_false fun s b hm => h t C (by simp) s b hm]
    exact ih fun t C hm => h t C (List.mem_cons_of_mem _ hm)

/-- An operation more. -/
theorem Hyb.step {ops : Array Oper} (hd : DrawOk ops) {s0 sn h : St} {L : Nat → Prop} (hh : Hyb ops s0 sn L h) {i : Nat} {o : Oper} (hi : ops[i]? = some o) (hL : ¬ L i) {C : Chain} {v : AV} {ks : List Bool} (hk : AllT ks)
    (hC : ∀ s b, (s, b) ∈ C → Wr ops L s) (hsn : ∀ d, o.dst = some d → nth sn.ts d = nth (put s0.ts d v) d ∧ tagOf sn.tg d = C) :
    Hyb ops s0 sn (fun j => L j ∨ j = i) (layE h o.dst (some (C, v, ks))) := by
  have fresh : ∀ d, o.dst = some d → ¬ Wr ops L d := fun d hdst ⟨j, o', hj, ho', hd'⟩ => hd.one i j o o' d hi ho' hd' (fun e => hL (e ▸ hj)) hdst
  have wmono : ∀ t, Wr ops L t → Wr ops (fun j => L j ∨ j = i) t := fun t ⟨j, o', hj, h'⟩ => ⟨j, o', .inl hj, h'⟩
  have wcase : ∀ t, Wr ops (fun j => L j ∨ j = i) t → Wr ops L t ∨ o.dst = some t := fun t ⟨j, o', hj, ho', hd'⟩ => by
    rcases hj with hj | rfl
    · exact .inl ⟨j, o', hj, ho', hd'⟩
    · rw [hi] at ho'; injection ho' with ho'; subst ho'; exact .inr hd'
  cases hdst : o.dst with
  | none =>
    have e : layE h none (some (C, v, ks)) = ⟨h.ts, h.m, h.tg, catB h.ks ks⟩ := rfl
    rw [e]
    refine ⟨hh.m, hh.len, fun t ht => ?_, fun t ht => hh.un t fun hw => ht (wmono t hw), fun t C hm s b hs => wmono _ (hh.tg t C hm s b hs), ?_⟩
    · rcases wcase t ht with ht | ht
      · exact hh.wr t ht
      · rw [hdst] at ht; simp at ht
    · rw [AllT.cat]; exact ⟨hh.ks, hk⟩
  | some d =>
    have hfr := fresh d hdst
    have e : layE h (some d) (some (C, v, ks)) = ⟨put h.ts d v, h.m, setTag h.tg d C, catB h.ks ks⟩ := by
      show lay h C (some d) v h.m ks none = _
      have q1 : mentioned d h.tg = false := mentioned_false fun t C hm s b hs (e : d = s) => hfr (e ▸ hh.tg t C hm s b hs)
      have q2 : mentions d C = false := mentions_false fun s b hs (e : d = s) => hfr (e ▸ hC s b hs)
      unfold lay
      simp only [q1, q2]
    rw [e]
    obtain ⟨k1, k2⟩ := hsn d hdst
    refine ⟨hh.m, by rw [lenA_put]; exact hh.len, fun t ht => ?_, fun t ht => ?_, fun t C' hm s b hs => ?_, ?_⟩
    · simp only
      rw [tagOf_set, nth_put]
      by_cases et : d = t
      · subst et
        rw [if_pos rfl, k2, k1, nth_put, hh.len]
        refine ⟨?_, rfl⟩
        by_cases hlt : d < lenA s0.ts
        · rw [if_pos ⟨rfl, hlt⟩, if_pos ⟨rfl, hlt⟩]
        · rw [if_neg (fun x => hlt x.2), if_neg (fun x => hlt x.2)]; exact (hh.un d hfr).1
      · rw [if_neg et, if_neg (fun x => et x.1)]
        rcases wcase t ht with ht | ht
        · exact hh.wr t ht
        · rw [hdst] at ht; injection ht with ht; exact absurd ht et
    · simp only
      have et : d ≠ t := fun et => ht ⟨i, o, .inr rfl, hi, et ▸ hdst⟩
      rw [tagOf_set, nth_put, if_neg et, if_neg (fun x => et x.1)]
      exact hh.un t fun hw => ht (wmono t hw)
    · rcases mem_setTag hm with ⟨_, rfl⟩ | hm
      · exact wmono _ (hC s b hs)
      · exact wmono _ (hh.tg t C' hm s b hs)
    · simp only
      rw [AllT.cat]; exact ⟨hh.ks, hk⟩

theorem layE_ks {s : St} {d : Option Nat} {e : Option (Chain × AV × List Bool)} (h : AllT (layE s d e).ks) : ∃ C v ks, e = some (C, v, ks) ∧ AllT s.ks ∧ AllT ks := by
  cases e with
  | none => exact (fail_ks h).elim
  | some e => obtain ⟨C, v, ks⟩ := e; exact ⟨C, v, ks, rfl, lay_ks h⟩

def putO (ts : List AV) (d : Option Nat) (v : AV) (t : Nat) : AV := match d with | some d => nth (put ts d v) t | none => nth ts t
def tagO (tg : Tags) (d : Option Nat) (C : Chain) (t : Nat) : Chain := match d with | some d => (if d = t then C else tagOf tg t) | none => tagOf tg t

theorem layE_form {s : St} {d : Option Nat} {C : Chain} {v : AV} {ks : List Bool} (h : AllT (layE s d (some (C, v, ks))).ks) :
    (∀ t, nth (layE s d (some (C, v, ks))).ts t = putO s.ts d v t) ∧ (∀ t, tagOf (layE s d (some (C, v, ks))).tg t = tagO s.tg d C t) ∧
      lenA (layE s d (some (C, v, ks))).ts = lenA s.ts ∧ (layE s d (some (C, v, ks))).m = s.m := by
  cases d with
  | none => exact ⟨fun _ => rfl, fun _ => rfl, rfl, rfl⟩
  | some d =>
    simp only [layE] at h ⊢
    unfold lay at h ⊢
    simp only at h ⊢
    split at h
    case h_2 => exact (fail_ks h).elim
    exact ⟨fun _ => rfl, fun t => tagOf_set _ _ _ _, lenA_put _ _ _, rfl⟩

/-- The state before operation k, in the order of the text. -/
def stAt (p : Prims) (T : Tab) (call : Oracle) (ops : Array Oper) (s0 : St) (k : Nat) : St := aOpsQ p T call ops.toList (ops.toList.take k) s0

theorem aOpsQ_append {p : Prims} {call : Oracle} {all : List Oper} : ∀ (l k : List Oper) (s : St), aOpsQ p T call all (l ++ k) s = aOpsQ p T call all k (aOpsQ p T call all l s) := by
  intro l
  induction l with
  | nil => intro k s; rfl
  | cons o l ih => intro k s; exact ih k _

theorem stAt_succ {p : Prims} {call : Oracle} {ops : Array Oper} {s0 : St} {k : Nat} {o : Oper} (h : ops[k]? = some o) : stAt p T call ops s0 (k + 1) = aOperQ p T call ops.toList (stAt p T call ops s0 k) o := by
  unfold stAt
  have : ops.toList[k]? = some o := by rw [Array.getElem?_toList]; exact h
  rw [List.take_add_one, this, aOpsQ_append]
  rfl

section
variable {p : Prims} {call : Oracle} {ops : Array Oper} {s0 : St}

theorem stAt_ks (hk : AllT (stAt p T call ops s0 ops.size).ks) : ∀ d k, k + d = ops.size → AllT (stAt p T call ops s0 k).ks := by
  intro d
  induction d with
  | zero => intro k h; have h : k = ops.size := h; rw [h]; exact hk
  | succ d ih =>
    intro k h
    have h1 := ih (k + 1) (by omega)
    have hlt : k < ops.size := by omega
    rw [stAt_succ (Array.getElem?_eq_getElem hlt)] at h1
    obtain ⟨C, v, ks, _, h2, _⟩ := layE_ks h1
    exact h2

theorem stAt_ks' (hk : AllT (stAt p T call ops s0 ops.size).ks) {k : Nat} (h : k ≤ ops.size) : AllT (stAt p T call ops s0 k).ks := stAt_ks hk (ops.size - k) k (by omega)

/-- A slot that is not written from k on. -/
theorem stAt_keep (hk : AllT (stAt p T call ops s0 ops.size).ks) {t : Nat} : ∀ d k, k + d = ops.size → (∀ j o, k ≤ j → ops[j]? = some o → o.dst ≠ some t) →
    nth (stAt p T call ops s0 ops.size).ts t = nth (stAt p T call ops s0 k).ts t ∧ tagOf (stAt p T call ops s0 ops.size).tg t = tagOf (stAt p T call ops s0 k).tg t := by
  intro d
  induction d with
  | zero => intro k h _; have h : k = ops.size := h; rw [h]; exact ⟨rfl, rfl⟩
  | succ d ih =>
    intro k h hno
    have hlt : k < ops.size := by omega
    have hg := Array.getElem?_eq_getElem hlt
    obtain ⟨e1, e2⟩ := ih (k + 1) (by omega) (fun j o hj => hno j o (by omega))
    have hks := stAt_ks' hk (k := k + 1) (by omega)
    rw [e1, e2]
    rw [stAt_succ hg] at hks ⊢
    unfold aOperQ at hks ⊢
    obtain ⟨C, v, ks, he, _, _⟩ := layE_ks hks
    rw [he] at hks ⊢
    obtain ⟨f1, f2, _, _⟩ := layE_form hks
    rw [f1, f2]
    have hn := hno k _ (Nat.le_refl _) hg
    generalize ops[k].dst = d at hn
    cases d with
    | none => exact ⟨rfl, rfl⟩
    | some d =>
      have hne : d ≠ t := fun e => hn (e ▸ rfl)
      simp only [putO, tagO]
      rw [nth_put, if_neg (fun x => hne x.1), if_neg hne]
      exact ⟨rfl, rfl⟩

theorem stAt_same (hk : AllT (stAt p T call ops s0 ops.size).ks) : ∀ k, k ≤ ops.size → (stAt p T call ops s0 k).m = s0.m ∧ lenA (stAt p T call ops s0 k).ts = lenA s0.ts := by
  intro k
  induction k with
  | zero => intro _; exact ⟨rfl, rfl⟩
  | succ k ih =>
    intro h
    have hlt : k < ops.size := by omega
    have hg := Array.getElem?_eq_getElem hlt
    have hks := stAt_ks' hk h
    obtain ⟨i1, i2⟩ := ih (by omega)
    rw [stAt_succ hg] at hks ⊢
    unfold aOperQ at hks ⊢
    obtain ⟨C, v, ks, he, _, _⟩ := layE_ks hks
    rw [he] at hks ⊢
    obtain ⟨_, _, f3, f4⟩ := layE_form hks
    rw [f3, f4]; exact ⟨i1, i2⟩

theorem guard_chain {all : List Oper} {tg : Tags} {g : Option (Nat × Bool)} {C : Chain} (h : chainOf all tg g = some C) :
    C = [] ∧ g = none ∨ ∃ j b o d, g = some (j, b) ∧ all[j]? = some o ∧ o.dst = some d ∧ C = tagOf tg d ++ [(d, b)] := by
  cases g with
  | none => injection h with h; exact .inl ⟨h.symm, rfl⟩
  | some jb =>
    obtain ⟨j, b⟩ := jb
    simp only [chainOf] at h
    split at h
    case h_2 => simp at h
    rename_i d op ty pos af gu hd
    injection h with h
    rw [nthO_eq] at hd
    exact .inr ⟨j, b, _, d, rfl, hd, rfl, by rw [← h, catC_eq]⟩

/-- What text order comes to. -/
theorem stAt_hyb (hd : DrawOk ops) (h0 : s0.tg = []) (hk : AllT (stAt p T call ops s0 ops.size).ks) : ∀ k, k ≤ ops.size → Hyb ops s0 (stAt p T call ops s0 ops.size) (fun j => j < k) (stAt p T call ops s0 k) := by
  intro k
  induction k with
  | zero =>
    intro _
    have e : stAt p T call ops s0 0 = s0 := by simp [stAt, aOpsQ]
    rw [e]
    refine ⟨rfl, rfl, fun t ⟨j, o, hj, _⟩ => absurd hj (Nat.not_lt_zero _), fun t _ => ⟨rfl, by rw [h0]; rfl⟩, fun t C hm => by rw [h0] at hm; simp at hm, ?_⟩
    have := stAt_ks' hk (k := 0) (by omega)
    rwa [e] at this
  | succ k ih =>
    intro h
    have hlt : k < ops.size := by omega
    have hg := Array.getElem?_eq_getElem hlt
    have hks := stAt_ks' hk h
    have hh := ih (by omega)
    have es := stAt_succ (T := T) (p := p) (call := call) (s0 := s0) hg
    rw [es] at hks ⊢
    unfold aOperQ at hks ⊢
    obtain ⟨C, v, ks, he, _, hkk⟩ := layE_ks hks
    rw [he] at hks ⊢
    have hC : ∀ s b, (s, b) ∈ C → Wr ops (fun j => j < k) s := fun s b hm => by
      unfold eff at he
      split at he
      · simp at he
      rename_i C' hC'
      have e : C' = C := by
        unfold eff2 at he
        split at he
        · split at he
          · cases he; rfl
          · simp at he
        · unfold effVal at he
          split at he
          · simp only at he
            split at he
            · cases he; rfl
            · simp at he
          · simp at he
      subst e
      rcases guard_chain hC' with ⟨rfl, _⟩ | ⟨j, b', o', d, hgd, hj, hd', rfl⟩
      · simp at hm
      · rcases List.mem_append.1 hm with hm | hm
        · obtain ⟨C'', h1, h2⟩ := mem_tagOf hm
          exact hh.tg _ _ h1 _ _ h2
        · simp at hm
          obtain ⟨rfl, rfl⟩ := hm
          exact ⟨j, o', hd.back k _ hg _ (hd.guard k _ j b hg hgd), by rw [← Array.getElem?_toList]; exact hj, hd'⟩
    have hst := hh.step hd hg (Nat.lt_irrefl k) hkk hC (v := v) fun d hdst => by
      have hkeep := stAt_keep (t := d) hk (ops.size - (k + 1)) (k + 1) (by omega) fun j o hj ho hod => hd.one k j _ o d hg ho hod (by omega) hdst
      rw [es] at hkeep
      unfold aOperQ at hkeep
      rw [he] at hkeep
      obtain ⟨f1, f2, _, _⟩ := layE_form hks
      rw [f1, f2, hdst] at hkeep
      simp only [putO, tagO, if_true] at hkeep
      refine ⟨hkeep.1.trans ?_, hkeep.2⟩
      rw [nth_put, nth_put, hh.len]
      by_cases hlt : d < lenA s0.ts
      · rw [if_pos ⟨rfl, hlt⟩, if_pos ⟨rfl, hlt⟩]
      · rw [if_neg (fun x => hlt x.2), if_neg (fun x => hlt x.2), nth_out _ _ (by rw [hh.len]; exact Nat.le_of_not_lt hlt), nth_out _ _ (Nat.le_of_not_lt hlt)]
    have eL : (fun j => j < k ∨ j = k) = (fun j => j < k + 1) := by funext j; apply propext; omega
    rw [eL] at hst
    exact hst

end

end Go.Eng

namespace Go.Eng
open Go Go.RowKit

variable {P : Program} {T : Tab} {base : Env} {w : World} {S : Nat → Prop} {m : Locs} {M : Mem}

/-- Two states that agree on what operation i looks at. -/
theorem Hyb.agree {ops : Array Oper} (hd : DrawOk ops) {s0 sn s h : St} {i : Nat} {o : Oper} (hi : ops[i]? = some o) {L : Nat → Prop} (hs : Hyb ops s0 sn (fun j => j < i) s) (hh : Hyb ops s0 sn L h)
    (hL : ¬ L i) (hp : ∀ j ∈ predsOf o, L j) (hcl : ∀ (j : Nat) (o' : Oper), L j → ops[j]? = some o' → ∀ k ∈ predsOf o', L k) : Agree ops.toList s h o := by
  have hback := hd.back i o hi
  have key : ∀ t, t ∈ o.looksAt ops → nth s.ts t = nth h.ts t ∧ tagOf s.tg t = tagOf h.tg t := fun t ht => by
    by_cases hw : Wr ops (fun j => j < i) t
    · obtain ⟨j, o', hj, ho', hdj⟩ := hw
      have hwL : Wr ops L t := by
        rcases hd.look i j o o' t hi ho' hdj ht with h1 | h1
        · exact ⟨j, o', hp j h1, ho', hdj⟩
        · have := hd.back j o' ho' i h1
          have hj : j < i := hj
          omega
      obtain ⟨a1, a2⟩ := hs.wr t ⟨j, o', hj, ho', hdj⟩
      obtain ⟨b1, b2⟩ := hh.wr t hwL
      exact ⟨a1.trans b1.symm, a2.trans b2.symm⟩
    · have hwL : ¬ Wr ops L t := fun ⟨j, o', hj, ho', hdj⟩ => by
        rcases hd.look i j o o' t hi ho' hdj ht with h1 | h1
        · exact hw ⟨j, o', hback j h1, ho', hdj⟩
        · exact hL (hcl j o' hj ho' i h1)
      obtain ⟨a1, a2⟩ := hs.un t hw
      obtain ⟨b1, b2⟩ := hh.un t hwL
      exact ⟨a1.trans b1.symm, a2.trans b2.symm⟩
  refine ⟨hs.m.trans hh.m.symm, fun t ht => key t ?_, fun C hC => ?_⟩
  · exact List.mem_append_left _ (List.mem_filterMap.2 ⟨.tmp t, ht, rfl⟩)
  · rcases guard_chain hC with ⟨rfl, hg⟩ | ⟨j, b, o', d, hg, hj, hdj, rfl⟩
    · rw [hg]; exact ⟨rfl, fun t b hm => by simp at hm⟩
    · have hj' : ops[j]? = some o' := by rw [← Array.getElem?_toList]; exact hj
      have hdl : d ∈ o.looksAt ops := List.mem_append_right _ (by rw [hg]; simp only [hj', Option.bind_some, hdj]; simp)
      obtain ⟨k1, k2⟩ := key d hdl
      refine ⟨?_, fun t b' hm => ?_⟩
      · rw [hg] at hC ⊢
        have hn : nthO ops.toList j = some o' := by rw [nthO_eq]; exact hj
        have e : ∀ tg, chainOf ops.toList tg (some (j, b)) = some (tagOf tg d ++ [(d, b)]) := fun tg => by
          obtain ⟨dst, op, ty, pos, af, gu⟩ := o'
          have hdj : dst = some d := hdj
          subst hdj
          simp only [chainOf, hn, catC_eq]
        rw [e, k2]
      · rcases List.mem_append.1 hm with hm | hm
        · obtain ⟨C1, h1, h2⟩ := mem_tagOf hm
          rw [k2] at hm
          obtain ⟨C2, h3, h4⟩ := mem_tagOf hm
          exact (hs.wr t (hs.tg _ _ h1 _ _ h2)).1.trans (hh.wr t (hh.tg _ _ h3 _ _ h4)).1.symm
        · simp at hm
          obtain ⟨rfl, rfl⟩ := hm
          exact k1

theorem binds_pred {ops : Array Oper} {o : Oper} {e : Edge} (he : e ∈ o.after) (hb : Region.binds .any e = true) : e.on ∈ predsOf o :=
  List.mem_map.2 ⟨e, List.mem_filter.2 ⟨by simpa using he, hb⟩, rfl⟩

theorem pred_binds {o : Oper} {j : Nat} (h : j ∈ predsOf o) : ∃ e ∈ o.after, Region.binds .any e = true ∧ e.on = j := by
  obtain ⟨e, he, hj⟩ := List.mem_map.1 h
  obtain ⟨h1, h2⟩ := List.mem_filter.1 he
  exact ⟨e, by simpa using h1, h2, hj⟩

def Listed (ops : Array Oper) (listed : Array Bool) (j : Nat) : Prop := j < ops.size ∧ listed.getD j false = true

theorem getD_tf {listed : Array Bool} {j : Nat} (h : j < listed.size) : listed.getD j true = listed.getD j false := by simp [Array.getD_eq_getD_getElem?, h]

/-- Where nothing is ready, all is done. -/
theorem all_listed {ops : Array Oper} (hd : DrawOk ops) {listed : Array Bool} (hsz : listed.size = ops.size) (hr : Region.ready .any ops listed = []) : ∀ i, i < ops.size → Listed ops listed i := by
  intro i
  induction i using Nat.strongRecOn with
  | _ i ih =>
    intro hi
    refine Classical.byContradiction fun hn => ?_
    have hf : listed.getD i true = false := by
      rw [getD_tf (by omega)]
      cases h : listed.getD i false with
      | true => exact absurd ⟨hi, h⟩ hn
      | false => rfl
    have hg := Array.getElem?_eq_getElem hi
    have : i ∈ Region.ready .any ops listed := by
      rw [mem_ready]
      refine ⟨hf, _, hg, fun e he hb => ?_⟩
      have hlt := hd.back i _ hg _ (binds_pred (ops := ops) he hb)
      exact (ih _ hlt (by omega)).2
    rw [hr] at this
    cases this

theorem wpAny_text (hT : TabOk P T) {call : Oracle} (hcall : Sound P call) {ops : Array Oper} (hd : DrawOk ops) {s0 : St} (h0 : s0.tg = []) {Q : Exit → Act → World → Prop}
    (hk : AllT (stAt std T call ops s0 ops.size).ks) : ∀ (fuel : Nat) (listed : Array Bool) (rem : List Nat) {w : World} {S : Nat → Prop} {m : Locs} {a : Act} {h : St},
      listed.size = ops.size → rem.length ≤ fuel → (∀ i, i < ops.size → listed.getD i false = false → i ∈ rem) →
      (∀ (j : Nat) (o' : Oper), Listed ops listed j → ops[j]? = some o' → ∀ k ∈ predsOf o', Listed ops listed k) →
      Hyb ops s0 (stAt std T call ops s0 ops.size) (Listed ops listed) h → MRel base w S m h.m → FRel base.old w S m a h → ThenS base w S m (stAt std T call ops s0 ops.size) (fun a w => Q .normal a w) →
      wpAny P .any ops Q fuel listed a w := by
  have fin : ∀ (listed : Array Bool) {w : World} {S : Nat → Prop} {m : Locs} {a : Act} {h : St}, (∀ i, i < ops.size → Listed ops listed i) → Hyb ops s0 (stAt std T call ops s0 ops.size) (Listed ops listed) h → MRel base w S m h.m → FRel base.old w S m a h →
      ThenS base w S m (stAt std T call ops s0 ops.size) (fun a w => Q .normal a w) → Q .normal a w := fun listed {w S m a h} hall hh hM hF hK => by
    have hsn := stAt_hyb (p := std) (T := T) (call := call) hd h0 hk ops.size (Nat.le_refl _)
    have eqt : ∀ t, nth h.ts t = nth (stAt std T call ops s0 ops.size).ts t ∧ tagOf h.tg t = tagOf (stAt std T call ops s0 ops.size).tg t := fun t => by
      by_cases hw : Wr ops (Listed ops listed) t
      · exact hh.wr t hw
      · have hw' : ¬ Wr ops (fun j => j < ops.size) t := fun ⟨j, o, hj, ho, hdj⟩ => hw ⟨j, o, hall j hj, ho, hdj⟩
        obtain ⟨a1, a2⟩ := hh.un t hw
        obtain ⟨b1, b2⟩ := hsn.un t hw'
        exact ⟨a1.trans b1.symm, a2.trans b2.symm⟩
    refine hK a w S m (Prot.refl _ _) (fun _ h => h) (fun _ h => .inl h) (by rw [hsn.m, ← hh.m]; exact hM) ⟨?_, hF.defers, fun t ht => ?_, fun t => ?_⟩
    · rw [hF.size, hh.len, hsn.len]
    · rw [← (eqt t).1]; exact hF.rel t (by rw [(eqt t).2]; exact ht)
    · rw [← (eqt t).2]; exact hF.skip t
  intro fuel
  induction fuel with
  | zero =>
    intro listed rem w S m a h hsz hrem hin hcl hh hM hF hK
    have hall : ∀ i, i < ops.size → Listed ops listed i := fun i hi => by
      refine ⟨hi, ?_⟩
      cases e : listed.getD i false with
      | true => rfl
      | false =>
        have := hin i hi e
        have hnil : rem = [] := List.eq_nil_of_length_eq_zero (by omega)
        rw [hnil] at this; cases this
    refine ⟨?_, fin listed hall hh hM hF hK⟩
    rw [List.eq_nil_iff_forall_not_mem]
    intro i hi
    obtain ⟨h1, o, ho, _⟩ := mem_ready.1 hi
    have hlt := (Array.getElem?_eq_some_iff.1 ho).1
    rw [getD_tf (by omega), (hall i hlt).2] at h1
    cases h1
  | succ fuel ih =>
    intro listed rem w S m a h hsz hrem hin hcl hh hM hF hK
    refine ⟨fun hr => fin listed (all_listed hd hsz hr) hh hM hF hK, fun i hi => ?_⟩
    obtain ⟨h1, o, ho, hpr⟩ := mem_ready.1 hi
    have hlt := (Array.getElem?_eq_some_iff.1 ho).1
    rw [getD_tf (by omega)] at h1
    have hL : ¬ Listed ops listed i := fun x => by have := x.2; rw [h1] at this; cases this
    have hp : ∀ j ∈ predsOf o, Listed ops listed j := fun j hj => by
      obtain ⟨e, he, hb, rfl⟩ := pred_binds hj
      have := hd.back i o ho _ hj
      exact ⟨by omega, hpr e he hb⟩
    have hs := stAt_hyb (p := std) (T := T) (call := call) hd h0 hk i (by omega)
    have hag := hs.agree hd ho hh hL hp hcl
    have hks := stAt_ks' hk (k := i + 1) (by omega)
    have es := stAt_succ (T := T) (p := std) (call := call) (s0 := s0) ho
    rw [es] at hks
    unfold aOperQ at hks
    obtain ⟨C, v, ks, he, _, hkk⟩ := layE_ks hks
    rw [he] at hks
    have he' := eff_congr hag he
    have eL : (fun j => Listed ops listed j ∨ j = i) = Listed ops (listed.setIfInBounds i true) := by
      funext j; apply propext
      constructor
      · rintro (⟨hj, hj'⟩ | rfl)
        · exact ⟨hj, getD_set_true hj'⟩
        · exact ⟨hlt, by simp [Array.getD_eq_getD_getElem?, hsz, hlt]⟩
      · rintro ⟨hj, hj'⟩
        by_cases e : i = j
        · exact .inr e.symm
        · rw [getD_set_ne false e] at hj'; exact .inl ⟨hj, hj'⟩
    have hstep : Hyb ops s0 (stAt std T call ops s0 ops.size) (fun j => Listed ops listed j ∨ j = i) (layE h o.dst (some (C, v, ks))) := by
      refine hh.step hd ho hL hkk ?_ ?_
      · intro s b hm
        have hC : chainOf ops.toList h.tg o.guard = some C := by
          unfold eff at he'
          split at he'
          · simp at he'
          rename_i C' hC'
          rw [hC']
          unfold eff2 at he'
          split at he'
          · split at he'
            · cases he'; rfl
            · simp at he'
          · unfold effVal at he'
            split at he'
            · simp only at he'
              split at he'
              · cases he'; rfl
              · simp at he'
            · simp at he'
        rcases guard_chain hC with ⟨rfl, _⟩ | ⟨j, b', o', d, hgd, hj, hd', rfl⟩
        · simp at hm
        · rcases List.mem_append.1 hm with hm | hm
          · obtain ⟨C'', h1, h2⟩ := mem_tagOf hm
            exact hh.tg _ _ h1 _ _ h2
          · simp at hm
            obtain ⟨rfl, rfl⟩ := hm
            exact ⟨j, o', hp j (hd.guard i o j b ho hgd), by rw [← Array.getElem?_toList]; exact hj, hd'⟩
      · intro d hdst
        have hsn := stAt_hyb (p := std) (T := T) (call := call) hd h0 hk (i + 1) (by omega)
        obtain ⟨a1, a2⟩ := hsn.wr d ⟨i, o, Nat.lt_succ_self i, ho, hdst⟩
        rw [es] at a1 a2
        unfold aOperQ at a1 a2
        rw [he] at a1 a2
        obtain ⟨f1, f2, _, _⟩ := layE_form hks
        rw [f1, hdst] at a1
        rw [f2, hdst] at a2
        simp only [putO, tagO, if_true] at a1 a2
        refine ⟨a1.symm.trans ?_, a2.symm⟩
        rw [nth_put, nth_put, hs.len]
        by_cases hlt : d < lenA s0.ts
        · rw [if_pos ⟨rfl, hlt⟩, if_pos ⟨rfl, hlt⟩]
        · rw [if_neg (fun x => hlt x.2), if_neg (fun x => hlt x.2), nth_out _ _ (by rw [hs.len]; exact Nat.le_of_not_lt hlt), nth_out _ _ (Nat.le_of_not_lt hlt)]
    rw [eL] at hstep
    refine aOper_wp hT hcall ho hM hF (s := h) (by rw [aOperQ_eq he']; exact hstep.ks) ?_
    rw [aOperQ_eq he']
    intro a' w' S' m' hb hS hU hM' hF'
    refine ih (listed.setIfInBounds i true) (rem.erase i) (by simpa using hsz) ?_ ?_ ?_ hstep hM' hF' ?_
    · have := hin i hlt h1
      rw [List.length_erase_of_mem this]; omega
    · intro j hj hjf
      have e : i ≠ j := fun e => by
        subst e
        simp [Array.getD_eq_getD_getElem?, hsz, hlt] at hjf
      rw [getD_set_ne false e] at hjf
      exact (List.mem_erase_of_ne e.symm).2 (hin j hj hjf)
    · rw [← eL]
      intro j o' hj ho' k hkp
      rcases hj with hj | rfl
      · exact .inl (hcl j o' hj ho' k hkp)
      · rw [ho] at ho'; injection ho' with ho'; subst ho'; exact .inl (hp k hkp)
    · intro a'' w'' S'' m'' hb' hS' hU' hM'' hF''
      exact hK a'' w'' S'' m'' (hb.trans hb') (fun b h => hS' b (hS b h)) (fun b h => (hU' b h).elim (hU b) .inr) hM'' hF''

/-- A region in any order. -/
theorem AWp.regionDraw (hm : P.follows .mixedOrders = true) (hT : TabOk P T) {call : Oracle} (hcall : Sound P call) {id : Nat} {ops : Array Oper} {Q : Exit → AS → Prop} {A : AS} {s : St} (hd : drawOk ops = true)
    (hs : aOpsQ std T call ops.toList ops.toList ⟨A.ts, A.m, [], []⟩ = s) (hk : AllT s.ks) (hq : Q .normal ⟨wipe s.ts s.tg, s.m, A.np⟩) : AWp P (.region id ops true) Q A := by
  have es : stAt std T call ops ⟨A.ts, A.m, [], []⟩ ops.size = s := by unfold stAt; rw [← hs, ← Array.length_toList, List.take_length]
  subst es
  refine ⟨fun base w S m a hM hA => wp_region_any hm ?_⟩
  have hd := DrawOk.of hd
  have hM' : MRel base w.drew S m A.m := hM.rel.drew
  have hB : Prot base.Z w w.drew := ⟨rfl, rfl, rfl, Nat.le_refl _, fun _ _ => rfl⟩
  have hF : FRel base.old w.drew S m a ⟨A.ts, A.m, [], []⟩ := ⟨hA.1, hA.2.1.mono (fun _ h => h) (fun _ _ => rfl), fun t _ => Rel.mono (w := w) (w' := w.drew) (fun _ h => h) (fun _ _ => rfl) (hA.2.2 t) _ (fun _ _ h => h), fun t => .inl fun s b hm => by simp [tagOf] at hm⟩
  have hno : ∀ j, ¬ Listed ops (Array.replicate ops.size false) j := fun j ⟨hj, h⟩ => by simp [Array.getD_eq_getD_getElem?, hj] at h
  have h0 := stAt_hyb (p := std) (T := T) (call := call) (s0 := ⟨A.ts, A.m, [], []⟩) hd rfl hk 0 (Nat.zero_le _)
  have e0 : stAt std T call ops ⟨A.ts, A.m, [], []⟩ 0 = ⟨A.ts, A.m, [], []⟩ := by simp [stAt, aOpsQ]
  have eL : (fun j => j < 0) = Listed ops (Array.replicate ops.size false) := by
    funext j; apply propext
    exact ⟨fun h => absurd h (Nat.not_lt_zero _), fun h => absurd h (hno j)⟩
  rw [e0, eL] at h0
  refine wpAny_text (base := base) hT hcall hd rfl hk ops.size _ (List.range ops.size) (by simp) (by simp) (fun i hi _ => by simpa using hi) (fun j o' hj => absurd hj (hno j)) h0 hM' hF ?_
  intro a' w' S' m' hb hS hU hM'' hF''
  exact ⟨_, S', m', hq, hB.trans hb, hS, hU, ⟨hM'', hM.pins⟩, hF''.wipe⟩

end Go.Eng
