/- Operations that look at no memory that may change: what they yield in one world they yield in every like one. -/
import Derived.Test.YtapnoaalcbcmaaaEngP
import Derived.OrdersHeld
namespace Go.Eng
open Go Go.RowKit

variable {P : Program} {T : Tab} {C : World → World → Prop}

/-- What it comes to in one world it comes to in every one that is like it; and it leaves the world alone. -/
def Flat (P : Program) (C : World → World → Prop) {α : Type} (s : Sem α) : Prop := ∀ w v w1, s.run P w = .ok v w1 → w1 = w ∧ ∀ w', C w w' → s.run P w' = .ok v w'
def Never (P : Program) {α : Type} (s : Sem α) : Prop := ∀ w v w1, s.run P w ≠ .ok v w1

theorem Flat.pure {α : Type} (a : α) : Flat P C (Pure.pure a : Sem α) := by
  intro w v w1 h
  rw [Sem.run_pure] at h
  cases h
  exact ⟨rfl, fun w' _ => Sem.run_pure _ _ _⟩
theorem Flat.bind {α β : Type} {s : Sem α} {f : α → Sem β} (hs : Flat P C s) (hf : ∀ a, Flat P C (f a)) : Flat P C (s >>= f) := by
  intro w v w1 h
  rw [Sem.run_bind] at h
  cases hr : s.run P w with
  | halt x w2 => rw [hr] at h; cases h
  | ok a w2 =>
    rw [hr] at h
    obtain ⟨rfl, h2⟩ := hs w a w2 hr
    obtain ⟨rfl, h3⟩ := hf a _ _ _ h
    exact ⟨rfl, fun w' hw => by rw [Sem.run_bind, h2 w' hw]; exact h3 w' hw⟩
theorem Never.flat {α : Type} {s : Sem α} (h : Never P s) : Flat P C s := fun w v w1 e => absurd e (h w v w1)
theorem Never.bind {α β : Type} {s : Sem α} {f : α → Sem β} (hf : ∀ a, Never P (f a)) : Never P (s >>= f) := by
  intro w v w1 h
  rw [Sem.run_bind] at h
  cases hr : s.run P w with
  | halt x w2 => rw [hr] at h; cases h
  | ok a w2 => rw [hr] at h; exact hf a _ _ _ h
theorem Never.halt {α : Type} (x : Halt) : Never P (Sem.halt x : Sem α) := fun w v w1 h => by cases h
theorem never_stuck {α : Type} (s : String) : Never P (stuck s : Sem α) := Never.halt _
theorem never_unsup {α : Type} (u : Unsupported) : Never P (unsupported u : Sem α) := Never.halt _
theorem never_panic {α : Type} (v : Value) : Never P (goPanic v : Sem α) := Never.halt _
theorem never_rt {α : Type} (e : RuntimeError) : Never P (runtimePanic e : Sem α) := by
  unfold runtimePanic
  refine Never.bind fun p => ?_
  cases e with
  | typeAssertion i c a m => exact Never.bind fun _ => Never.bind fun _ => never_panic _
  | panicNil => exact Never.bind fun _ => Never.bind fun _ => never_panic _
  | _ => exact never_panic _
theorem never_bounds {α : Type} (k : IntKind) (x y : Int) (c : BoundsCode) : Never P (boundsPanic k x y c : Sem α) := by
  unfold boundsPanic
  dsimp only
  split <;> exact Never.bind fun _ => never_rt _

theorem flat_program : Flat P C program := by
  intro w v w1 h
  cases h
  exact ⟨rfl, fun w' _ => rfl⟩
theorem flat_typeInfo (t : TypeId) : Flat P C (typeInfo t) := by
  unfold typeInfo
  refine Flat.bind flat_program fun p => ?_
  split
  · exact Flat.pure _
  · exact (never_stuck _).flat
theorem flat_underlying (t : TypeId) : Flat P C (underlying t) := by
  unfold underlying
  refine Flat.bind flat_program fun p => ?_
  split
  · exact Flat.pure _
  · exact (never_stuck _).flat
theorem flat_sizeOf (t : TypeId) : Flat P C (sizeOf t) := Flat.bind (flat_typeInfo t) fun _ => Flat.pure _
theorem flat_asIntOf (v : Value) : Flat P C (asIntOf v) := by
  unfold asIntOf
  split
  · exact Flat.pure _
  · exact (never_unsup _).flat
  · exact (never_stuck _).flat
theorem flat_sureAddr (v : Value) : Flat P C (Instr.sureAddr v) := by
  unfold Instr.sureAddr
  split
  · exact Flat.pure _
  · exact (never_stuck _).flat
theorem flat_isAgg (t : TypeId) : Flat P C (isAgg t) := by
  unfold isAgg
  refine Flat.bind (flat_underlying t) fun d => ?_
  split <;> exact Flat.pure _

theorem flat_asAddr (v : Value) : Flat P C (asAddr v) := by
  unfold asAddr
  split
  · exact Flat.pure _
  · exact (never_rt _).flat
  · exact (never_stuck _).flat
theorem flat_bound (x : Value) (y : Nat) (c : BoundsCode) : Flat P C (Instr.sliceBound x y c) := by
  unfold Instr.sliceBound
  refine Flat.bind (flat_asIntOf x) fun ki => ?_
  obtain ⟨k, i⟩ := ki
  dsimp only
  split
  · exact Flat.pure _
  · exact (never_bounds _ _ _ _).flat
theorem flat_bounds (b : Bool) (l c : Nat) (lo hi mx : Option Value) : Flat P C (Instr.sliceBounds b l c lo hi mx) := by
  unfold Instr.sliceBounds
  dsimp only
  repeat' (first | exact Flat.pure _ | exact flat_bound _ _ _ | exact (never_stuck _).flat | refine Flat.bind ?_ fun _ => ?_ | split)
theorem flat_indexAt (t : TypeId) (x i : Value) : Flat P C (Instr.indexAt t x i) := by
  unfold Instr.indexAt
  refine Flat.bind (flat_asIntOf i) fun ki => ?_
  obtain ⟨k, i⟩ := ki
  dsimp only
  repeat' (first | exact Flat.pure _ | exact flat_underlying _ | exact flat_sizeOf _ | exact flat_sureAddr _ | exact (never_stuck _).flat | exact (never_unsup _).flat | exact (never_bounds _ _ _ _).flat | refine Flat.bind ?_ fun _ => ?_ | split)
theorem flat_slice (t : TypeId) (x : Value) (lo hi mx : Option Value) : Flat P C (Instr.slice t x lo hi mx) := by
  unfold Instr.slice
  dsimp only
  repeat' (first | exact Flat.pure _ | exact flat_underlying _ | exact flat_sizeOf _ | exact flat_asAddr _ | exact flat_bounds _ _ _ _ _ _ | exact (never_stuck _).flat | refine Flat.bind ?_ fun _ => ?_ | split)
theorem flat_sliceAt (t : TypeId) (x : Value) (lo hi mx : Option Value) : Flat P C (Instr.sliceAt t x lo hi mx) := by
  unfold Instr.sliceAt
  dsimp only
  repeat' (first | exact Flat.pure _ | exact flat_underlying _ | exact flat_sizeOf _ | exact flat_sureAddr _ | exact flat_bounds _ _ _ _ _ _ | exact flat_slice _ _ _ _ _ | exact (never_stuck _).flat | refine Flat.bind ?_ fun _ => ?_ | split)
theorem flat_fieldAt (hT : TabOk P T) {t f : Nat} {fs : List (Nat × Nat)} {ft off : Nat} (htd : (tyi T t).d = .struct fs) (hf : nthF fs f = some (ft, off)) (hsz : 1 ≤ (tyi T ft).sz) (x : Value) : Flat P C (Instr.fieldAt t x f) := by
  obtain ⟨_, _, _, g⟩ := hT.of_d htd (by simp)
  have hd := g.d; rw [htd] at hd
  obtain ⟨l, rfl, rfl, _⟩ := td_struct hd.symm
  obtain ⟨fd, hfd, rfl, rfl⟩ := nthF_map l.toList f hf
  obtain ⟨_, i, z, g'⟩ := hT.of_sz hsz
  have hne : ¬ i.size = 0 := by have := g'.sz; omega
  have hfd' : l[f]? = some fd := by simpa using hfd
  have hrun : ∀ (w : World), (Instr.fieldAt t x f).run P w = (Instr.sureAddr x >>= fun a => (Pure.pure (.pointer (some (a.add fd.offset))) : Sem Value)).run P w := fun w => by
    simp [Instr.fieldAt, run_underlying g.und, hfd', fieldPlace, sizeOf, typeInfo, g'.info, hne]
  have hfl : Flat P C (Instr.sureAddr x >>= fun a => (Pure.pure (.pointer (some (a.add fd.offset))) : Sem Value)) := Flat.bind (flat_sureAddr x) fun _ => Flat.pure _
  intro w v w1 h
  rw [hrun] at h
  obtain ⟨h1, h2⟩ := hfl w v w1 h
  exact ⟨h1, fun w' hw => by rw [hrun]; exact h2 w' hw⟩

/-- Operations that may be done ahead of all others. -/
def fstOk (T : Tab) (ts : List AV) (o : Oper) : Bool :=
  match o.guard with
  | some _ => false
  | none => match o.op with
    | .move _ => true
    | .assign _ => true
    | .indexAddr .. => true
    | .slice .. => true
    | .fieldAddr t _ f => match (tyi T t).d with
      | .struct fs => match nthF fs f with
        | some (ft, _) => Nat.ble 1 (tyi T ft).sz
        | none => false
      | _ => false
    | .load t x => match opnd ts x with
      | .cptr n _ => match isAggT T t with
        | true => Nat.ble (tyi T t).sz n
        | false => match isOther (tyi T t).d with | true => false | false => Nat.ble 1 n
      | _ => false
    | _ => false

variable {base : Env} {w : World} {S : Nat → Prop} {m : Locs}

theorem flat_v {s : Sem Value} (h : Flat P C s) : Flat P C (do pure (.value (← s)) : Sem Next) := Flat.bind h fun _ => Flat.pure _

/-- What such an operation yields, in each world in which the shared blocks lie as they lay. -/
theorem first_ok (hT : TabOk P T) {call : Oracle} (hcall : Sound P call) {ops : Array Oper} {o : Oper} {i : Nat} (hi : ops[i]? = some o) {a : Act} {s : St} (hM : MRel base w S m s.m) (hF : FRel base.old w S m a s) (hok : fstOk T s.ts o = true) (htg : ∀ t, Operand.tmp t ∈ o.op.operands.toList → tagOf s.tg t = [])
    (hk : AllT (aOper std T call ops.toList s o).ks) : ∃ v S' m', (∀ D : World → Prop, (∀ w', D w' → ∀ b, S b → w'.heap[b]? = w.heap[b]?) → YieldsIf P ops D o v a) ∧ (∀ b, S b → S' b) ∧ (∀ b, S' b → S b ∨ ¬ base.Z b) ∧
      MRel base w S' m' (aOper std T call ops.toList s o).m ∧ FRel base.old w S' m' (a.put o.dst v) (aOper std T call ops.toList s o) := by
  let K : Act → World → Prop := fun a' w' => ∃ S' m', (∀ b, S b → S' b) ∧ (∀ b, S' b → S b ∨ ¬ base.Z b) ∧ MRel base w' S' m' (aOper std T call ops.toList s o).m ∧ FRel base.old w' S' m' a' (aOper std T call ops.toList s o)
  have h : wpOp P ops (fun _ _ _ => False) i K a w := aOper_wp hT hcall hi hM hF hk fun a' w' S' m' _ hS hU hM' hF' => ⟨S', m', hS, hU, hM', hF'⟩
  unfold wpOp at h
  simp only [hi] at h
  have hg : o.guard = none := by
    unfold fstOk at hok
    split at hok
    · cases hok
    · assumption
  have hwant : Region.wanted o (yielded ops a.tmps) = true := by unfold Region.wanted; rw [hg]
  rw [if_pos hwant] at h
  rcases h with h | ⟨_, _, _, h⟩
  case inr => exact h.elim
  -- from what it comes to here to what it comes to everywhere
  have fin : ∀ v w1, (execOp a.eval o).run P w = .ok (.value v) w1 → (w1 = w ∧ ∀ w', (∀ b, S b → w'.heap[b]? = w.heap[b]?) → (execOp a.eval o).run P w' = .ok (.value v) w') → ∃ v S' m', (∀ D : World → Prop, (∀ w', D w' → ∀ b, S b → w'.heap[b]? = w.heap[b]?) → YieldsIf P ops D o v a) ∧ (∀ b, S b → S' b) ∧ (∀ b, S' b → S b ∨ ¬ base.Z b) ∧
      MRel base w S' m' (aOper std T call ops.toList s o).m ∧ FRel base.old w S' m' (a.put o.dst v) (aOper std T call ops.toList s o) := by
    intro v w1 hr ⟨e, hall⟩
    subst e
    unfold Oper.wp at h
    rw [hr] at h
    obtain ⟨S', m', h1, h2, h3, h4⟩ := h
    exact ⟨v, S', m', fun D hD => .inl ⟨hwant, fun w' hw' => hall w' (hD w' hw')⟩, h1, h2, h3, h4⟩
  have flat : Flat P (fun w w' => ∀ b, S b → w'.heap[b]? = w.heap[b]?) (execOp a.eval o) → (∀ n w1, (execOp a.eval o).run P w = .ok n w1 → ∃ v, n = .value v) → ∃ v S' m', (∀ D : World → Prop, (∀ w', D w' → ∀ b, S b → w'.heap[b]? = w.heap[b]?) → YieldsIf P ops D o v a) ∧ (∀ b, S b → S' b) ∧ (∀ b, S' b → S b ∨ ¬ base.Z b) ∧
      MRel base w S' m' (aOper std T call ops.toList s o).m ∧ FRel base.old w S' m' (a.put o.dst v) (aOper std T call ops.toList s o) := by
    intro hfl hv
    cases hr : (execOp a.eval o).run P w with
    | ok n w1 =>
      obtain ⟨v, rfl⟩ := hv n w1 hr
      obtain ⟨e, hall⟩ := hfl w _ w1 hr
      exact fin v w1 hr ⟨e, hall⟩
    | halt x w1 =>
      unfold Oper.wp at h
      rw [hr] at h
      cases x <;> simp only [Oper.upon] at h
  have isv : ∀ (s : Sem Value), (∀ n w1, (do pure (.value (← s)) : Sem Next).run P w = .ok n w1 → ∃ v, n = .value v) := by
    intro s n w1 hr
    rw [Sem.run_bind] at hr
    cases hs : s.run P w with
    | halt x w2 => rw [hs] at hr; cases hr
    | ok v w2 => rw [hs] at hr; cases hr; exact ⟨v, rfl⟩
  unfold fstOk at hok
  rw [hg] at hok
  simp only at hok
  split at hok
  · rename_i x hop
    refine flat (by unfold execOp; rw [hop]; exact Flat.pure _) (fun n w1 hr => ?_)
    unfold execOp at hr; rw [hop] at hr; cases hr; exact ⟨_, rfl⟩
  · rename_i x hop
    refine flat (by unfold execOp; rw [hop]; exact Flat.pure _) (fun n w1 hr => ?_)
    unfold execOp at hr; rw [hop] at hr; cases hr; exact ⟨_, rfl⟩
  · rename_i t x ix hop
    exact flat (by unfold execOp; rw [hop]; exact flat_v (flat_indexAt _ _ _)) (by unfold execOp; rw [hop]; exact isv _)
  · rename_i t x lo hi' mx hop
    exact flat (by unfold execOp; rw [hop]; exact flat_v (flat_sliceAt _ _ _ _ _)) (by unfold execOp; rw [hop]; exact isv _)
  · rename_i t x f hop
    split at hok
    · rename_i fs htd
      split at hok
      · rename_i ft off hf
        exact flat (by unfold execOp; rw [hop]; exact flat_v (flat_fieldAt hT htd hf (Nat.le_of_ble_eq_true hok) _)) (by unfold execOp; rw [hop]; exact isv _)
      · cases hok
    · cases hok
  · rename_i t x hop
    split at hok
    case h_2 => cases hok
    rename_i n c hx
    have hr : Rel w S m (a.eval x) (opnd s.ts x) := opnd_rel' x fun t ht => hF.rel t (by rw [htg t (by rw [hop, ← ht]; simp [Op.operands])]; intro _ _ hm; cases hm)
    rw [hx] at hr
    have he : execOp a.eval o = (do pure (.value (← Instr.loadAt t (a.eval x))) : Sem Next) := by unfold execOp; rw [hop]
    generalize a.eval x = u at hr he
    cases hr with
    | cptr _ b off _ _ f hs hc h =>
      have cell : ∀ w' : World, (∀ b, S b → w'.heap[b]? = w.heap[b]?) → ∀ j, j < n → w'.cell? ⟨b, off + j, none⟩ = some (f j) := fun w' hw' j hj => by
        rw [← (hc j hj).1]; exact World.cell?_of_block (hw' b hs)
      have run : ∃ v, ∀ w' : World, (∀ b, S b → w'.heap[b]? = w.heap[b]?) → (Instr.loadAt t (.pointer (some ⟨b, off, none⟩))).run P w' = .ok v w' := by
        split at hok
        · rename_i hag
          exact ⟨_, fun w' hw' => load_agg hT hag f fun j hj => cell w' hw' j (Nat.lt_of_lt_of_le hj (Nat.le_of_ble_eq_true hok))⟩
        · rename_i hag
          split at hok
          · cases hok
          · rename_i hno
            exact ⟨_, fun w' hw' => load_cell hT hag (isOther_ne hno) (by have := cell w' hw' 0 (Nat.le_of_ble_eq_true hok); rwa [Nat.add_zero] at this)⟩
      obtain ⟨v, run⟩ := run
      have run' : ∀ w' : World, (∀ b, S b → w'.heap[b]? = w.heap[b]?) → (execOp a.eval o).run P w' = .ok (.value v) w' := fun w' hw' => by
        rw [he, Sem.run_bind, run w' hw']; rfl
      exact fin v w (run' w fun _ _ => rfl) ⟨rfl, run'⟩
  · cases hok

def cmpOp : BinOp → Bool
  | .eql | .neq | .lss | .leq | .gtr | .geq | .add | .sub | .mul => true
  | _ => false
/-- Operations that look at no memory at all: they may be done as soon as they are ready. -/
def pureOk (T : Tab) (ts : List AV) (o : Oper) : Bool :=
  match o.guard with
  | some _ => false
  | none => match o.op with
    | .move _ => true
    | .assign _ => true
    | .fieldAddr t _ f => match (tyi T t).d with
      | .struct fs => match nthF fs f with
        | some (ft, _) => Nat.ble 1 (tyi T ft).sz
        | none => false
      | _ => false
    | .binOp op _ x y _ => match cmpOp op with
      | true => match opnd ts x, opnd ts y with
        | .int _ _, .int _ _ => true
        | _, _ => false
      | false => false
    | .nilCheck x => match opnd ts x with
      | .ref _ _ => true
      | .cptr _ _ => true
      | _ => false
    | .indexAddr _ _ _ => true
    | _ => false

theorem flat_eqGuard (op : BinOp) (t : TypeId) (x y : Operand) (k k' : IntKind) (n n' : Int) : Flat P C (eqGuard op t x y (.int k n) (.int k' n')) := by
  unfold eqGuard
  dsimp only
  repeat' (first | exact Flat.pure _ | refine Flat.bind ?_ fun _ => ?_ | split)
theorem flat_intCmp (op : BinOp) (x y : Int) : Flat P C (Op.intCmp op x y) := by
  unfold Op.intCmp
  split <;> first | exact Flat.pure _ | exact (never_stuck _).flat
theorem flat_binInt {op : BinOp} (h : cmpOp op = true) (t : TypeId) (k k' : IntKind) (n n' : Int) : Flat P C (binOp op t (.int k n) (.int k' n')) := by
  cases op <;> first | (cases h; done) | skip
  all_goals
    first
    | show Flat P C (if k ≠ k' then stuck _ else Op.intCmp _ n n')
      split
      · exact (never_stuck _).flat
      · exact flat_intCmp _ _ _
    | show Flat P C (if k ≠ k' then stuck _ else Op.intArith _ k n n')
      split
      · exact (never_stuck _).flat
      · exact Flat.pure _

theorem pure_ok (hT : TabOk P T) {call : Oracle} (hcall : Sound P call) {ops : Array Oper} {o : Oper} {i : Nat} (hi : ops[i]? = some o) {a : Act} {s : St} (hM : MRel base w S m s.m) (hF : FRel base.old w S m a s) (hok : pureOk T s.ts o = true) (htg : ∀ t, Operand.tmp t ∈ o.op.operands.toList → tagOf s.tg t = [])
    (hk : AllT (aOper std T call ops.toList s o).ks) : ∃ v S' m', (∀ D : World → Prop, YieldsIf P ops D o v a) ∧ (∀ b, S b → S' b) ∧ (∀ b, S' b → S b ∨ ¬ base.Z b) ∧
      MRel base w S' m' (aOper std T call ops.toList s o).m ∧ FRel base.old w S' m' (a.put o.dst v) (aOper std T call ops.toList s o) := by
  let K : Act → World → Prop := fun a' w' => ∃ S' m', (∀ b, S b → S' b) ∧ (∀ b, S' b → S b ∨ ¬ base.Z b) ∧ MRel base w' S' m' (aOper std T call ops.toList s o).m ∧ FRel base.old w' S' m' a' (aOper std T call ops.toList s o)
  have h : wpOp P ops (fun _ _ _ => False) i K a w := aOper_wp hT hcall hi hM hF hk fun a' w' S' m' _ hS hU hM' hF' => ⟨S', m', hS, hU, hM', hF'⟩
  unfold wpOp at h
  simp only [hi] at h
  have hg : o.guard = none := by
    unfold pureOk at hok
    split at hok
    · cases hok
    · assumption
  have hwant : Region.wanted o (yielded ops a.tmps) = true := by unfold Region.wanted; rw [hg]
  rw [if_pos hwant] at h
  rcases h with h | ⟨_, _, _, h⟩
  case inr => exact h.elim
  have fin : ∀ v w1, (execOp a.eval o).run P w = .ok (.value v) w1 → (w1 = w ∧ ∀ w', (execOp a.eval o).run P w' = .ok (.value v) w') → ∃ v S' m', (∀ D : World → Prop, YieldsIf P ops D o v a) ∧ (∀ b, S b → S' b) ∧ (∀ b, S' b → S b ∨ ¬ base.Z b) ∧
      MRel base w S' m' (aOper std T call ops.toList s o).m ∧ FRel base.old w S' m' (a.put o.dst v) (aOper std T call ops.toList s o) := by
    intro v w1 hr ⟨e, hall⟩
    subst e
    unfold Oper.wp at h
    rw [hr] at h
    obtain ⟨S', m', h1, h2, h3, h4⟩ := h
    exact ⟨v, S', m', fun D => .inl ⟨hwant, fun w' _ => hall w'⟩, h1, h2, h3, h4⟩
  have flat : Flat P (fun _ _ => True) (execOp a.eval o) → (∀ n w1, (execOp a.eval o).run P w = .ok n w1 → ∃ v, n = .value v) → ∃ v S' m', (∀ D : World → Prop, YieldsIf P ops D o v a) ∧ (∀ b, S b → S' b) ∧ (∀ b, S' b → S b ∨ ¬ base.Z b) ∧
      MRel base w S' m' (aOper std T call ops.toList s o).m ∧ FRel base.old w S' m' (a.put o.dst v) (aOper std T call ops.toList s o) := by
    intro hfl hv
    cases hr : (execOp a.eval o).run P w with
    | ok n w1 =>
      obtain ⟨v, rfl⟩ := hv n w1 hr
      obtain ⟨e, hall⟩ := hfl w _ w1 hr
      exact fin v w1 hr ⟨e, fun w' => hall w' trivial⟩
    | halt x w1 =>
      unfold Oper.wp at h
      rw [hr] at h
      cases x <;> simp only [Oper.upon] at h
  have isv : ∀ (s : Sem Value), (∀ n w1, (do pure (.value (← s)) : Sem Next).run P w = .ok n w1 → ∃ v, n = .value v) := by
    intro s n w1 hr
    rw [Sem.run_bind] at hr
    cases hs : s.run P w with
    | halt x w2 => rw [hs] at hr; cases hr
    | ok v w2 => rw [hs] at hr; cases hr; exact ⟨v, rfl⟩
  unfold pureOk at hok
  rw [hg] at hok
  simp only at hok
  split at hok
  · rename_i x hop
    refine flat (by unfold execOp; rw [hop]; exact Flat.pure _) (fun n w1 hr => ?_)
    unfold execOp at hr; rw [hop] at hr; cases hr; exact ⟨_, rfl⟩
  · rename_i x hop
    refine flat (by unfold execOp; rw [hop]; exact Flat.pure _) (fun n w1 hr => ?_)
    unfold execOp at hr; rw [hop] at hr; cases hr; exact ⟨_, rfl⟩
  · rename_i t x f hop
    split at hok
    · rename_i fs htd
      split at hok
      · rename_i ft off hf
        exact flat (by unfold execOp; rw [hop]; exact flat_v (flat_fieldAt hT htd hf (Nat.le_of_ble_eq_true hok) _)) (by unfold execOp; rw [hop]; exact isv _)
      · cases hok
    · cases hok
  · rename_i op t x y c hop
    split at hok
    case h_2 => cases hok
    rename_i hc
    split at hok
    case h_2 => cases hok
    rename_i k n k' n' hx hy
    have hr : Rel w S m (a.eval x) (opnd s.ts x) := opnd_rel' x fun t ht => hF.rel t (by rw [htg t (by rw [hop, ← ht]; simp [Op.operands])]; intro _ _ hm; cases hm)
    have hr' : Rel w S m (a.eval y) (opnd s.ts y) := opnd_rel' y fun t ht => hF.rel t (by rw [htg t (by rw [hop, ← ht]; simp [Op.operands])]; intro _ _ hm; cases hm)
    rw [hx] at hr
    rw [hy] at hr'
    have he : execOp a.eval o = ((eqGuard op t x y (a.eval x) (a.eval y) >>= fun _ => binOp op t (a.eval x) (a.eval y)) >>= fun r => Pure.pure (.value r) : Sem Next) := by unfold execOp; simp only [hop]
    have ex : a.eval x = .int k n := by generalize a.eval x = u at hr; cases hr; rfl
    have ey : a.eval y = .int k' n' := by generalize a.eval y = u at hr'; cases hr'; rfl
    rw [ex, ey] at he
    exact flat (by rw [he]; exact flat_v (Flat.bind (flat_eqGuard _ _ _ _ _ _ _ _) fun _ => flat_binInt hc _ _ _ _ _)) (by rw [he]; exact isv _)
  · rename_i x hop
    have hr : Rel w S m (a.eval x) (opnd s.ts x) := opnd_rel' x fun t ht => hF.rel t (by rw [htg t (by rw [hop, ← ht]; simp [Op.operands])]; intro _ _ hm; cases hm)
    have ex : ∃ q, a.eval x = .pointer (some q) := by
      split at hok
      · rename_i hx; rw [hx] at hr; generalize a.eval x = u at hr; cases hr; exact ⟨_, rfl⟩
      · rename_i hx; rw [hx] at hr; generalize a.eval x = u at hr; cases hr; exact ⟨_, rfl⟩
      · cases hok
    obtain ⟨q, ex⟩ := ex
    have he : execOp a.eval o = (Pure.pure (.value (.pointer (some q))) : Sem Next) := by unfold execOp; simp only [hop, ex]
    refine flat (by rw [he]; exact Flat.pure _) (fun n w1 hr => ?_)
    rw [he] at hr; cases hr; exact ⟨_, rfl⟩
  · rename_i t x ix hop
    exact flat (by unfold execOp; rw [hop]; exact flat_v (flat_indexAt _ _ _)) (by unfold execOp; rw [hop]; exact isv _)
  · cases hok

end Go.Eng
