/- Operations that look at no memory that may change: what they yield in one world they yield in every like one. -/
import Derived.Test.YtjkhncojgilbaaaGreatDoorEngP
import Derived.OrdersHeld
namespace Go.aT
open Go Go.RowKit
variable {P:Program} {T:aX} {C:World->World->Prop}
def Flat (P:Program) (C:World->World->Prop) {α:Type} (s:Sem α):Prop:=∀ w v w1,s.run P w = .ok v w1->w1=w/\∀ w',C w w'->s.run P w' = .ok v w'
def iZ (P:Program) {α:Type} (s:Sem α):Prop:=∀ w v w1,s.run P w≠.ok v w1
theorem Flat.pure {α:Type} (a:α):Flat P C (Pure.pure a:Sem α):=by
 intro w v w1 h
 rw [Sem.run_pure] at h
 cases h
 exact ⟨rfl,fun w' _=>Sem.run_pure _ _ _⟩
theorem Flat.bind {α β:Type} {s:Sem α} {f:α->Sem β} (hs:Flat P C s) (hf:∀ a,Flat P C (f a)):Flat P C (s >>= f):=by
 intro w v w1 h
 rw [Sem.run_bind] at h
 cases hr:s.run P w with
 | halt x w2=>rw [hr] at h; cases h
 | ok a w2 =>
  rw [hr] at h
  obtain ⟨rfl,h2⟩:=hs w a w2 hr
  obtain ⟨rfl,h3⟩:=hf a _ _ _ h
  exact ⟨rfl,fun w' hw=>by rw [Sem.run_bind,h2 w' hw]; exact h3 w' hw⟩
theorem iZ.flat {α:Type} {s:Sem α} (h:iZ P s):Flat P C s:=fun w v w1 e=>absurd e (h w v w1)
theorem iZ.bind {α β:Type} {s:Sem α} {f:α->Sem β} (hf:∀ a,iZ P (f a)):iZ P (s >>= f):=by
 intro w v w1 h
 rw [Sem.run_bind] at h
 cases hr:s.run P w with
 | halt x w2=>rw [hr] at h; cases h
 | ok a w2=>rw [hr] at h; exact hf a _ _ _ h
theorem iZ.halt {α:Type} (x:Halt):iZ P (Sem.halt x:Sem α):=fun w v w1 h=>by cases h
theorem nG {α:Type} (s:String):iZ P (stuck s:Sem α):=iZ.halt _
theorem Uh {α:Type} (u:Unsupported):iZ P (unsupported u:Sem α):=iZ.halt _
theorem Li {α:Type} (v:Value):iZ P (goPanic v:Sem α):=iZ.halt _
theorem Ui {α:Type} (e:RuntimeError):iZ P (runtimePanic e:Sem α):=by
 unfold runtimePanic
 refine iZ.bind fun p=>?_
 cases e with
 | typeAssertion i c a m=>exact iZ.bind fun _=>iZ.bind fun _=>Li _
 | panicNil=>exact iZ.bind fun _=>iZ.bind fun _=>Li _
 | _=>exact Li _
theorem Uj {α:Type} (k:IntKind) (x y:Int) (c:BoundsCode):iZ P (boundsPanic k x y c:Sem α):=by
 unfold boundsPanic
 dsimp only
 split <;> exact iZ.bind fun _=>Ui _
theorem Uk:Flat P C program:=by
 intro w v w1 h
 cases h
 exact ⟨rfl,fun w' _=>rfl⟩
theorem ac8 (t:TypeId):Flat P C (typeInfo t):=by
 unfold typeInfo
 refine Flat.bind Uk fun p=>?_
 split
 ·exact Flat.pure _
 ·exact (nG _).flat
theorem Lj (t:TypeId):Flat P C (underlying t):=by
 unfold underlying
 refine Flat.bind Uk fun p=>?_
 split
 ·exact Flat.pure _
 ·exact (nG _).flat
theorem Ll (t:TypeId):Flat P C (sizeOf t):=Flat.bind (ac8 t) fun _=>Flat.pure _
theorem Ul (v:Value):Flat P C (asIntOf v):=by
 unfold asIntOf
 split
 ·exact Flat.pure _
 ·exact (Uh _).flat
 ·exact (nG _).flat
theorem Lr (v:Value):Flat P C (Instr.sureAddr v):=by
 unfold Instr.sureAddr
 split
 ·exact Flat.pure _
 ·exact (nG _).flat
theorem ac9 (v:Value):Flat P C (asAddr v):=by
 unfold asAddr
 split
 ·exact Flat.pure _
 ·exact (Ui _).flat
 ·exact (nG _).flat
theorem ada (x:Value) (y:Nat) (c:BoundsCode):Flat P C (Instr.sliceBound x y c):=by
 unfold Instr.sliceBound
 refine Flat.bind (Ul x) fun ki=>?_
 obtain ⟨k,i⟩:=ki
 dsimp only
 split
 ·exact Flat.pure _
 ·exact (Uj _ _ _ _).flat
theorem Um (b:Bool) (l c:Nat) (lo hi mx:Option Value):Flat P C (Instr.sliceBounds b l c lo hi mx):=by
 unfold Instr.sliceBounds
 dsimp only
 repeat' (first | exact Flat.pure _ | exact ada _ _ _ | exact (nG _).flat | refine Flat.bind ?_ fun _=>?_ | split)
theorem Un (t:TypeId) (x i:Value):Flat P C (Instr.indexAt t x i):=by
 unfold Instr.indexAt
 refine Flat.bind (Ul i) fun ki=>?_
 obtain ⟨k,i⟩:=ki
 dsimp only
 repeat' (first | exact Flat.pure _ | exact Lj _ | exact Ll _ | exact Lr _ | exact (nG _).flat | exact (Uh _).flat | exact (Uj _ _ _ _).flat | refine Flat.bind ?_ fun _=>?_ | split)
theorem adb (t:TypeId) (x:Value) (lo hi mx:Option Value):Flat P C (Instr.slice t x lo hi mx):=by
 unfold Instr.slice
 dsimp only
 repeat' (first | exact Flat.pure _ | exact Lj _ | exact Ll _ | exact ac9 _ | exact Um _ _ _ _ _ _ | exact (nG _).flat | refine Flat.bind ?_ fun _=>?_ | split)
theorem ade (t:TypeId) (x:Value) (lo hi mx:Option Value):Flat P C (Instr.sliceAt t x lo hi mx):=by
 unfold Instr.sliceAt
 dsimp only
 repeat' (first | exact Flat.pure _ | exact Lj _ | exact Ll _ | exact Lr _ | exact Um _ _ _ _ _ _ | exact adb _ _ _ _ _ | exact (nG _).flat | refine Flat.bind ?_ fun _=>?_ | split)
theorem Uo (hT:bG P T) {t f:Nat} {fs:List (Nat×Nat)} {ft off:Nat} (htd:(ag T t).d = .struct fs) (hf:pJ fs f=some (ft,off)) (hsz:1<=(ag T ft).sz) (x:Value):Flat P C (Instr.fieldAt t x f):=by
 obtain ⟨_,_,_,g⟩:=hT.bJ htd (by simp)
 have hd:=g.d; rw [htd] at hd
 obtain ⟨l,rfl,rfl,_⟩:=rq hd.symm
 obtain ⟨fd,hfd,rfl,rfl⟩:=KQ l.toList f hf
 obtain ⟨_,i,z,g'⟩:=hT.eO hsz
 have hne:¬ i.size=0:=by have:=g'.sz; omega
 have hfd':l[f]? = some fd:=by simpa using hfd
 have hrun:∀ (w:World),(Instr.fieldAt t x f).run P w=(Instr.sureAddr x >>= fun a=>(Pure.pure (.pointer (some (a.add fd.offset))):Sem Value)).run P w:=fun w=>by
  simp [Instr.fieldAt,run_underlying g.und,hfd',fieldPlace,sizeOf,typeInfo,g'.info,hne]
 have hfl:Flat P C (Instr.sureAddr x >>= fun a=>(Pure.pure (.pointer (some (a.add fd.offset))):Sem Value)):=Flat.bind (Lr x) fun _=>Flat.pure _
 intro w v w1 h
 rw [hrun] at h
 obtain ⟨h1,h2⟩:=hfl w v w1 h
 exact ⟨h1,fun w' hw=>by rw [hrun]; exact h2 w' hw⟩
def Gr (T:aX) (ts:List AV) (o:Oper):Bool :=
 match o.guard with
 | some _=>false
 | none=>match o.op with
  | .move _=>true
  | .assign _=>true
  | .indexAddr .. => true
  | .slice .. => true
  | .fieldAddr t _ f=>match (ag T t).d with
   | .struct fs=>match pJ fs f with
    | some (ft,_)=>Nat.ble 1 (ag T ft).sz
    | none=>false
   | _=>false
  | .load t x=>match bE ts x with
   | .bS n _=>match gp T t with
    | true=>Nat.ble (ag T t).sz n
    | false=>match yc (ag T t).d with | true=>false | false=>Nat.ble 1 n
   | _=>false
  | _=>false
variable {base:Env} {w:World} {S:Nat->Prop} {m:aY}
theorem yU {s:Sem Value} (h:Flat P C s):Flat P C (do pure (.value (<- s)):Sem Next):=Flat.bind h fun _=>Flat.pure _
theorem adf (hT:bG P T) {call:dD} (hcall:Sound P call) {ops:Array Oper} {o:Oper} {i:Nat} (hi:ops[i]? = some o) {a:Act} {s:St} (hM:aV base w S m s.m) (hF:dQ base.old w S m a s) (hok:Gr T s.ts o=true) (htg:∀ t,Operand.tmp t∈o.op.operands.toList->bU s.tg t=[])
  (hk:aG (eH ae T call ops.toList s o).ks):∃ v S' m',(∀ D:World->Prop,(∀ w',D w'->∀ b,S b->w'.heap[b]? = w.heap[b]?)->YieldsIf P ops D o v a)/\(∀ b,S b->S' b)/\(∀ b,S' b->S b\/¬ base.Z b) /\
   aV base w S' m' (eH ae T call ops.toList s o).m/\dQ base.old w S' m' (a.put o.dst v) (eH ae T call ops.toList s o):=by
 let K:Act->World->Prop:=fun a' w'=>∃ S' m',(∀ b,S b->S' b)/\(∀ b,S' b->S b\/¬ base.Z b)/\aV base w' S' m' (eH ae T call ops.toList s o).m/\dQ base.old w' S' m' a' (eH ae T call ops.toList s o)
 have h:wpOp P ops (fun _ _ _=>False) i K a w:=vZ hT hcall hi hM hF hk fun a' w' S' m' _ hS hU hM' hF'=>⟨S',m',hS,hU,hM',hF'⟩
 unfold wpOp at h
 simp only [hi] at h
 have hg:o.guard=none:=by
  unfold Gr at hok
  split at hok
  ·cases hok
  ·assumption
 have hwant:Region.wanted o (yielded ops a.tmps)=true:=by unfold Region.wanted; rw [hg]
 rw [if_pos hwant] at h
 rcases h with h | ⟨_,_,_,h⟩
 case inr=>exact h.elim
 have fin:∀ v w1,(execOp a.eval o).run P w = .ok (.value v) w1->(w1=w/\∀ w',(∀ b,S b->w'.heap[b]? = w.heap[b]?)->(execOp a.eval o).run P w' = .ok (.value v) w')->∃ v S' m',(∀ D:World->Prop,(∀ w',D w'->∀ b,S b->w'.heap[b]? = w.heap[b]?)->YieldsIf P ops D o v a)/\(∀ b,S b->S' b)/\(∀ b,S' b->S b\/¬ base.Z b) /\
   aV base w S' m' (eH ae T call ops.toList s o).m/\dQ base.old w S' m' (a.put o.dst v) (eH ae T call ops.toList s o):=by
  intro v w1 hr ⟨e,hall⟩
  subst e
  unfold Oper.wp at h
  rw [hr] at h
  obtain ⟨S',m',h1,h2,h3,h4⟩:=h
  exact ⟨v,S',m',fun D hD=>.inl ⟨hwant,fun w' hw'=>hall w' (hD w' hw')⟩,h1,h2,h3,h4⟩
 have flat:Flat P (fun w w'=>∀ b,S b->w'.heap[b]? = w.heap[b]?) (execOp a.eval o)->(∀ n w1,(execOp a.eval o).run P w = .ok n w1->∃ v,n = .value v)->∃ v S' m',(∀ D:World->Prop,(∀ w',D w'->∀ b,S b->w'.heap[b]? = w.heap[b]?)->YieldsIf P ops D o v a)/\(∀ b,S b->S' b)/\(∀ b,S' b->S b\/¬ base.Z b) /\
   aV base w S' m' (eH ae T call ops.toList s o).m/\dQ base.old w S' m' (a.put o.dst v) (eH ae T call ops.toList s o):=by
  intro hfl hv
  cases hr:(execOp a.eval o).run P w with
  | ok n w1 =>
   obtain ⟨v,rfl⟩:=hv n w1 hr
   obtain ⟨e,hall⟩:=hfl w _ w1 hr
   exact fin v w1 hr ⟨e,hall⟩
  | halt x w1 =>
   unfold Oper.wp at h
   rw [hr] at h
   cases x <;> simp only [Oper.upon] at h
 have isv:∀ (s:Sem Value),(∀ n w1,(do pure (.value (<- s)):Sem Next).run P w = .ok n w1->∃ v,n = .value v):=by
  intro s n w1 hr
  rw [Sem.run_bind] at hr
  cases hs:s.run P w with
  | halt x w2=>rw [hs] at hr; cases hr
  | ok v w2=>rw [hs] at hr; cases hr; exact ⟨v,rfl⟩
 unfold Gr at hok
 rw [hg] at hok
 simp only at hok
 split at hok
 ·rename_i x hop
  refine flat (by unfold execOp; rw [hop]; exact Flat.pure _) (fun n w1 hr=>?_)
  unfold execOp at hr; rw [hop] at hr; cases hr; exact ⟨_,rfl⟩
 ·rename_i x hop
  refine flat (by unfold execOp; rw [hop]; exact Flat.pure _) (fun n w1 hr=>?_)
  unfold execOp at hr; rw [hop] at hr; cases hr; exact ⟨_,rfl⟩
 ·rename_i t x ix hop
  exact flat (by unfold execOp; rw [hop]; exact yU (Un _ _ _)) (by unfold execOp; rw [hop]; exact isv _)
 ·rename_i t x lo hi' mx hop
  exact flat (by unfold execOp; rw [hop]; exact yU (ade _ _ _ _ _)) (by unfold execOp; rw [hop]; exact isv _)
 ·rename_i t x f hop
  split at hok
  ·rename_i fs htd
   split at hok
   ·rename_i ft off hf
    exact flat (by unfold execOp; rw [hop]; exact yU (Uo hT htd hf (Nat.le_of_ble_eq_true hok) _)) (by unfold execOp; rw [hop]; exact isv _)
   ·cases hok
  ·cases hok
 ·rename_i t x hop
  split at hok
  case h_2=>cases hok
  rename_i n c hx
  have hr:Rel w S m (a.eval x) (bE s.ts x):=ru x fun t ht=>hF.rel t (by rw [htg t (by rw [hop,<- ht]; simp [Op.operands])]; intro _ _ hm; cases hm)
  rw [hx] at hr
  have he:execOp a.eval o=(do pure (.value (<- Instr.loadAt t (a.eval x))):Sem Next):=by unfold execOp; rw [hop]
  generalize a.eval x=u at hr he
  cases hr with
  | bS _ b off _ _ f hs hc h =>
   have cell:∀ w':World,(∀ b,S b->w'.heap[b]? = w.heap[b]?)->∀ j,j<n->w'.cell? ⟨b,off+j,none⟩=some (f j):=fun w' hw' j hj=>by
    rw [<- (hc j hj).1]; exact World.cell?_of_block (hw' b hs)
   have run:∃ v,∀ w':World,(∀ b,S b->w'.heap[b]? = w.heap[b]?)->(Instr.loadAt t (.pointer (some ⟨b,off,none⟩))).run P w' = .ok v w':=by
    split at hok
    ·rename_i hag
     exact ⟨_,fun w' hw'=>yI hT hag f fun j hj=>cell w' hw' j (Nat.lt_of_lt_of_le hj (Nat.le_of_ble_eq_true hok))⟩
    ·rename_i hag
     split at hok
     ·cases hok
     ·rename_i hno
      exact ⟨_,fun w' hw'=>vS hT hag (qg hno) (by have:=cell w' hw' 0 (Nat.le_of_ble_eq_true hok); rwa [Nat.add_zero] at this)⟩
   obtain ⟨v,run⟩:=run
   have run':∀ w':World,(∀ b,S b->w'.heap[b]? = w.heap[b]?)->(execOp a.eval o).run P w' = .ok (.value v) w':=fun w' hw'=>by
    rw [he,Sem.run_bind,run w' hw']; rfl
   exact fin v w (run' w fun _ _=>rfl) ⟨rfl,run'⟩
 ·cases hok
def Uq:BinOp->Bool
 | .eql | .neq | .lss | .leq | .gtr | .geq | .add | .sub | .mul=>true
 | _=>false
def Gs (T:aX) (ts:List AV) (o:Oper):Bool :=
 match o.guard with
 | some _=>false
 | none=>match o.op with
  | .move _=>true
  | .assign _=>true
  | .fieldAddr t _ f=>match (ag T t).d with
   | .struct fs=>match pJ fs f with
    | some (ft,_)=>Nat.ble 1 (ag T ft).sz
    | none=>false
   | _=>false
  | .binOp op _ x y _=>match Uq op with
   | true=>match bE ts x,bE ts y with
    | .int _ _,.int _ _=>true
    | _,_=>false
   | false=>false
  | .nilCheck x=>match bE ts x with
   | .ref _ _=>true
   | .bS _ _=>true
   | _=>false
  | .indexAddr _ _ _=>true
  | _=>false
theorem adg (op:BinOp) (t:TypeId) (x y:Operand) (k k':IntKind) (n n':Int):Flat P C (eqGuard op t x y (.int k n) (.int k' n')):=by
 unfold eqGuard
 dsimp only
 repeat' (first | exact Flat.pure _ | refine Flat.bind ?_ fun _=>?_ | split)
theorem adh (op:BinOp) (x y:Int):Flat P C (Op.intCmp op x y):=by
 unfold Op.intCmp
 split <;> first | exact Flat.pure _ | exact (nG _).flat
theorem adi {op:BinOp} (h:Uq op=true) (t:TypeId) (k k':IntKind) (n n':Int):Flat P C (binOp op t (.int k n) (.int k' n')):=by
 cases op <;> first | (cases h; done) | skip
 all_goals
  first
  |show Flat P C (if k≠k' then stuck _ else Op.intCmp _ n n')
   split
   ·exact (nG _).flat
   ·exact adh _ _ _
  |show Flat P C (if k≠k' then stuck _ else Op.intArith _ k n n')
   split
   ·exact (nG _).flat
   ·exact Flat.pure _
theorem pure_ok (hT:bG P T) {call:dD} (hcall:Sound P call) {ops:Array Oper} {o:Oper} {i:Nat} (hi:ops[i]? = some o) {a:Act} {s:St} (hM:aV base w S m s.m) (hF:dQ base.old w S m a s) (hok:Gs T s.ts o=true) (htg:∀ t,Operand.tmp t∈o.op.operands.toList->bU s.tg t=[])
  (hk:aG (eH ae T call ops.toList s o).ks):∃ v S' m',(∀ D:World->Prop,YieldsIf P ops D o v a)/\(∀ b,S b->S' b)/\(∀ b,S' b->S b\/¬ base.Z b) /\
   aV base w S' m' (eH ae T call ops.toList s o).m/\dQ base.old w S' m' (a.put o.dst v) (eH ae T call ops.toList s o):=by
 let K:Act->World->Prop:=fun a' w'=>∃ S' m',(∀ b,S b->S' b)/\(∀ b,S' b->S b\/¬ base.Z b)/\aV base w' S' m' (eH ae T call ops.toList s o).m/\dQ base.old w' S' m' a' (eH ae T call ops.toList s o)
 have h:wpOp P ops (fun _ _ _=>False) i K a w:=vZ hT hcall hi hM hF hk fun a' w' S' m' _ hS hU hM' hF'=>⟨S',m',hS,hU,hM',hF'⟩
 unfold wpOp at h
 simp only [hi] at h
 have hg:o.guard=none:=by
  unfold Gs at hok
  split at hok
  ·cases hok
  ·assumption
 have hwant:Region.wanted o (yielded ops a.tmps)=true:=by unfold Region.wanted; rw [hg]
 rw [if_pos hwant] at h
 rcases h with h | ⟨_,_,_,h⟩
 case inr=>exact h.elim
 have fin:∀ v w1,(execOp a.eval o).run P w = .ok (.value v) w1->(w1=w/\∀ w',(execOp a.eval o).run P w' = .ok (.value v) w')->∃ v S' m',(∀ D:World->Prop,YieldsIf P ops D o v a)/\(∀ b,S b->S' b)/\(∀ b,S' b->S b\/¬ base.Z b) /\
   aV base w S' m' (eH ae T call ops.toList s o).m/\dQ base.old w S' m' (a.put o.dst v) (eH ae T call ops.toList s o):=by
  intro v w1 hr ⟨e,hall⟩
  subst e
  unfold Oper.wp at h
  rw [hr] at h
  obtain ⟨S',m',h1,h2,h3,h4⟩:=h
  exact ⟨v,S',m',fun D=>.inl ⟨hwant,fun w' _=>hall w'⟩,h1,h2,h3,h4⟩
 have flat:Flat P (fun _ _=>True) (execOp a.eval o)->(∀ n w1,(execOp a.eval o).run P w = .ok n w1->∃ v,n = .value v)->∃ v S' m',(∀ D:World->Prop,YieldsIf P ops D o v a)/\(∀ b,S b->S' b)/\(∀ b,S' b->S b\/¬ base.Z b) /\
   aV base w S' m' (eH ae T call ops.toList s o).m/\dQ base.old w S' m' (a.put o.dst v) (eH ae T call ops.toList s o):=by
  intro hfl hv
  cases hr:(execOp a.eval o).run P w with
  | ok n w1 =>
   obtain ⟨v,rfl⟩:=hv n w1 hr
   obtain ⟨e,hall⟩:=hfl w _ w1 hr
   exact fin v w1 hr ⟨e,fun w'=>hall w' trivial⟩
  | halt x w1 =>
   unfold Oper.wp at h
   rw [hr] at h
   cases x <;> simp only [Oper.upon] at h
 have isv:∀ (s:Sem Value),(∀ n w1,(do pure (.value (<- s)):Sem Next).run P w = .ok n w1->∃ v,n = .value v):=by
  intro s n w1 hr
  rw [Sem.run_bind] at hr
  cases hs:s.run P w with
  | halt x w2=>rw [hs] at hr; cases hr
  | ok v w2=>rw [hs] at hr; cases hr; exact ⟨v,rfl⟩
 unfold Gs at hok
 rw [hg] at hok
 simp only at hok
 split at hok
 ·rename_i x hop
  refine flat (by unfold execOp; rw [hop]; exact Flat.pure _) (fun n w1 hr=>?_)
  unfold execOp at hr; rw [hop] at hr; cases hr; exact ⟨_,rfl⟩
 ·rename_i x hop
  refine flat (by unfold execOp; rw [hop]; exact Flat.pure _) (fun n w1 hr=>?_)
  unfold execOp at hr; rw [hop] at hr; cases hr; exact ⟨_,rfl⟩
 ·rename_i t x f hop
  split at hok
  ·rename_i fs htd
   split at hok
   ·rename_i ft off hf
    exact flat (by unfold execOp; rw [hop]; exact yU (Uo hT htd hf (Nat.le_of_ble_eq_true hok) _)) (by unfold execOp; rw [hop]; exact isv _)
   ·cases hok
  ·cases hok
 ·rename_i op t x y c hop
  split at hok
  case h_2=>cases hok
  rename_i hc
  split at hok
  case h_2=>cases hok
  rename_i k n k' n' hx hy
  have hr:Rel w S m (a.eval x) (bE s.ts x):=ru x fun t ht=>hF.rel t (by rw [htg t (by rw [hop,<- ht]; simp [Op.operands])]; intro _ _ hm; cases hm)
  have hr':Rel w S m (a.eval y) (bE s.ts y):=ru y fun t ht=>hF.rel t (by rw [htg t (by rw [hop,<- ht]; simp [Op.operands])]; intro _ _ hm; cases hm)
  rw [hx] at hr
  rw [hy] at hr'
  have he:execOp a.eval o=((eqGuard op t x y (a.eval x) (a.eval y) >>= fun _=>binOp op t (a.eval x) (a.eval y)) >>= fun r=>Pure.pure (.value r):Sem Next):=by unfold execOp; simp only [hop]
  have ex:a.eval x = .int k n:=by generalize a.eval x=u at hr; cases hr; rfl
  have ey:a.eval y = .int k' n':=by generalize a.eval y=u at hr'; cases hr'; rfl
  rw [ex,ey] at he
  exact flat (by rw [he]; exact yU (Flat.bind (adg _ _ _ _ _ _ _ _) fun _=>adi hc _ _ _ _ _)) (by rw [he]; exact isv _)
 ·rename_i x hop
  have hr:Rel w S m (a.eval x) (bE s.ts x):=ru x fun t ht=>hF.rel t (by rw [htg t (by rw [hop,<- ht]; simp [Op.operands])]; intro _ _ hm; cases hm)
  have ex:∃ q,a.eval x = .pointer (some q):=by
   split at hok
   ·rename_i hx; rw [hx] at hr; generalize a.eval x=u at hr; cases hr; exact ⟨_,rfl⟩
   ·rename_i hx; rw [hx] at hr; generalize a.eval x=u at hr; cases hr; exact ⟨_,rfl⟩
   ·cases hok
  obtain ⟨q,ex⟩:=ex
  have he:execOp a.eval o=(Pure.pure (.value (.pointer (some q))):Sem Next):=by unfold execOp; simp only [hop,ex]
  refine flat (by rw [he]; exact Flat.pure _) (fun n w1 hr=>?_)
  rw [he] at hr; cases hr; exact ⟨_,rfl⟩
 ·rename_i t x ix hop
  exact flat (by unfold execOp; rw [hop]; exact yU (Un _ _ _)) (by unfold execOp; rw [hop]; exact isv _)
 ·cases hok
end Go.aT
