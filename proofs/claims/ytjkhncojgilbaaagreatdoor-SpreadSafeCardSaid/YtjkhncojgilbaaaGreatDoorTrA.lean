/- Trees: what code comes to, as plain functions with loops; the evaluator that reads code as a tree. -/
import Derived.Test.YtjkhncojgilbaaaGreatDoorEngVd
import Derived.Test.YtjkhncojgilbaaaGreatDoorEngPb
namespace Go.aT
open Go Go.RowKit
noncomputable section
inductive Tree:Type->Type 1 where
 |ret {α:Type} (a:α):Tree α
 |fail {α:Type}:Tree α
 |ite {α:Type} (c:Bool) (t e:Tree α):Tree α
 |bnd {α β:Type} (t:Tree α) (k:α->Tree β):Tree β
 |dH {α β:Type} (g:Bool) (t:Tree α) (d:α) (k:α->Tree β):Tree β
 |sum {α β γ:Type} (s:α⊕β) (k:α->Tree γ) (l:β->Tree γ):Tree γ
 |loop {σ α:Type} (step:σ->Tree (σ⊕α)) (s:σ):Tree α
 |both {α:Type} (t e:Tree α):Tree α
inductive mU {σ α:Type} (f:σ->Option (σ⊕α)):σ->α->Prop where
 |more {s s':σ} {a:α} (h:f s=some (.inl s')) (r:mU f s' a):mU f s a
 |done {s:σ} {a:α} (h:f s=some (.inr a)):mU f s a
theorem mU.unique {σ α:Type} {f:σ->Option (σ⊕α)} {s:σ} {a b:α} (h:mU f s a) (k:mU f s b):a=b:=by
 induction h with
 | more h _ ih=>cases k with
  | more h' k=>rw [h] at h'; cases h'; exact ih k
  | done h'=>rw [h] at h'; cases h'
 | done h=>cases k with
  | more h' k=>rw [h] at h'; cases h'
  | done h'=>rw [h] at h'; cases h'; rfl
open Classical in
def dP {σ α:Type} (f:σ->Option (σ⊕α)) (s:σ):Option α :=
 if h:∃ a,mU f s a then some (Classical.choose h) else none
theorem qM {σ α:Type} {f:σ->Option (σ⊕α)} {s:σ} {a:α}:dP f s=some a↔mU f s a:=by
 unfold dP
 split
 ·rename_i h
  constructor
  ·intro e; injection e with e; subst e; exact Classical.choose_spec h
  ·intro k; rw [(Classical.choose_spec h).unique k]
 ·rename_i h
  exact ⟨(fun e=>by cases e),fun k=>absurd ⟨_,k⟩ h⟩
def U1 {σ α:Type} (k:σ->Option α):σ⊕α->Option α
 | .inl s=>k s
 | .inr a=>some a
theorem ib {σ α:Type} (f:σ->Option (σ⊕α)) (s:σ):dP f s=(f s).bind (U1 (dP f)):=by
 apply Option.ext
 intro a
 rw [qM]
 constructor
 ·intro h
  cases h with
  | more h r=>rw [h]; exact qM.2 r
  | done h=>rw [h]; rfl
 ·intro h
  cases hf:f s with
  | none=>rw [hf] at h; cases h
  | some x =>
   rw [hf] at h
   cases x with
   | inl s'=>exact .more hf (qM.1 h)
   | inr b=>cases h; exact .done hf
def Jf {σ α:Type} (f:σ->Option (σ⊕α)):Nat->σ->Option α
 | 0,_=>none
 | n+1,s=>match f s with
  | some (.inl s')=>Jf f n s'
  | some (.inr a)=>some a
  | none=>none
open Classical in
def Tree.run:{α:Type}->Tree α->Option α
 | _,.ret a=>some a
 | _,.fail=>none
 | _,.ite c t e=>bif c then t.run else e.run
 | _,.bnd t k=>t.run.bind fun a=>(k a).run
 | _,.dH g t d k=>bif g&&t.run.isNone then none else (k (t.run.getD d)).run
 | _,.sum s k l=>match s with | .inl a=>(k a).run | .inr b=>(l b).run
 | _,.loop step s=>dP (fun s=>(step s).run) s
 | _,.both t e=>if t.run=e.run then t.run else none
def Tree.runN (n:Nat):{α:Type}->Tree α->Option α
 | _,.ret a=>some a
 | _,.fail=>none
 | _,.ite c t e=>bif c then t.runN n else e.runN n
 | _,.bnd t k=>match t.runN n with | some a=>(k a).runN n | none=>none
 | _,.dH _ t _ k=>match t.runN n with | some a=>(k a).runN n | none=>none
 | _,.sum s k l=>match s with | .inl a=>(k a).runN n | .inr b=>(l b).runN n
 | _,.loop step s=>Jf (fun s=>(step s).runN n) n s
 | _,.both _ _=>none
theorem ah0 {σ α:Type} {f g:σ->Option (σ⊕α)} (h:∀ s x,f s=some x->g s=some x):∀ (n:Nat) (s:σ) (a:α),Jf f n s=some a->mU g s a:=by
 intro n
 induction n with
 | zero=>intro s a h; cases h
 | succ n ih =>
  intro s a hl
  simp only [Jf] at hl
  split at hl
  ·rename_i hf; exact .more (h _ _ hf) (ih _ _ hl)
  ·rename_i hf; cases hl; exact .done (h _ _ hf)
  ·cases hl
theorem Tree.AR {n:Nat} {α:Type} {t:Tree α} {a:α} (h:t.runN n=some a):t.run=some a:=by
 induction t with
 | ret b=>exact h
 | fail=>cases h
 | ite c t e iht ihe =>
  simp only [Tree.runN,Tree.run] at h ⊢
  cases c
  ·exact ihe h
  ·exact iht h
 | bnd t k iht ihk =>
  simp only [Tree.runN,Tree.run] at h ⊢
  split at h
  ·rename_i b hb; rw [iht hb]; exact ihk b h
  ·cases h
 | dH g t d k iht ihk =>
  simp only [Tree.runN,Tree.run] at h ⊢
  split at h
  ·rename_i b hb; rw [iht hb]; simp; exact ihk b h
  ·cases h
 | sum s k l ihk ihl =>
  cases s with
  | inl a=>exact ihk a h
  | inr b=>exact ihl b h
 | loop step s ih =>
  simp only [Tree.runN,Tree.run] at h ⊢
  exact qM.2 (ah0 (fun s x hx=>ih s hx) _ _ _ h)
 | both t e _ _=>cases h
def Tree.bind:{α β:Type}->Tree α->(α->Tree β)->Tree β
 | _,_,.ret a,f=>f a
 | _,_,.fail,_=>.fail
 | _,_,.ite c t e,f=>.ite c (t.bind f) (e.bind f)
 | _,_,.bnd t k,f=>.bnd t fun a=>(k a).bind f
 | _,_,.dH g t d k,f=>.dH g t d fun a=>(k a).bind f
 | _,_,.sum s k l,f=>.sum s (fun a=>(k a).bind f) (fun b=>(l b).bind f)
 | _,_,.loop step s,f=>.bnd (.loop step s) f
 | _,_,.both t e,f=>.both (t.bind f) (e.bind f)
def Tree.pl:{α:Type}->Tree α->Prop
 | _,.ret _=>True
 | _,.fail=>True
 | _,.ite _ t e=>t.pl/\e.pl
 | _,.bnd _ k=>∀ a,(k a).pl
 | _,.dH _ _ _ k=>∀ a,(k a).pl
 | _,.sum _ k l=>(∀ a,(k a).pl)/\∀ b,(l b).pl
 | _,.loop _ _=>True
 | _,.both _ _=>False
theorem Tree.run_bind {α β:Type} {t:Tree α} (hp:t.pl) (f:α->Tree β):(t.bind f).run=t.run.bind fun a=>(f a).run:=by
 induction t with
 | ret a=>rfl
 | fail=>rfl
 | ite c t e iht ihe=>simp only [Tree.bind,Tree.run]; cases c; exact ihe hp.2 f; exact iht hp.1 f
 | bnd t k iht ihk =>
  simp only [Tree.bind,Tree.run]
  cases t.run with
  | none=>rfl
  | some a=>exact ihk a (hp a) f
 | dH g t d k iht ihk =>
  simp only [Tree.bind,Tree.run]
  cases g&&t.run.isNone with
  | true=>rfl
  | false=>exact ihk _ (hp _) f
 | sum s k l ihk ihl =>
  cases s with
  | inl a=>exact ihk a (hp.1 a) f
  | inr b=>exact ihl b (hp.2 b) f
 | loop step s ih=>rfl
 | both t e=>exact hp.elim
theorem Tree.Qj {α β:Type} {t:Tree α} (hp:t.pl) {f:α->Tree β} (hf:∀ a,(f a).pl):(t.bind f).pl:=by
 induction t with
 | ret a=>exact hf a
 | fail=>trivial
 | ite c t e iht ihe=>exact ⟨iht hp.1 hf,ihe hp.2 hf⟩
 | bnd t k iht ihk=>exact fun a=>ihk a (hp a) hf
 | dH g t d k iht ihk=>exact fun a=>ihk a (hp a) hf
 | sum s k l ihk ihl=>exact ⟨fun a=>ihk a (hp.1 a) hf,fun b=>ihl b (hp.2 b) hf⟩
 | loop step s ih=>exact hf
 | both t e=>exact hp.elim
def Tree.wp:{α:Type}->Tree α->(α->Prop)->Prop
 | _,.ret a,Q=>Q a
 | _,.fail,_=>False
 | _,.ite c t e,Q=>bif c then t.wp Q else e.wp Q
 | _,.bnd t k,Q=>∃ a,t.run=some a/\(k a).wp Q
 | _,.dH g t d k,Q=>(g&&t.run.isNone)=false/\(k (t.run.getD d)).wp Q
 | _,.sum s k l,Q=>match s with | .inl a=>(k a).wp Q | .inr b=>(l b).wp Q
 | _,.loop step s,Q=>∃ a,dP (fun s=>(step s).run) s=some a/\Q a
 | _,.both t e,Q=>t.wp Q/\e.wp Q
theorem Tree.wp_bind {α β:Type} {t:Tree α} {f:α->Tree β} {Q:β->Prop}:(t.bind f).wp Q↔t.wp fun a=>(f a).wp Q:=by
 induction t with
 | ret a=>exact Iff.rfl
 | fail=>exact Iff.rfl
 | ite c t e iht ihe=>cases c; exact ihe; exact iht
 | bnd t k iht ihk=>exact ⟨fun ⟨a,h1,h2⟩=>⟨a,h1,(ihk a).1 h2⟩,fun ⟨a,h1,h2⟩=>⟨a,h1,(ihk a).2 h2⟩⟩
 | dH g t d k iht ihk=>exact ⟨fun ⟨h1,h2⟩=>⟨h1,(ihk _).1 h2⟩,fun ⟨h1,h2⟩=>⟨h1,(ihk _).2 h2⟩⟩
 | sum s k l ihk ihl=>cases s with
  | inl a=>exact ihk a
  | inr b=>exact ihl b
 | loop step s ih=>exact Iff.rfl
 | both t e iht ihe=>exact ⟨fun ⟨h1,h2⟩=>⟨iht.1 h1,ihe.1 h2⟩,fun ⟨h1,h2⟩=>⟨iht.2 h1,ihe.2 h2⟩⟩
theorem Tree.wp_mono {α:Type} {t:Tree α} {Q R:α->Prop} (h:t.wp Q) (hr:∀ a,Q a->R a):t.wp R:=by
 induction t with
 | ret a=>exact hr _ h
 | fail=>exact h
 | ite c t e iht ihe=>cases c; exact ihe h hr; exact iht h hr
 | bnd t k iht ihk=>obtain ⟨a,h1,h2⟩:=h; exact ⟨a,h1,ihk a h2 hr⟩
 | dH g t d k iht ihk=>exact ⟨h.1,ihk _ h.2 hr⟩
 | sum s k l ihk ihl=>cases s with
  | inl a=>exact ihk a h hr
  | inr b=>exact ihl b h hr
 | loop step s ih=>obtain ⟨a,h1,h2⟩:=h; exact ⟨a,h1,hr a h2⟩
 | both t e iht ihe=>exact ⟨iht h.1 hr,ihe h.2 hr⟩
theorem Tree.Qk {α:Type} {t:Tree α} {a:α} (h:t.run=some a):t.wp (fun b=>b=a):=by
 induction t with
 | ret b=>cases h; rfl
 | fail=>cases h
 | ite c t e iht ihe=>cases c; exact ihe h; exact iht h
 | bnd t k iht ihk =>
  simp only [Tree.run] at h
  cases hb:t.run with
  | none=>rw [hb] at h; cases h
  | some b=>rw [hb] at h; exact ⟨b,hb,ihk b h⟩
 | dH g t d k iht ihk =>
  simp only [Tree.run] at h
  cases hg:g&&t.run.isNone with
  | true=>rw [hg] at h; cases h
  | false=>rw [hg] at h; exact ⟨hg,ihk _ h⟩
 | sum s k l ihk ihl=>cases s with
  | inl a=>exact ihk a h
  | inr b=>exact ihl b h
 | loop step s ih=>exact ⟨a,h,rfl⟩
 | both t e iht ihe =>
  simp only [Tree.run] at h
  split at h
  ·rename_i e1; exact ⟨iht h,ihe (e1▸h)⟩
  ·cases h
theorem Tree.oQ {α:Type} {t:Tree α} (hp:t.pl) {Q:α->Prop} (h:t.wp Q):∃ a,t.run=some a/\Q a:=by
 induction t with
 | ret b=>exact ⟨b,rfl,h⟩
 | fail=>exact h.elim
 | ite c t e iht ihe=>cases c; exact ihe hp.2 h; exact iht hp.1 h
 | bnd t k iht ihk =>
  obtain ⟨b,h1,h2⟩:=h
  simp only [Tree.run,h1]
  exact ihk b (hp b) h2
 | dH g t d k iht ihk =>
  obtain ⟨h1,h2⟩:=h
  simp only [Tree.run,h1]
  exact ihk _ (hp _) h2
 | sum s k l ihk ihl=>cases s with
  | inl a=>exact ihk a (hp.1 a) h
  | inr b=>exact ihl b (hp.2 b) h
 | loop step s ih=>exact h
 | both t e=>exact hp.elim
theorem Tree.pg {α:Type} {t e:Tree α} {a:α} (h:t.run=some a) (k:e.run=some a):(Tree.both t e).run=some a:=by
 simp only [Tree.run,h,k,if_true]
def uB {α:Type}:List Bool->Tree α->Tree α
 | [],t=>t
 | k::l,t=>.ite k (uB l t) .fail
theorem Jg {α:Type} {ks:List Bool} {t:Tree α} (h:t.pl):(uB ks t).pl:=by
 induction ks with
 | nil=>exact h
 | cons k l ih=>exact ⟨ih,trivial⟩
theorem AU {α:Type} {ks:List Bool} {t:Tree α} {a:α} (h:(uB ks t).run=some a):aG ks/\t.run=some a:=by
 induction ks with
 | nil=>exact ⟨trivial,h⟩
 | cons k l ih =>
  simp only [uB,Tree.run] at h
  cases k with
  | false=>cases h
  | true=>obtain ⟨h1,h2⟩:=ih h; exact ⟨aG.cons.2 ⟨rfl,h1⟩,h2⟩
structure rO where
 α:Type
 t:Tree α
 r:α->CR
 d:α
structure xn where
 α:Type
 t:Tree α
 r:α->R
structure bW where
 pu:Nat->List AV->Option rO
 me:Nat->List AV->Mem->Option xn
 lp:Nat->AS->Option (Tree (Exit×AS))
 fz:Nat->List Pre
def bW.old (o:bW):dD where
 pu:=fun _ id args=>match o.pu id args with
  | some c=>some ⟨c.r (c.t.run.getD c.d),[c.t.run.isSome]⟩
  | none=>none
 me:=fun _ id args M=>match o.me id args M with
  | some c=>match c.t.run with
   | some a=>some (c.r a)
   | none=>some (bad M)
  | none=>none
structure lD (P:Program) (o:bW):Prop where
 pu:∀ id args c a,o.pu id args=some c->c.t.run=some a->iX P id args (c.r a)
 me:∀ id args M c a,o.me id args M=some c->c.t.run=some a->aG (c.r a).ks->nz P id args M (c.r a)
theorem lD.old {P:Program} {o:bW} (h:lD P o):Sound P o.old:=by
 refine ⟨fun id args r ks h1 h2=>?_,fun id args M r h1 h2=>?_⟩
 ·simp only [bW.old] at h1
  split at h1
  ·rename_i c hc
   cases h1
   have h2:c.t.run.isSome=true:=h2
   obtain ⟨a,ha⟩:=Option.isSome_iff_exists.1 h2
   rw [ha]
   exact h.pu _ _ _ _ hc ha
  ·cases h1
 ·simp only [bW.old] at h1
  split at h1
  ·rename_i c hc
   split at h1
   ·rename_i a ha; cases h1; exact h.me _ _ _ _ _ hc ha h2
   ·cases h1; exact (aH h2).elim
  ·cases h1
def dR (m:Mem) (oo:Bool) (ks:List Bool):CR->R
 | .val v=>match oo with
  | true=>⟨v,m,ks,none⟩
  | false=>match pR v with
   | true=>⟨v,m,ks,none⟩
   | false=>bad m
 | .fresh e sz n c=>match oo with
  | true=>⟨.own (aB m) n,fI m (.rows e sz n c),ks,none⟩
  | false=>bad m
 | .nY e u l=>match BL oo (lL u) with
  | true=>⟨.bz (aB m),fI m (.bC e u l),ks,none⟩
  | false=>bad m
 | .pU _ u l=>match lL u with
  | true=>⟨.bF u l false,m,ks,none⟩
  | false=>bad m
theorem XM (p:bg) (call:dD) (m:Mem) (id:Nat) (bargs:List AV) (oo:Bool):lM p call m id bargs oo=match call.pu p id bargs with | some c=>dR m oo c.ks c.r | none=>bad m:=by
 unfold lM
 cases call.pu p id bargs with
 | none=>rfl
 | some c=>obtain ⟨r,ks⟩:=c; cases r <;> rfl
def iU (s:St):Tree St:=uB s.ks (.ret ⟨s.ts,s.m,s.tg,[]⟩)
def oU (p:bg) (s:St) (C:bO) (dst:Option Nat) (oo:Bool):Option rO->Tree St
 | none=>.fail
 | some c=>match C with
  | []=>.bnd c.t fun a=>match dR s.m oo [] (c.r a) with | ⟨v,m,ks,inv⟩=>iU (lay s [] dst v m ks inv)
  | x::C=>match lN p s.ts (x::C) with
   | none=>.fail
   | some g=>.dH g c.t c.d fun a=>match dR s.m oo [] (c.r a) with
    | ⟨v,_,ks,_⟩=>match v with
     | .own _ _=>.fail
     | .bz _=>.fail
     | v=>iU (lay s (x::C) dst v s.m (kD p g ks) none)
def Jh (s:St) (C:bO) (dst:Option Nat) (c:xn):Tree St :=
 match C with
 | []=>.bnd c.t fun a=>match c.r a with | ⟨v,m,ks,inv⟩=>iU (lay s [] dst v m ks inv)
 | _::_=>.fail
def Ej (p:bg) (o:bW) (s:St) (C:bO) (dst:Option Nat) (f:AV) (args:List AV):Tree St :=
 match f with
 | .fn (.func id) first cap=>match o.me id (bK first (bK args cap)) s.m with
  | some c=>Jh s C dst c
  | none=>oU p s C dst (pQ (bK first (bK args cap))) (o.pu id (borrows s.m (bK first (bK args cap))))
 | .eU id first cap=>oU p s C dst (pQ args) (o.pu id (bK first (bK (borrows s.m args) cap)))
 | _=>.fail
def XN:Op->Bool
 | .makeInterface .. => true
 | .panic .. => true
 | _=>false
def Ql (p:bg) (T:aX) (o:bW) (all:List Oper) (s:St) (op:Oper):Tree St :=
 match op.op with
 | .call ⟨.value f,args,_⟩=>match chainOf all s.tg op.guard with
  | none=>.fail
  | some C=>match gq s.tg C op.op.operands.toList with
   | false=>.fail
   | true=>Ej p o s C op.dst (bE s.ts f) (dC s.ts args.toList)
 | _=>iU (eH p T CJ all s op)
abbrev Fam:Type:=List (List UInt8×(Int×(List UInt8×Int)))×List (List (List UInt8×Int))
def Qm (p:bg) (T:aX) (o:bW) (all:List Oper) (s:St) (op:Oper):Tree St :=
 Ql p T o all s op
def stepT (p:bg) (T:aX) (o:bW) (all:List Oper) (s:St) (op:Oper):Tree St :=
 match XN op.op with
 | true=>.fail
 | false=>Qm p T o all s op
def Em (p:bg) (T:aX) (o:bW) (all:List Oper):List Oper->St->Tree St
 | [],s=>.ret s
 | op::l,s=>(stepT p T o all s op).bind (Em p T o all l)
def AX (p:bg) (T:aX) (o:bW) (all:List Oper) (s:St) (op:Oper):Tree St :=
 match op.op with
 | .buildSlice t n ps=>match op.guard,gq s.tg [] op.op.operands.toList with
  | none,true=>match BH T s.m t n (kS s.ts ps.toList) with
   | ⟨v,m,ks,inv⟩=>iU (lay s [] op.dst v m ks inv)
  | _,_=>.fail
 | _=>stepT p T o all s op
def opsL (p:bg) (T:aX) (o:bW) (all:List Oper):List Oper->St->Tree St
 | [],s=>.ret s
 | op::l,s=>(AX p T o all s op).bind (opsL p T o all l)
def AY (p:bg) (s:St) (C:bO) (dst:Option Nat) (oo:Bool):Option rO->Tree St
 | none=>.fail
 | some c=>match C with
  | []=>.bnd c.t fun a=>match dR s.m oo [] (c.r a) with
   | ⟨v,_,ks,_⟩=>match v with
    | .own _ _=>.fail
    | .bz _=>.fail
    | v=>iU (lay s [] dst v s.m ks none)
  | x::C=>oU p s (x::C) dst oo (some c)
def Qn (p:bg) (o:bW) (s:St) (C:bO) (dst:Option Nat) (f:AV) (args:List AV):Tree St :=
 match f with
 | .fn (.func id) first cap=>match o.me id (bK first (bK args cap)) s.m with
  | some _=>.fail
  | none=>AY p s C dst (pQ (bK first (bK args cap))) (o.pu id (borrows s.m (bK first (bK args cap))))
 | .eU id first cap=>AY p s C dst (pQ args) (o.pu id (bK first (bK (borrows s.m args) cap)))
 | _=>.fail
def Qo (p:bg) (T:aX) (o:bW) (all:List Oper) (s:St) (op:Oper):Tree St :=
 match op.op with
 | .call ⟨.value f,args,_⟩=>match chainOf all s.tg op.guard with
  | none=>.fail
  | some C=>match gq s.tg C op.op.operands.toList,lN p s.ts C with
   | true,some _=>Qn p o s C op.dst (bE s.ts f) (dC s.ts args.toList)
   | _,_=>.fail
 | .pick .. => iU (eH p T CJ all s op)
 | o'=>match kU T o' with
  | true=>iU (eH p T CJ all s op)
  | false=>.fail
def AZ (p:bg) (T:aX) (o:bW) (all:List Oper) (s:St) (op:Oper):Tree St :=
 match XN op.op with
 | true=>.fail
 | false=>Qo p T o all s op
def A7 (p:bg) (T:aX) (o:bW) (all:List Oper):List Oper->St->Tree St
 | [],s=>.ret s
 | op::l,s=>(AZ p T o all s op).bind (A7 p T o all l)
def XO (p:bg) (T:aX) (ops:Array Oper) (L:Array Bool) (s:St) (i:Nat) (op:Oper):Bool :=
 match Gr T s.ts op,gq s.tg [] op.op.operands.toList with
 | true,true=>match (Region.ready .any ops L).contains i,Region.free .any ops L i with | true,true=>true | _,_=>false
 | _,_=>false
def A8 (p:bg) (T:aX) (o:bW) (ops:Array Oper):List Nat->Array Bool->Nat->St->Tree (Array Bool×Nat×St)
 | [],L,n,s=>.ret (L,n,s)
 | i::l,L,n,s=>match ops[i]? with
  | none=>A8 p T o ops l L n s
  | some op=>match XO p T ops L s i op with
   | true=>match n with
    | 0=>.fail
    | n+1=>(stepT p T o ops.toList s op).bind fun s'=>A8 p T o ops l (L.setIfInBounds i true) n s'
   | false=>A8 p T o ops l L n s
def quick (T:aX) (ops:Array Oper) (L:Array Bool) (s:St) (i:Nat) (op:Oper):Bool :=
 match Gs T s.ts op,gq s.tg [] op.op.operands.toList with
 | true,true=>match (Region.ready .any ops L).contains i,Region.free .any ops L i with | true,true=>true | _,_=>false
 | _,_=>false
def En (T:aX) (ops:Array Oper) (L:Array Bool) (s:St):List Nat->Option (Nat×Oper)
 | []=>none
 | i::l=>match ops[i]? with
  | none=>En T ops L s l
  | some op=>match quick T ops L s i op with
   | true=>some (i,op)
   | false=>En T ops L s l
theorem Qp {T:aX} {ops:Array Oper} {L:Array Bool} {s:St}:∀ {l:List Nat} {i:Nat} {op:Oper},En T ops L s l=some (i,op)->ops[i]? = some op/\quick T ops L s i op=true
 | [],_,_,h=>by cases h
 | j::l,i,op,h=>by
  simp only [En] at h
  split at h
  ·exact Qp h
  ·rename_i op' ho
   split at h
   ·rename_i hq; cases h; exact ⟨ho,hq⟩
   ·exact Qp h
def Qq (f:Nat->Tree St):List Nat->Tree St
 | []=>.fail
 | [i]=>f i
 | i::l=>.both (f i) (Qq f l)
def iE (d:Nat) (b:Bool):fM->fM
 | []=>[]
 | (t,[(e,c)])::l=>match Nat.beq e d,c,b with
  | true,true,true=>(t,[])::iE d b l
  | true,false,false=>(t,[])::iE d b l
  | _,_,_=>(t,[(e,c)])::iE d b l
 | x::l=>x::iE d b l
def Eo (d:Nat) (b:Bool) (s:St):St:=⟨s.ts,s.m,iE d b s.tg,s.ks⟩
def Qr (p:bg) (o:bW) (ops:Array Oper) (s:St) (op:Oper):Option (Bool×Nat×Bool) :=
 match op.op with
 | .call ⟨.value f,args,_⟩=>match op.guard with
  | some (j,b)=>match bE s.ts f with
   | .fn (.func id) first cap=>match o.me id (bK first (bK (dC s.ts args.toList) cap)) s.m with
    | some _=>match sO ops.toList j with
     | some ⟨some d,_,_,_,_,_⟩=>match bU s.tg d,mh p s.ts d b with
      | [],some g=>some (g,d,b)
      | _,_=>none
     | _=>none
    | none=>none
   | _=>none
  | none=>none
 | _=>none
def XP (p:bg) (T:aX) (o:bW) (ops:Array Oper) (k:Array Bool->St->Tree St) (L:Array Bool) (s:St) (i:Nat):Tree St :=
 match ops[i]? with
 | some op=>match Qr p o ops s op with
  | some (g,d,b)=>.ite g ((stepT p T o ops.toList (Eo d b s) { op with guard:=none }).bind fun s'=>k (L.setIfInBounds i true) s') ((iU (lay s [(d,b)] op.dst (.bool true) s.m [] none)).bind fun s'=>k (L.setIfInBounds i true) s')
  | none=>(stepT p T o ops.toList s op).bind fun s'=>k (L.setIfInBounds i true) s'
 | none=>.fail
def rQ (p:bg) (T:aX) (o:bW) (ops:Array Oper):Nat->Array Bool->St->Tree St
 | 0,L,s=>match Region.ready .any ops L with | []=>.ret s | _=>.fail
 | n+1,L,s=>match Region.ready .any ops L with
  | []=>.ret s
  | l=>match En T ops L s l with
   | some (i,op)=>(stepT p T o ops.toList s op).bind fun s'=>rQ p T o ops n (L.setIfInBounds i true) s'
   | none=>Qq (XP p T o ops (rQ p T o ops n) L s) l
def ah1 (ops:Array Oper):Bool:=ops.toList.all fun o=>match o.op with
 | .call ⟨.value _,_,_⟩=>true
 | .pick .. => true
 | op=>kU [] op
def Ji (p:bg) (T:aX) (o:bW) (ops:Array Oper) (A:AS):Tree St :=
 match Region.noSelect ops with
 | true=>(A8 p T o ops (List.range ops.size) (Array.replicate ops.size false) ops.size ⟨A.ts,A.m,[],[]⟩).bind fun r=>rQ p T o ops r.2.1 r.1 r.2.2
 | false=>.fail
def mJ:Code->Nat
 | .region id _ _=>id
 | .seq a _=>mJ a
 | .block _ c=>mJ c
 | .loop c=>mJ c
 | .rangeFunc _ _ a _=>mJ a
 | .scope c=>mJ c
 | _=>0
theorem rR (s:St):(iU s).pl:=Jg trivial
theorem Qt (p:bg) (s:St) (C:bO) (dst:Option Nat) (oo:Bool) (c:Option rO):(oU p s C dst oo c).pl:=by
 cases c with
 | none=>trivial
 | some c =>
  cases C with
  | nil=>exact fun a=>rR _
  | cons x C =>
   simp only [oU]
   split
   ·trivial
   ·intro a
    simp only
    split <;> first | trivial | exact rR _
theorem ah2 (s:St) (C:bO) (dst:Option Nat) (c:xn):(Jh s C dst c).pl:=by
 cases C with
 | nil=>exact fun a=>rR _
 | cons=>trivial
theorem ah3 (p:bg) (o:bW) (s:St) (C:bO) (dst:Option Nat) (f:AV) (args:List AV):(Ej p o s C dst f args).pl:=by
 unfold Ej
 split
 ·split
  ·exact ah2 _ _ _ _
  ·exact Qt _ _ _ _ _ _
 ·exact Qt _ _ _ _ _ _
 ·trivial
theorem xq (p:bg) (T:aX) (o:bW) (all:List Oper) (s:St) (op:Oper):(stepT p T o all s op).pl:=by
 unfold stepT
 split
 ·trivial
 ·unfold Qm
  unfold Ql
  split
  ·split
   ·trivial
   ·split
    ·trivial
    ·exact ah3 _ _ _ _ _ _ _
  ·exact rR _
theorem ah4 (p:bg) (T:aX) (o:bW) (all l:List Oper) (s:St):(Em p T o all l s).pl:=by
 induction l generalizing s with
 | nil=>trivial
 | cons op l ih=>exact Tree.Qj (xq _ _ _ _ _ _) fun s'=>ih s'
theorem XQ (p:bg) (T:aX) (o:bW) (all:List Oper) (s:St) (op:Oper):(AX p T o all s op).pl:=by
 unfold AX
 split
 ·split
  ·exact rR _
  ·trivial
 ·exact xq _ _ _ _ _ _
theorem ah5 (p:bg) (T:aX) (o:bW) (all l:List Oper) (s:St):(opsL p T o all l s).pl:=by
 induction l generalizing s with
 | nil=>trivial
 | cons op l ih=>exact Tree.Qj (XQ _ _ _ _ _ _) fun s=>ih s
theorem XR (p:bg) (s:St) (C:bO) (dst:Option Nat) (oo:Bool) (c:Option rO):(AY p s C dst oo c).pl:=by
 cases c with
 | none=>trivial
 | some c =>
  cases C with
  | nil =>
   intro a
   simp only
   split <;> first | trivial | exact rR _
  | cons x C=>exact Qt p s (x::C) dst oo (some c)
theorem XT (p:bg) (T:aX) (o:bW) (all:List Oper) (s:St) (op:Oper):(AZ p T o all s op).pl:=by
 unfold AZ
 split
 ·trivial
 ·unfold Qo
  split
  ·split
   ·trivial
   ·split
    ·unfold Qn
     split
     ·split
      ·trivial
      ·exact XR _ _ _ _ _ _
     ·exact XR _ _ _ _ _ _
     ·trivial
    ·trivial
  ·exact rR _
  ·split
   ·exact rR _
   ·trivial
theorem XU (p:bg) (T:aX) (o:bW) (all l:List Oper) (s:St):(A7 p T o all l s).pl:=by
 induction l generalizing s with
 | nil=>trivial
 | cons op l ih=>exact Tree.Qj (XT _ _ _ _ _ _) fun s'=>ih s'
def ah6 (o:Oper):Bool:=match o.op with
 | .call ⟨.value _,_,_⟩=>true
 | .pick .. => true
 | op=>kU [] op
def XV:List Oper->Nat->Nat
 | [],n=>n
 | o::l,n=>match ah6 o with | true=>XV l (n+1) | false=>n
def Jj (n n0:Nat):Array Bool:=((List.range n).map fun i=>Nat.blt i n0).toArray
def XW (ops:Array Oper):Bool:=(List.range ops.size).all fun i=>match ops[i]? with
 | none=>true
 | some o=>(fJ o).all fun j=>Nat.blt j i
def XX (ops:Array Oper) (n0:Nat):Bool:=Region.noSelect ops&&XW ops&&yX ops n0&&Cw (ops.toList.take n0).toArray
def Jk (p:bg) (T:aX) (o:bW) (ops:Array Oper) (n0:Nat) (A:AS):Tree St :=
 match XX ops n0 with
 | true=>(A7 p T o (ops.toList.take n0) (ops.toList.take n0) ⟨A.ts,A.m,[],[]⟩).bind fun s=>rQ p T o ops (ops.size-n0) (Jj ops.size n0) s
 | false=>.fail
def ah7 (p:bg) (T:aX) (o:bW) (ops:Array Oper) (A:AS):Tree St:=Jk p T o ops (XV ops.toList 0) A
def XY:List Pre->Bool
 | []=>false
 | .two::_=>true
 | .zf _::_=>true
 | _::l=>XY l
def XZ:List Pre->Nat->Nat
 | [],n=>n
 | .zf k::_,_=>k
 | _::l,n=>XZ l n
def xu (np:Nat) (s:St):Tree (Exit×AS):=.ret (.normal,⟨iK s.ts s.tg,s.m,np⟩)
def Qu (p:bg) (T:aX) (o:bW) (ops:Array Oper) (d two:Bool) (k:Nat) (A:AS):Tree (Exit×AS) :=
 match d with
 | false=>match two with
  | true=>(opsL p T o ops.toList ops.toList ⟨A.ts,A.m,[],[]⟩).bind (xu A.np)
  | false=>(Em p T o ops.toList ops.toList ⟨A.ts,A.m,[],[]⟩).bind (xu A.np)
 | true=>match ah1 ops with
  | true=>match two with
   | true=>match Nat.ble 1000 k with
    | true=>(Ji p T o ops A).bind (xu A.np)
    | false=>(Jk p T o ops k A).bind (xu A.np)
   | false=>match Cw ops with
    | true=>(A7 p T o ops.toList ops.toList ⟨A.ts,A.m,[],[]⟩).bind (xu A.np)
    | false=>.fail
  | false=>match two with
   | true=>(ah7 p T o ops A).bind (xu A.np)
   | false=>(Ji p T o ops A).bind (xu A.np)
def Jl (i:Nat) (k:IntKind) (x:Int) (f:AS->Tree (Exit×AS)) (A:AS):Nat->Nat->Tree (Exit×AS)
 | 0,_=>.fail
 | n+1,j=>.ite (ae.eq x (j:Int)) (f ⟨put A.ts i (.int k (j:Int)),A.m,A.np⟩) (Jl i k x f A n (j+1))
def A9 (f:AS->Tree (Exit×AS)):List Pre->AS->Tree (Exit×AS)
 | [],A=>f A
 | .GD i n::l,A=>match nth A.ts i with
  | .int k x=>Jl i k x (A9 f l) A n 0
  | _=>.fail
 | p::l,A=>A9 f l (rA p A)
def Qv:Code->Bool
 | .rangeFunc _ _ _ _=>true
 | _=>false
def Ep (c:Code):Code:=match Qv c with | true=>c | false=>.loop c
def Jm:List Code->List Code->List Code
 | [],l=>l
 | a::k,l=>a::Jm k l
def aK:Code->List Code
 | .seq a b=>Jm (aK a) (aK b)
 | .cond _ a b=>Jm (aK a) (aK b)
 | .block _ c=>aK c
 | .loop c=>[c]
 | .rangeFunc f ps a b=>[.rangeFunc f ps a b]
 | .scope c=>aK c
 | _=>[]
def X0:List Pre->Option Nat
 | []=>none
 | .GG n::_=>some n
 | _::l=>X0 l
def Er (f:AS->Tree (Exit×AS)):Nat->AS->Tree (Exit×AS)
 | 0,_=>.fail
 | n+1,A=>(f A).bind fun r=>match r with
  | (.normal,A')=>Er f n A'
  | (e,A')=>.ret (e,A')
def jC (p:bg) (T:aX) (o:bW):Code->AS->Tree (Exit×AS)
 | .skip,A=>.ret (.normal,A)
 | .exit id,A=>.ret (.exit id,A)
 | .ret,A=>.ret (.ret,A)
 | .region id ops d,A=>A9 (Qu p T o ops d (XY (o.fz id)) (XZ (o.fz id) (ops.size-1))) (o.fz id) A
 | .seq x y,A=>(jC p T o x A).bind fun r=>match r with
  | (.normal,A')=>jC p T o y A'
  | (e,A')=>.ret (e,A')
 | .cond c x y,A=>match bE A.ts c with
  | .bool b=>.ite b (jC p T o x A) (jC p T o y A)
  | .eG n=>.ite (Nat.beq n 0) (.both (jC p T o x A) (jC p T o y A)) (jC p T o y A)
  | _=>.fail
 | .block id c,A=>(jC p T o c A).bind fun r=>match r with
  | (.exit i,A')=>match Nat.beq i id with | true=>.ret (.normal,A') | false=>.ret (.exit i,A')
  | (e,A')=>.ret (e,A')
 | .loop c,A=>match Qv c with
  | true=>.fail
  | false=>match X0 (o.fz (mJ c)) with
   | some n=>match aK c with
    | []=>Er (jC p T o c) n A
    | _=>.fail
   | none=>match o.lp (mJ c) A with
    | some t=>t
    | none=>.fail
 | .rangeFunc _ _ a _,A=>match o.lp (mJ a) A with
  | some t=>t
  | none=>.fail
 | .scope c,A=>(jC p T o c A).bind fun r=>match r with
  | (.goto _,_)=>.fail
  | (e,A')=>.ret (e,A')
 | .label _,A=>.ret (.normal,A)
 | _,_=>.fail
end
end Go.aT
