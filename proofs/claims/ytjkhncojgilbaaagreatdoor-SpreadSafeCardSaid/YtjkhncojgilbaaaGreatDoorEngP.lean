/- A region that may go in any order comes to what it comes to in the order of its text, if its operations leave memory alone. A region that may go in any order: the proof that each order comes to the same. The rule for a region that may go in any order. -/
import Derived.Test.YtjkhncojgilbaaaGreatDoorEngM
import Derived.Orders
namespace Go.aT
open Go Go.RowKit
variable {P:Program} {T:aX} {base:Env} {w:World} {S:Nat->Prop} {m:aY} {M:Mem}
def qi (T:aX) (op:Op) (q:Bool) (v:AV):Bool :=
 match kU T op with
 | true=>true
 | false=>match op with
  | .call ⟨.value _,_,_⟩=>match q,v with | false,_=>false | true,.own _ _=>false | true,.bz _=>false | true,_=>true
  | _=>false
def qj (p:bg) (T:aX) (call:dD) (s:St) (C:bO) (op:Op):Option (bO×AV×List Bool) :=
 match gq s.tg C op.operands.toList,lN p s.ts C with
 | true,some g=>match dw p T call s.ts s.m op with
  | r=>match qi T op (iJ p call s.ts s.m op) r.v with
   | true=>some (C,r.v,match C with | []=>r.ks | _::_=>kD p g r.ks)
   | false=>none
 | _,_=>none
def tN (p:bg) (T:aX) (call:dD) (s:St) (C:bO):Op->Option (bO×AV×List Bool)
 | .pick c a b=>match nZ s.tg C c a b,pW p s.ts c a b with
  | true,some v=>some (C,v,[])
  | _,_=>none
 | op=>qj p T call s C op
def jV (p:bg) (T:aX) (call:dD) (ops:List Oper) (s:St) (o:Oper):Option (bO×AV×List Bool) :=
 match chainOf ops s.tg o.guard with
 | none=>none
 | some C=>tN p T call s C o.op
def ll (s:St) (dst:Option Nat):Option (bO×AV×List Bool)->St
 | none=>kE s
 | some (C,v,ks)=>lay s C dst v s.m ks none
def nD (p:bg) (T:aX) (call:dD) (ops:List Oper) (s:St) (o:Oper):St:=ll s o.dst (jV p T call ops s o)
def nE (p:bg) (T:aX) (call:dD) (all:List Oper):List Oper->St->St
 | [],s=>s
 | o::l,s=>nE p T call all l (nD p T call all s o)
theorem Ub (p:bg) (call:dD) (s:St) (op:Op) (h:qi T op (iJ p call s.ts s.m op) (dw p T call s.ts s.m op).v=true):(dw p T call s.ts s.m op).m=s.m/\(dw p T call s.ts s.m op).inv=none:=by
 unfold qi at h
 split at h
 ·rename_i hq; exact TE p call _ _ _ hq
 ·split at h
  ·rename_i f args ats
   split at h
   ·simp at h
   ·simp at h
   ·simp at h
   ·rename_i hq hv hv'
    exact TG p call s.m _ _ (TC hq) (fun b n e=>hv b n e) fun b e=>hv' b e
  ·simp at h
theorem Cu {p:bg} {call:dD} {ops:List Oper} {s:St} {o:Oper} {e:bO×AV×List Bool} (h:jV p T call ops s o=some e):eH p T call ops s o=ll s o.dst (some e):=by
 unfold jV at h
 unfold eH
 split at h
 ·simp at h
 rename_i C hC
 simp only [hC]
 unfold tN at h
 unfold BR
 split at h
 ·rename_i c a b hop
  rw [hop]
  show qW p s C o.dst c a b=_
  unfold qW
  split at h
  ·rename_i v h1 h2
   injection h with h; subst h
   simp only [h1,h2]; rfl
  ·simp at h
 ·rename_i op hnp
  have hh:pX p T call s C o.dst o.op=ll s o.dst (some e):=by
   unfold qj at h
   unfold pX
   split at h
   case h_2=>simp at h
   rename_i g hu hg
   simp only [hu]
   simp only at h
   split at h
   case h_2=>simp at h
   rename_i hq
   injection h with h
   obtain ⟨e1,e2⟩:=Ub (T:=T) p call s _ hq
   cases C with
   | nil =>
    subst h
    show vM p T call s o.dst o.op=_
    have e0:vM p T call s o.dst o.op=lay s [] o.dst (dw p T call s.ts s.m o.op).v (dw p T call s.ts s.m o.op).m (dw p T call s.ts s.m o.op).ks (dw p T call s.ts s.m o.op).inv:=rfl
    rw [e0,e1,e2]; rfl
   | cons x C =>
    subst h
    show qV p T call s (x::C) o.dst o.op=_
    unfold qV
    simp only [hg]
    split
    ·rfl
    ·rename_i hqq
     unfold qi at hq
     simp only [hqq] at hq
     split at hq
     ·rename_i f args ats heq
      rw [heq] at hq ⊢
      simp only at hq ⊢
      generalize (dw p T call s.ts s.m (Op.call ⟨.value f,args,ats⟩)).v=v at *
      generalize iJ p call s.ts s.m (Op.call ⟨.value f,args,ats⟩)=q at *
      cases q <;> cases v <;> first | rfl | (simp at hq; done) | cases hq
     ·simp at hq
  revert hh
  generalize o.op=op at hnp
  cases op <;> first | exact fun hh=>hh | exact absurd rfl (hnp _ _ _)
theorem Gn {ts ts':List AV}:∀ {l:List Operand},(∀ x∈l,bE ts x=bE ts' x)->dC ts l=dC ts' l:=by
 intro l
 induction l with
 | nil=>intro _; rfl
 | cons x l ih=>intro h; simp only [dC]; rw [h x (by simp),ih fun y hy=>h y (by simp [hy])]
theorem Uc {ts ts':List AV}:∀ {l:List (Nat×Operand)},(∀ x∈l.map (·.2),bE ts x=bE ts' x)->kS ts l=kS ts' l:=by
 intro l
 induction l with
 | nil=>intro _; rfl
 | cons x l ih=>intro h; obtain ⟨i,x⟩:=x; simp only [kS]; rw [h x (by simp),ih fun y hy=>h y (by simp only [List.map_cons]; exact List.mem_cons_of_mem _ hy)]
theorem acV {p:bg} {call:dD} {ts ts':List AV} (o:Op) (h:∀ x∈o.operands.toList,bE ts x=bE ts' x):dw p T call ts M o=dw p T call ts' M o:=by
 cases o <;> simp only [Op.operands] at h <;> simp only [dw]
 case build t ps=>rw [Uc fun x hx=>h x (by simpa using hx)]
 case buildSlice t n ps=>rw [Uc fun x hx=>h x (by simpa using hx)]
 case makeFunc f a c=>rw [Gn (l:=a.toList) fun x hx=>h x (by simp at hx; simp [hx]),Gn (l:=c.toList) fun x hx=>h x (by simp at hx; simp [hx])]
 case call c =>
  obtain ⟨callee,args,ats⟩:=c
  have ha:dC ts args.toList=dC ts' args.toList:=Gn fun x hx=>h x (by simp at hx; simp [Call.operands,hx])
  cases callee with
  | value f=>simp only; rw [ha,h f (by simp [Call.operands])]
  | invoke r m=>rfl
  | builtin b=>simp only; rw [ha]
 case slice t x lo hi mx =>
  cases mx with
  | some mx =>
   cases lo with
   | some lo=>rfl
   | none=>cases hi with
    | none=>rfl
    | some hi =>
     have h1:=h x (by simp)
     have h2:=h hi (by simp)
     have h3:=h mx (by simp)
     simp only
     rw [h1,h2,h3]
  | none =>
   simp only
   have h1:=h x (by simp)
   have h2:pV ts lo=pV ts' lo:=by cases lo with | none=>rfl | some lo=>simp only [pV]; rw [h lo (by simp)]
   have h3:pV ts hi=pV ts' hi:=by cases hi with | none=>rfl | some hi=>simp only [pV]; rw [h hi (by simp)]
   rw [h1,h2,h3]
 all_goals (first | rfl | (simp_all; done) | (rename_i t r _; cases r <;> rfl) | (rename_i r _; cases r <;> rfl) | (rename_i r; cases r <;> rfl))
theorem acW {p:bg} {call:dD} {ts ts':List AV} (o:Op) (h:∀ x∈o.operands.toList,bE ts x=bE ts' x):iJ p call ts M o=iJ p call ts' M o:=by
 cases o with
 | call c =>
  obtain ⟨callee,args,ats⟩:=c
  have ha:dC ts args.toList=dC ts' args.toList:=Gn fun x hx=>h x (by simp at hx; simp [Op.operands,Call.operands,hx])
  cases callee with
  | value f=>simp only [iJ]; rw [ha,h f (by simp [Op.operands,Call.operands])]
  | invoke r m=>rfl
  | builtin b=>rfl
 | _=>rfl
theorem Lh {tg tg':fM} {C:bO}:∀ {l:List Operand},(∀ t,Operand.tmp t∈l->bU tg t=bU tg' t)->gq tg C l=gq tg' C l:=by
 intro l
 induction l with
 | nil=>intro _; rfl
 | cons x l ih =>
  intro h
  have:=ih fun t ht=>h t (by simp [ht])
  cases x with
  | tmp t=>simp only [gq]; rw [h t (by simp),this]
  | _=>simpa only [gq] using this
theorem acX {p:bg} {ts ts':List AV} {s:Nat} {b:Bool} (h:nth ts s=nth ts' s):mh p ts s b=mh p ts' s b:=by unfold mh; rw [h]
theorem acY {p:bg} {ts ts':List AV}:∀ {C:bO},(∀ s b,(s,b)∈C->nth ts s=nth ts' s)->lN p ts C=lN p ts' C:=by
 intro C
 induction C with
 | nil=>intro _; rfl
 | cons x C ih =>
  obtain ⟨s,b⟩:=x
  intro h
  have h1:=acX (p:=p) (b:=b) (h s b (by simp))
  have h2:=ih fun s b hm=>h s b (by simp [hm])
  cases C with
  | nil=>exact h1
  | cons y C=>simp only [lN] at h2 ⊢; rw [h1,h2]
theorem acZ {ts ts':List AV} {x:Operand} (h:∀ t,x = .tmp t->nth ts t=nth ts' t):bE ts x=bE ts' x:=by
 cases x with
 | tmp t=>exact h t rfl
 | const v=>cases v <;> rfl
 | _=>rfl
structure Agree (ops:List Oper) (s h:St) (o:Oper):Prop where
 m:s.m=h.m
 val:∀ t,Operand.tmp t∈o.op.operands.toList->nth s.ts t=nth h.ts t/\bU s.tg t=bU h.tg t
 guard:∀ C,chainOf ops s.tg o.guard=some C->chainOf ops h.tg o.guard=some C/\∀ t b,(t,b)∈C->nth s.ts t=nth h.ts t
theorem Ud {p:bg} {call:dD} {ops:List Oper} {s h:St} {o:Oper} (ha:Agree ops s h o) {e:bO×AV×List Bool} (hs:jV p T call ops s o=some e):jV p T call ops h o=some e:=by
 unfold jV at hs ⊢
 split at hs
 ·simp at hs
 rename_i C hC
 obtain ⟨hC',hv⟩:=ha.guard C hC
 simp only [hC']
 have hop:∀ x∈o.op.operands.toList,bE s.ts x=bE h.ts x:=fun x hx=>acZ fun t ht=>(ha.val t (ht▸hx)).1
 rw [<- hs]
 have gen:qj p T call h C o.op=qj p T call s C o.op:=by
  unfold qj
  rw [Lh fun t ht=>((ha.val t ht).2).symm,acY fun t b hm=>(hv t b hm).symm,<- ha.m,acV (p:=p) o.op fun x hx=>(hop x hx).symm,acW (p:=p) o.op fun x hx=>(hop x hx).symm]
 unfold tN
 have hv':=ha.val
 generalize o.op=op at *
 cases op with
 | pick c a b =>
  simp only [Op.operands] at hv' hop
  simp only
  have hc:=hop c (by simp)
  have h1:=hop a (by simp)
  have h2:=hop b (by simp)
  have e1:nZ h.tg C c a b=nZ s.tg C c a b:=by
   cases c with
   | tmp t =>
    simp only [nZ]
    rw [(hv' t (by simp)).2,Lh (l:=[a]) fun t ht=>((hv' t (by simp at ht; simp [ht])).2).symm,Lh (l:=[b]) fun t ht=>((hv' t (by simp at ht; simp [ht])).2).symm]
   | _=>rfl
  have e2:pW p h.ts c a b=pW p s.ts c a b:=by
   unfold pW
   rw [hc]
   split
   ·split
    ·rename_i a' _ _ _ _; rw [h1]
    ·rw [h2]
    ·rfl
   ·rfl
  rw [e1,e2]
 | _=>exact gen
end Go.aT
namespace Go.aT
open Go Go.RowKit
variable {P:Program} {T:aX} {base:Env} {w:World} {S:Nat->Prop} {m:aY} {M:Mem}
def fJ (o:Oper):List Nat:=(o.after.toList.filter fun e=>Region.binds .any e).map (·.on)
def Cv (ops:Array Oper) (i:Nat) (o:Oper):Bool :=
 (fJ o).all (fun j=>Nat.blt j i) &&
 (match o.guard with | some (g,_)=>(fJ o).contains g | none=>true) &&
 (List.range ops.size).all fun j=>match ops[j]? with
  | none=>true
  | some o'=>match o'.dst with
   | none=>true
   | some d=>(j==i||o.dst != some d)&&(!(o.looksAt ops).contains d||(fJ o).contains j||(fJ o').contains i)
def Cw (ops:Array Oper):Bool :=
 (List.range ops.size).all fun i=>match ops[i]? with
  | none=>true
  | some o=>Cv ops i o
structure ql (ops:Array Oper):Prop where
 back:∀ (i:Nat) (o:Oper),ops[i]? = some o->∀ j∈fJ o,j<i
 guard:∀ (i:Nat) (o:Oper) (g:Nat) (b:Bool),ops[i]? = some o->o.guard=some (g,b)->g∈fJ o
 one:∀ (i j:Nat) (o o':Oper) (d:Nat),ops[i]? = some o->ops[j]? = some o'->o'.dst=some d->j≠i->o.dst≠some d
 look:∀ (i j:Nat) (o o':Oper) (d:Nat),ops[i]? = some o->ops[j]? = some o'->o'.dst=some d->d∈o.looksAt ops->j∈fJ o\/i∈fJ o'
theorem ql.of {ops:Array Oper} (h:Cw ops=true):ql ops:=by
 have h1:∀ (i:Nat) (o:Oper),ops[i]? = some o->Cv ops i o=true:=fun i o hi=>by
  unfold Cw at h
  rw [List.all_eq_true] at h
  have:=h i (by rw [List.mem_range]; exact (Array.getElem?_eq_some_iff.1 hi).1)
  simpa only [hi] using this
 have h2:∀ (i j:Nat) (o o':Oper) (d:Nat),ops[i]? = some o->ops[j]? = some o'->o'.dst=some d->((j==i||o.dst != some d)&&(!(o.looksAt ops).contains d||(fJ o).contains j||(fJ o').contains i))=true:=fun i j o o' d hi hj hd=>by
  have:=h1 i o hi
  unfold Cv at this
  rw [Bool.and_eq_true,Bool.and_eq_true,List.all_eq_true (l:=List.range ops.size)] at this
  have:=this.2 j (by rw [List.mem_range]; exact (Array.getElem?_eq_some_iff.1 hj).1)
  simpa only [hj,hd] using this
 refine ⟨fun i o hi j hj=>?_,fun i o g b hi hg=>?_,fun i j o o' d hi hj hd hne he=>?_,fun i j o o' d hi hj hd hl=>?_⟩
 ·have:=h1 i o hi
  unfold Cv at this
  rw [Bool.and_eq_true,Bool.and_eq_true,List.all_eq_true] at this
  have:=this.1.1 j hj
  exact Nat.blt_eq▸this
 ·have:=h1 i o hi
  unfold Cv at this
  rw [Bool.and_eq_true,Bool.and_eq_true] at this
  have:=this.1.2
  rw [hg] at this
  simpa using this
 ·have:=h2 i j o o' d hi hj hd
  simp [hne,he] at this
 ·have:=h2 i j o o' d hi hj hd
  rw [Bool.and_eq_true] at this
  have:=this.2
  simp [hl] at this
  exact this
def Wr (ops:Array Oper) (L:Nat->Prop) (t:Nat):Prop:=∃ j o,L j/\ops[j]? = some o/\o.dst=some t
structure mE (ops:Array Oper) (s0 sn:St) (L:Nat->Prop) (h:St):Prop where
 m:h.m=s0.m
 len:au h.ts=au s0.ts
 wr:∀ t,Wr ops L t->nth h.ts t=nth sn.ts t/\bU h.tg t=bU sn.tg t
 un:∀ t,¬ Wr ops L t->nth h.ts t=nth s0.ts t/\bU h.tg t=[]
 tg:∀ t C,(t,C)∈h.tg->∀ s b,(s,b)∈C->Wr ops L s
 ks:aG h.ks
theorem Cx {tg:fM} {t s:Nat} {b:Bool} (h:(s,b)∈bU tg t):∃ C,(t,C)∈tg/\(s,b)∈C:=by
 induction tg with
 | nil=>simp [bU] at h
 | cons x tg ih =>
  obtain ⟨u,C⟩:=x
  simp only [bU] at h
  split at h
  ·rename_i e
   have e:=Nat.eq_of_beq_eq_true e
   subst e
   exact ⟨C,by simp,h⟩
  ·obtain ⟨C',h1,h2⟩:=ih h
   exact ⟨C',List.mem_cons_of_mem _ h1,h2⟩
theorem ac0 {tg:fM} {d t:Nat} {C C':bO} (h:(t,C')∈setTag tg d C):(t=d/\C'=C)\/(t,C')∈tg:=by
 unfold setTag at h
 split at h
 ·exact .inr h
 ·rcases List.mem_cons.1 h with h | h
  ·injection h with h1 h2; exact .inl ⟨h1,h2⟩
  ·exact .inr h
theorem Ue {d:Nat} {C:bO} (h:∀ s b,(s,b)∈C->d≠s):mentions d C=false:=by
 induction C with
 | nil=>rfl
 | cons x C ih =>
  obtain ⟨s,b⟩:=x
  simp only [mentions]
  rw [jT (h s b (by simp))]
  exact ih fun s b hm=>h s b (List.mem_cons_of_mem _ hm)
theorem ac1 {d:Nat} {tg:fM} (h:∀ t C,(t,C)∈tg->∀ s b,(s,b)∈C->d≠s):mentioned d tg=false:=by
 induction tg with
 | nil=>rfl
 | cons x tg ih =>
  obtain ⟨t,C⟩:=x
  simp only [mentioned]
  rw [Ue fun s b hm=>h t C (by simp) s b hm]
  exact ih fun t C hm=>h t C (List.mem_cons_of_mem _ hm)
theorem mE.step {ops:Array Oper} (hd:ql ops) {s0 sn h:St} {L:Nat->Prop} (hh:mE ops s0 sn L h) {i:Nat} {o:Oper} (hi:ops[i]? = some o) (hL:¬ L i) {C:bO} {v:AV} {ks:List Bool} (hk:aG ks)
  (hC:∀ s b,(s,b)∈C->Wr ops L s) (hsn:∀ d,o.dst=some d->nth sn.ts d=nth (put s0.ts d v) d/\bU sn.tg d=C) :
  mE ops s0 sn (fun j=>L j\/j=i) (ll h o.dst (some (C,v,ks))):=by
 have fresh:∀ d,o.dst=some d->¬ Wr ops L d:=fun d hdst ⟨j,o',hj,ho',hd'⟩=>hd.one i j o o' d hi ho' hd' (fun e=>hL (e▸hj)) hdst
 have wmono:∀ t,Wr ops L t->Wr ops (fun j=>L j\/j=i) t:=fun t ⟨j,o',hj,h'⟩=>⟨j,o',.inl hj,h'⟩
 have wcase:∀ t,Wr ops (fun j=>L j\/j=i) t->Wr ops L t\/o.dst=some t:=fun t ⟨j,o',hj,ho',hd'⟩=>by
  rcases hj with hj | rfl
  ·exact .inl ⟨j,o',hj,ho',hd'⟩
  ·rw [hi] at ho'; injection ho' with ho'; subst ho'; exact .inr hd'
 cases hdst:o.dst with
 | none =>
  have e:ll h none (some (C,v,ks))=⟨h.ts,h.m,h.tg,jQ h.ks ks⟩:=rfl
  rw [e]
  refine ⟨hh.m,hh.len,fun t ht=>?_,fun t ht=>hh.un t fun hw=>ht (wmono t hw),fun t C hm s b hs=>wmono _ (hh.tg t C hm s b hs),?_⟩
  ·rcases wcase t ht with ht | ht
   ·exact hh.wr t ht
   ·rw [hdst] at ht; simp at ht
  ·rw [aG.cat]; exact ⟨hh.ks,hk⟩
 | some d =>
  have hfr:=fresh d hdst
  have e:ll h (some d) (some (C,v,ks))=⟨put h.ts d v,h.m,setTag h.tg d C,jQ h.ks ks⟩:=by
   show lay h C (some d) v h.m ks none=_
   have q1:mentioned d h.tg=false:=ac1 fun t C hm s b hs (e:d=s)=>hfr (e▸hh.tg t C hm s b hs)
   have q2:mentions d C=false:=Ue fun s b hs (e:d=s)=>hfr (e▸hC s b hs)
   unfold lay
   simp only [q1,q2]
  rw [e]
  obtain ⟨k1,k2⟩:=hsn d hdst
  refine ⟨hh.m,by rw [lQ]; exact hh.len,fun t ht=>?_,fun t ht=>?_,fun t C' hm s b hs=>?_,?_⟩
  ·simp only
   rw [vX,jS]
   by_cases et:d=t
   ·subst et
    rw [if_pos rfl,k2,k1,jS,hh.len]
    refine ⟨?_,rfl⟩
    by_cases hlt:d<au s0.ts
    ·rw [if_pos ⟨rfl,hlt⟩,if_pos ⟨rfl,hlt⟩]
    ·rw [if_neg (fun x=>hlt x.2),if_neg (fun x=>hlt x.2)]; exact (hh.un d hfr).1
   ·rw [if_neg et,if_neg (fun x=>et x.1)]
    rcases wcase t ht with ht | ht
    ·exact hh.wr t ht
    ·rw [hdst] at ht; injection ht with ht; exact absurd ht et
  ·simp only
   have et:d≠t:=fun et=>ht ⟨i,o,.inr rfl,hi,et▸hdst⟩
   rw [vX,jS,if_neg et,if_neg (fun x=>et x.1)]
   exact hh.un t fun hw=>ht (wmono t hw)
  ·rcases ac0 hm with ⟨_,rfl⟩ | hm
   ·exact wmono _ (hC s b hs)
   ·exact wmono _ (hh.tg t C' hm s b hs)
  ·simp only
   rw [aG.cat]; exact ⟨hh.ks,hk⟩
theorem Cy {s:St} {d:Option Nat} {e:Option (bO×AV×List Bool)} (h:aG (ll s d e).ks):∃ C v ks,e=some (C,v,ks)/\aG s.ks/\aG ks:=by
 cases e with
 | none=>exact (iY h).elim
 | some e=>obtain ⟨C,v,ks⟩:=e; exact ⟨C,v,ks,rfl,mo h⟩
def Cz (ts:List AV) (d:Option Nat) (v:AV) (t:Nat):AV:=match d with | some d=>nth (put ts d v) t | none=>nth ts t
def CB (tg:fM) (d:Option Nat) (C:bO) (t:Nat):bO:=match d with | some d=>(if d=t then C else bU tg t) | none=>bU tg t
theorem Gp {s:St} {d:Option Nat} {C:bO} {v:AV} {ks:List Bool} (h:aG (ll s d (some (C,v,ks))).ks) :
  (∀ t,nth (ll s d (some (C,v,ks))).ts t=Cz s.ts d v t)/\(∀ t,bU (ll s d (some (C,v,ks))).tg t=CB s.tg d C t) /\
   au (ll s d (some (C,v,ks))).ts=au s.ts/\(ll s d (some (C,v,ks))).m=s.m:=by
 cases d with
 | none=>exact ⟨fun _=>rfl,fun _=>rfl,rfl,rfl⟩
 | some d =>
  simp only [ll] at h ⊢
  unfold lay at h ⊢
  simp only at h ⊢
  split at h
  case h_2=>exact (iY h).elim
  exact ⟨fun _=>rfl,fun t=>vX _ _ _ _,lQ _ _ _,rfl⟩
def eP (p:bg) (T:aX) (call:dD) (ops:Array Oper) (s0:St) (k:Nat):St:=nE p T call ops.toList (ops.toList.take k) s0
theorem ac2 {p:bg} {call:dD} {all:List Oper}:∀ (l k:List Oper) (s:St),nE p T call all (l++k) s=nE p T call all k (nE p T call all l s):=by
 intro l
 induction l with
 | nil=>intro k s; rfl
 | cons o l ih=>intro k s; exact ih k _
theorem CE {p:bg} {call:dD} {ops:Array Oper} {s0:St} {k:Nat} {o:Oper} (h:ops[k]? = some o):eP p T call ops s0 (k+1)=nD p T call ops.toList (eP p T call ops s0 k) o:=by
 unfold eP
 have:ops.toList[k]? = some o:=by rw [Array.getElem?_toList]; exact h
 rw [List.take_add_one,this,ac2]
 rfl
section
variable {p:bg} {call:dD} {ops:Array Oper} {s0:St}
theorem ac3 (hk:aG (eP p T call ops s0 ops.size).ks):∀ d k,k+d=ops.size->aG (eP p T call ops s0 k).ks:=by
 intro d
 induction d with
 | zero=>intro k h; have h:k=ops.size:=h; rw [h]; exact hk
 | succ d ih =>
  intro k h
  have h1:=ih (k+1) (by omega)
  have hlt:k<ops.size:=by omega
  rw [CE (Array.getElem?_eq_getElem hlt)] at h1
  obtain ⟨C,v,ks,_,h2,_⟩:=Cy h1
  exact h2
theorem CF (hk:aG (eP p T call ops s0 ops.size).ks) {k:Nat} (h:k<=ops.size):aG (eP p T call ops s0 k).ks:=ac3 hk (ops.size-k) k (by omega)
theorem ac4 (hk:aG (eP p T call ops s0 ops.size).ks) {t:Nat}:∀ d k,k+d=ops.size->(∀ j o,k<=j->ops[j]? = some o->o.dst≠some t) ->
  nth (eP p T call ops s0 ops.size).ts t=nth (eP p T call ops s0 k).ts t/\bU (eP p T call ops s0 ops.size).tg t=bU (eP p T call ops s0 k).tg t:=by
 intro d
 induction d with
 | zero=>intro k h _; have h:k=ops.size:=h; rw [h]; exact ⟨rfl,rfl⟩
 | succ d ih =>
  intro k h hno
  have hlt:k<ops.size:=by omega
  have hg:=Array.getElem?_eq_getElem hlt
  obtain ⟨e1,e2⟩:=ih (k+1) (by omega) (fun j o hj=>hno j o (by omega))
  have hks:=CF hk (k:=k+1) (by omega)
  rw [e1,e2]
  rw [CE hg] at hks ⊢
  unfold nD at hks ⊢
  obtain ⟨C,v,ks,he,_,_⟩:=Cy hks
  rw [he] at hks ⊢
  obtain ⟨f1,f2,_,_⟩:=Gp hks
  rw [f1,f2]
  have hn:=hno k _ (Nat.le_refl _) hg
  generalize ops[k].dst=d at hn
  cases d with
  | none=>exact ⟨rfl,rfl⟩
  | some d =>
   have hne:d≠t:=fun e=>hn (e▸rfl)
   simp only [Cz,CB]
   rw [jS,if_neg (fun x=>hne x.1),if_neg hne]
   exact ⟨rfl,rfl⟩
theorem Gq {all:List Oper} {tg:fM} {g:Option (Nat×Bool)} {C:bO} (h:chainOf all tg g=some C) :
  C=[]/\g=none\/∃ j b o d,g=some (j,b)/\all[j]? = some o/\o.dst=some d/\C=bU tg d++[(d,b)]:=by
 cases g with
 | none=>injection h with h; exact .inl ⟨h.symm,rfl⟩
 | some jb =>
  obtain ⟨j,b⟩:=jb
  simp only [chainOf] at h
  split at h
  case h_2=>simp at h
  rename_i d op ty pos af gu hd
  injection h with h
  rw [Co] at hd
  exact .inr ⟨j,b,_,d,rfl,hd,rfl,by rw [<- h,yQ]⟩
theorem tO (hd:ql ops) (h0:s0.tg=[]) (hk:aG (eP p T call ops s0 ops.size).ks):∀ k,k<=ops.size->mE ops s0 (eP p T call ops s0 ops.size) (fun j=>j<k) (eP p T call ops s0 k):=by
 intro k
 induction k with
 | zero =>
  intro _
  have e:eP p T call ops s0 0=s0:=by simp [eP,nE]
  rw [e]
  refine ⟨rfl,rfl,fun t ⟨j,o,hj,_⟩=>absurd hj (Nat.not_lt_zero _),fun t _=>⟨rfl,by rw [h0]; rfl⟩,fun t C hm=>by rw [h0] at hm; simp at hm,?_⟩
  have:=CF hk (k:=0) (by omega)
  rwa [e] at this
 | succ k ih =>
  intro h
  have hlt:k<ops.size:=by omega
  have hg:=Array.getElem?_eq_getElem hlt
  have hks:=CF hk h
  have hh:=ih (by omega)
  have es:=CE (T:=T) (p:=p) (call:=call) (s0:=s0) hg
  rw [es] at hks ⊢
  unfold nD at hks ⊢
  obtain ⟨C,v,ks,he,_,hkk⟩:=Cy hks
  rw [he] at hks ⊢
  have hC:∀ s b,(s,b)∈C->Wr ops (fun j=>j<k) s:=fun s b hm=>by
   unfold jV at he
   split at he
   ·simp at he
   rename_i C' hC'
   have e:C'=C:=by
    unfold tN at he
    split at he
    ·split at he
     ·cases he; rfl
     ·simp at he
    ·unfold qj at he
     split at he
     ·simp only at he
      split at he
      ·cases he; rfl
      ·simp at he
     ·simp at he
   subst e
   rcases Gq hC' with ⟨rfl,_⟩ | ⟨j,b',o',d,hgd,hj,hd',rfl⟩
   ·simp at hm
   ·rcases List.mem_append.1 hm with hm | hm
    ·obtain ⟨C'',h1,h2⟩:=Cx hm
     exact hh.tg _ _ h1 _ _ h2
    ·simp at hm
     obtain ⟨rfl,rfl⟩:=hm
     exact ⟨j,o',hd.back k _ hg _ (hd.guard k _ j b hg hgd),by rw [<- Array.getElem?_toList]; exact hj,hd'⟩
  have hst:=hh.step hd hg (Nat.lt_irrefl k) hkk hC (v:=v) fun d hdst=>by
   have hkeep:=ac4 (t:=d) hk (ops.size-(k+1)) (k+1) (by omega) fun j o hj ho hod=>hd.one k j _ o d hg ho hod (by omega) hdst
   rw [es] at hkeep
   unfold nD at hkeep
   rw [he] at hkeep
   obtain ⟨f1,f2,_,_⟩:=Gp hks
   rw [f1,f2,hdst] at hkeep
   simp only [Cz,CB,if_true] at hkeep
   refine ⟨hkeep.1.trans ?_,hkeep.2⟩
   rw [jS,jS,hh.len]
   by_cases hlt:d<au s0.ts
   ·rw [if_pos ⟨rfl,hlt⟩,if_pos ⟨rfl,hlt⟩]
   ·rw [if_neg (fun x=>hlt x.2),if_neg (fun x=>hlt x.2),kW _ _ (by rw [hh.len]; exact Nat.le_of_not_lt hlt),kW _ _ (Nat.le_of_not_lt hlt)]
  have eL:(fun j=>j<k\/j=k)=(fun j=>j<k+1):=by funext j; apply propext; omega
  rw [eL] at hst
  exact hst
end
end Go.aT
namespace Go.aT
open Go Go.RowKit
variable {P:Program} {T:aX} {base:Env} {w:World} {S:Nat->Prop} {m:aY} {M:Mem}
theorem mE.agree {ops:Array Oper} (hd:ql ops) {s0 sn s h:St} {i:Nat} {o:Oper} (hi:ops[i]? = some o) {L:Nat->Prop} (hs:mE ops s0 sn (fun j=>j<i) s) (hh:mE ops s0 sn L h)
  (hL:¬ L i) (hp:∀ j∈fJ o,L j) (hcl:∀ (j:Nat) (o':Oper),L j->ops[j]? = some o'->∀ k∈fJ o',L k):Agree ops.toList s h o:=by
 have hback:=hd.back i o hi
 have key:∀ t,t∈o.looksAt ops->nth s.ts t=nth h.ts t/\bU s.tg t=bU h.tg t:=fun t ht=>by
  by_cases hw:Wr ops (fun j=>j<i) t
  ·obtain ⟨j,o',hj,ho',hdj⟩:=hw
   have hwL:Wr ops L t:=by
    rcases hd.look i j o o' t hi ho' hdj ht with h1 | h1
    ·exact ⟨j,o',hp j h1,ho',hdj⟩
    ·have:=hd.back j o' ho' i h1
     have hj:j<i:=hj
     omega
   obtain ⟨a1,a2⟩:=hs.wr t ⟨j,o',hj,ho',hdj⟩
   obtain ⟨b1,b2⟩:=hh.wr t hwL
   exact ⟨a1.trans b1.symm,a2.trans b2.symm⟩
  ·have hwL:¬ Wr ops L t:=fun ⟨j,o',hj,ho',hdj⟩=>by
    rcases hd.look i j o o' t hi ho' hdj ht with h1 | h1
    ·exact hw ⟨j,o',hback j h1,ho',hdj⟩
    ·exact hL (hcl j o' hj ho' i h1)
   obtain ⟨a1,a2⟩:=hs.un t hw
   obtain ⟨b1,b2⟩:=hh.un t hwL
   exact ⟨a1.trans b1.symm,a2.trans b2.symm⟩
 refine ⟨hs.m.trans hh.m.symm,fun t ht=>key t ?_,fun C hC=>?_⟩
 ·exact List.mem_append_left _ (List.mem_filterMap.2 ⟨.tmp t,ht,rfl⟩)
 ·rcases Gq hC with ⟨rfl,hg⟩ | ⟨j,b,o',d,hg,hj,hdj,rfl⟩
  ·rw [hg]; exact ⟨rfl,fun t b hm=>by simp at hm⟩
  ·have hj':ops[j]? = some o':=by rw [<- Array.getElem?_toList]; exact hj
   have hdl:d∈o.looksAt ops:=List.mem_append_right _ (by rw [hg]; simp only [hj',Option.bind_some,hdj]; simp)
   obtain ⟨k1,k2⟩:=key d hdl
   refine ⟨?_,fun t b' hm=>?_⟩
   ·rw [hg] at hC ⊢
    have hn:sO ops.toList j=some o':=by rw [Co]; exact hj
    have e:∀ tg,chainOf ops.toList tg (some (j,b))=some (bU tg d++[(d,b)]):=fun tg=>by
     obtain ⟨dst,op,ty,pos,af,gu⟩:=o'
     have hdj:dst=some d:=hdj
     subst hdj
     simp only [chainOf,hn,yQ]
    rw [e,k2]
   ·rcases List.mem_append.1 hm with hm | hm
    ·obtain ⟨C1,h1,h2⟩:=Cx hm
     rw [k2] at hm
     obtain ⟨C2,h3,h4⟩:=Cx hm
     exact (hs.wr t (hs.tg _ _ h1 _ _ h2)).1.trans (hh.wr t (hh.tg _ _ h3 _ _ h4)).1.symm
    ·simp at hm
     obtain ⟨rfl,rfl⟩:=hm
     exact k1
theorem Uf {ops:Array Oper} {o:Oper} {e:Edge} (he:e∈o.after) (hb:Region.binds .any e=true):e.on∈fJ o :=
 List.mem_map.2 ⟨e,List.mem_filter.2 ⟨by simpa using he,hb⟩,rfl⟩
theorem Ug {o:Oper} {j:Nat} (h:j∈fJ o):∃ e∈o.after,Region.binds .any e=true/\e.on=j:=by
 obtain ⟨e,he,hj⟩:=List.mem_map.1 h
 obtain ⟨h1,h2⟩:=List.mem_filter.1 he
 exact ⟨e,by simpa using h1,h2,hj⟩
def Listed (ops:Array Oper) (listed:Array Bool) (j:Nat):Prop:=j<ops.size/\listed.getD j false=true
theorem CG {listed:Array Bool} {j:Nat} (h:j<listed.size):listed.getD j true=listed.getD j false:=by simp [Array.getD_eq_getD_getElem?,h]
theorem ac5 {ops:Array Oper} (hd:ql ops) {listed:Array Bool} (hsz:listed.size=ops.size) (hr:Region.ready .any ops listed=[]):∀ i,i<ops.size->Listed ops listed i:=by
 intro i
 induction i using Nat.strongRecOn with
 | _ i ih =>
  intro hi
  refine Classical.byContradiction fun hn=>?_
  have hf:listed.getD i true=false:=by
   rw [CG (by omega)]
   cases h:listed.getD i false with
   | true=>exact absurd ⟨hi,h⟩ hn
   | false=>rfl
  have hg:=Array.getElem?_eq_getElem hi
  have:i∈Region.ready .any ops listed:=by
   rw [mem_ready]
   refine ⟨hf,_,hg,fun e he hb=>?_⟩
   have hlt:=hd.back i _ hg _ (Uf (ops:=ops) he hb)
   exact (ih _ hlt (by omega)).2
  rw [hr] at this
  cases this
theorem ac6 (hT:bG P T) {call:dD} (hcall:Sound P call) {ops:Array Oper} (hd:ql ops) {s0:St} (h0:s0.tg=[]) {Q:Exit->Act->World->Prop}
  (hk:aG (eP ae T call ops s0 ops.size).ks):∀ (fuel:Nat) (listed:Array Bool) (rem:List Nat) {w:World} {S:Nat->Prop} {m:aY} {a:Act} {h:St},
   listed.size=ops.size->rem.length<=fuel->(∀ i,i<ops.size->listed.getD i false=false->i∈rem) ->
   (∀ (j:Nat) (o':Oper),Listed ops listed j->ops[j]? = some o'->∀ k∈fJ o',Listed ops listed k) ->
   mE ops s0 (eP ae T call ops s0 ops.size) (Listed ops listed) h->aV base w S m h.m->dQ base.old w S m a h->nA base w S m (eP ae T call ops s0 ops.size) (fun a w=>Q .normal a w) ->
   wpAny P .any ops Q fuel listed a w:=by
 have fin:∀ (listed:Array Bool) {w:World} {S:Nat->Prop} {m:aY} {a:Act} {h:St},(∀ i,i<ops.size->Listed ops listed i)->mE ops s0 (eP ae T call ops s0 ops.size) (Listed ops listed) h->aV base w S m h.m->dQ base.old w S m a h ->
   nA base w S m (eP ae T call ops s0 ops.size) (fun a w=>Q .normal a w)->Q .normal a w:=fun listed {w S m a h} hall hh hM hF hK=>by
  have hsn:=tO (p:=ae) (T:=T) (call:=call) hd h0 hk ops.size (Nat.le_refl _)
  have eqt:∀ t,nth h.ts t=nth (eP ae T call ops s0 ops.size).ts t/\bU h.tg t=bU (eP ae T call ops s0 ops.size).tg t:=fun t=>by
   by_cases hw:Wr ops (Listed ops listed) t
   ·exact hh.wr t hw
   ·have hw':¬ Wr ops (fun j=>j<ops.size) t:=fun ⟨j,o,hj,ho,hdj⟩=>hw ⟨j,o,hall j hj,ho,hdj⟩
    obtain ⟨a1,a2⟩:=hh.un t hw
    obtain ⟨b1,b2⟩:=hsn.un t hw'
    exact ⟨a1.trans b1.symm,a2.trans b2.symm⟩
  refine hK a w S m (bX.refl _ _) (fun _ h=>h) (fun _ h=>.inl h) (by rw [hsn.m,<- hh.m]; exact hM) ⟨?_,hF.defers,fun t ht=>?_,fun t=>?_⟩
  ·rw [hF.size,hh.len,hsn.len]
  ·rw [<- (eqt t).1]; exact hF.rel t (by rw [(eqt t).2]; exact ht)
  ·rw [<- (eqt t).2]; exact hF.skip t
 intro fuel
 induction fuel with
 | zero =>
  intro listed rem w S m a h hsz hrem hin hcl hh hM hF hK
  have hall:∀ i,i<ops.size->Listed ops listed i:=fun i hi=>by
   refine ⟨hi,?_⟩
   cases e:listed.getD i false with
   | true=>rfl
   | false =>
    have:=hin i hi e
    have hnil:rem=[]:=List.eq_nil_of_length_eq_zero (by omega)
    rw [hnil] at this; cases this
  refine ⟨?_,fin listed hall hh hM hF hK⟩
  rw [List.eq_nil_iff_forall_not_mem]
  intro i hi
  obtain ⟨h1,o,ho,_⟩:=mem_ready.1 hi
  have hlt:=(Array.getElem?_eq_some_iff.1 ho).1
  rw [CG (by omega),(hall i hlt).2] at h1
  cases h1
 | succ fuel ih =>
  intro listed rem w S m a h hsz hrem hin hcl hh hM hF hK
  refine ⟨fun hr=>fin listed (ac5 hd hsz hr) hh hM hF hK,fun i hi=>?_⟩
  obtain ⟨h1,o,ho,hpr⟩:=mem_ready.1 hi
  have hlt:=(Array.getElem?_eq_some_iff.1 ho).1
  rw [CG (by omega)] at h1
  have hL:¬ Listed ops listed i:=fun x=>by have:=x.2; rw [h1] at this; cases this
  have hp:∀ j∈fJ o,Listed ops listed j:=fun j hj=>by
   obtain ⟨e,he,hb,rfl⟩:=Ug hj
   have:=hd.back i o ho _ hj
   exact ⟨by omega,hpr e he hb⟩
  have hs:=tO (p:=ae) (T:=T) (call:=call) hd h0 hk i (by omega)
  have hag:=hs.agree hd ho hh hL hp hcl
  have hks:=CF hk (k:=i+1) (by omega)
  have es:=CE (T:=T) (p:=ae) (call:=call) (s0:=s0) ho
  rw [es] at hks
  unfold nD at hks
  obtain ⟨C,v,ks,he,_,hkk⟩:=Cy hks
  rw [he] at hks
  have he':=Ud hag he
  have eL:(fun j=>Listed ops listed j\/j=i)=Listed ops (listed.setIfInBounds i true):=by
   funext j; apply propext
   constructor
   ·rintro (⟨hj,hj'⟩ | rfl)
    ·exact ⟨hj,getD_set_true hj'⟩
    ·exact ⟨hlt,by simp [Array.getD_eq_getD_getElem?,hsz,hlt]⟩
   ·rintro ⟨hj,hj'⟩
    by_cases e:i=j
    ·exact .inr e.symm
    ·rw [getD_set_ne false e] at hj'; exact .inl ⟨hj,hj'⟩
  have hstep:mE ops s0 (eP ae T call ops s0 ops.size) (fun j=>Listed ops listed j\/j=i) (ll h o.dst (some (C,v,ks))):=by
   refine hh.step hd ho hL hkk ?_ ?_
   ·intro s b hm
    have hC:chainOf ops.toList h.tg o.guard=some C:=by
     unfold jV at he'
     split at he'
     ·simp at he'
     rename_i C' hC'
     rw [hC']
     unfold tN at he'
     split at he'
     ·split at he'
      ·cases he'; rfl
      ·simp at he'
     ·unfold qj at he'
      split at he'
      ·simp only at he'
       split at he'
       ·cases he'; rfl
       ·simp at he'
      ·simp at he'
    rcases Gq hC with ⟨rfl,_⟩ | ⟨j,b',o',d,hgd,hj,hd',rfl⟩
    ·simp at hm
    ·rcases List.mem_append.1 hm with hm | hm
     ·obtain ⟨C'',h1,h2⟩:=Cx hm
      exact hh.tg _ _ h1 _ _ h2
     ·simp at hm
      obtain ⟨rfl,rfl⟩:=hm
      exact ⟨j,o',hp j (hd.guard i o j b ho hgd),by rw [<- Array.getElem?_toList]; exact hj,hd'⟩
   ·intro d hdst
    have hsn:=tO (p:=ae) (T:=T) (call:=call) hd h0 hk (i+1) (by omega)
    obtain ⟨a1,a2⟩:=hsn.wr d ⟨i,o,Nat.lt_succ_self i,ho,hdst⟩
    rw [es] at a1 a2
    unfold nD at a1 a2
    rw [he] at a1 a2
    obtain ⟨f1,f2,_,_⟩:=Gp hks
    rw [f1,hdst] at a1
    rw [f2,hdst] at a2
    simp only [Cz,CB,if_true] at a1 a2
    refine ⟨a1.symm.trans ?_,a2.symm⟩
    rw [jS,jS,hs.len]
    by_cases hlt:d<au s0.ts
    ·rw [if_pos ⟨rfl,hlt⟩,if_pos ⟨rfl,hlt⟩]
    ·rw [if_neg (fun x=>hlt x.2),if_neg (fun x=>hlt x.2),kW _ _ (by rw [hs.len]; exact Nat.le_of_not_lt hlt),kW _ _ (Nat.le_of_not_lt hlt)]
  rw [eL] at hstep
  refine vZ hT hcall ho hM hF (s:=h) (by rw [Cu he']; exact hstep.ks) ?_
  rw [Cu he']
  intro a' w' S' m' hb hS hU hM' hF'
  refine ih (listed.setIfInBounds i true) (rem.erase i) (by simpa using hsz) ?_ ?_ ?_ hstep hM' hF' ?_
  ·have:=hin i hlt h1
   rw [List.length_erase_of_mem this]; omega
  ·intro j hj hjf
   have e:i≠j:=fun e=>by
    subst e
    simp [Array.getD_eq_getD_getElem?,hsz,hlt] at hjf
   rw [getD_set_ne false e] at hjf
   exact (List.mem_erase_of_ne e.symm).2 (hin j hj hjf)
  ·rw [<- eL]
   intro j o' hj ho' k hkp
   rcases hj with hj | rfl
   ·exact .inl (hcl j o' hj ho' k hkp)
   ·rw [ho] at ho'; injection ho' with ho'; subst ho'; exact .inl (hp k hkp)
  ·intro a'' w'' S'' m'' hb' hS' hU' hM'' hF''
   exact hK a'' w'' S'' m'' (hb.trans hb') (fun b h=>hS' b (hS b h)) (fun b h=>(hU' b h).elim (hU b) .inr) hM'' hF''
theorem bL.ac7 (hm:P.follows .mixedOrders=true) (hT:bG P T) {call:dD} (hcall:Sound P call) {id:Nat} {ops:Array Oper} {Q:Exit->AS->Prop} {A:AS} {s:St} (hd:Cw ops=true)
  (hs:nE ae T call ops.toList ops.toList ⟨A.ts,A.m,[],[]⟩=s) (hk:aG s.ks) (hq:Q .normal ⟨iK s.ts s.tg,s.m,A.np⟩):bL P (.region id ops true) Q A:=by
 have es:eP ae T call ops ⟨A.ts,A.m,[],[]⟩ ops.size=s:=by unfold eP; rw [<- hs,<- Array.length_toList,List.take_length]
 subst es
 refine ⟨fun base w S m a hM hA=>wp_region_any hm ?_⟩
 have hd:=ql.of hd
 have hM':aV base w.drew S m A.m:=hM.rel.drew
 have hB:bX base.Z w w.drew:=⟨rfl,rfl,rfl,Nat.le_refl _,fun _ _=>rfl⟩
 have hF:dQ base.old w.drew S m a ⟨A.ts,A.m,[],[]⟩:=⟨hA.1,hA.2.1.mono (fun _ h=>h) (fun _ _=>rfl),fun t _=>Rel.mono (w:=w) (w':=w.drew) (fun _ h=>h) (fun _ _=>rfl) (hA.2.2 t) _ (fun _ _ h=>h),fun t=>.inl fun s b hm=>by simp [bU] at hm⟩
 have hno:∀ j,¬ Listed ops (Array.replicate ops.size false) j:=fun j ⟨hj,h⟩=>by simp [Array.getD_eq_getD_getElem?,hj] at h
 have h0:=tO (p:=ae) (T:=T) (call:=call) (s0:=⟨A.ts,A.m,[],[]⟩) hd rfl hk 0 (Nat.zero_le _)
 have e0:eP ae T call ops ⟨A.ts,A.m,[],[]⟩ 0=⟨A.ts,A.m,[],[]⟩:=by simp [eP,nE]
 have eL:(fun j=>j<0)=Listed ops (Array.replicate ops.size false):=by
  funext j; apply propext
  exact ⟨fun h=>absurd h (Nat.not_lt_zero _),fun h=>absurd h (hno j)⟩
 rw [e0,eL] at h0
 refine ac6 (base:=base) hT hcall hd rfl hk ops.size _ (List.range ops.size) (by simp) (by simp) (fun i hi _=>by simpa using hi) (fun j o' hj=>absurd hj (hno j)) h0 hM' hF ?_
 intro a' w' S' m' hb hS hU hM'' hF''
 exact ⟨_,S',m',hq,hB.trans hb,hS,hU,⟨hM'',hM.pins⟩,hF''.iK⟩
end Go.aT
