/- The evaluator by trees is sound. -/
import Derived.Test.YtjkhncojgilbaaaGreatDoorTrB
namespace Go.aT
open Go Go.RowKit
variable {P:Program} {T:aX}
theorem Be {s s':St} (h:(iU s).run=some s'):aG s.ks/\s'=⟨s.ts,s.m,s.tg,[]⟩:=by
 obtain ⟨h1,h2⟩:=AU h
 exact ⟨h1,by cases h2; rfl⟩
def rU (p:bg) (T:aX) (call:dD) (ts:List AV) (m:Mem) (C:bO) (op:Op):Option (bO×AV×Mem×List Bool×Option Nat) :=
 match lN p ts C with
 | none=>none
 | some g=>match kU T op with
  | true=>some (C,(dw p T call ts m op).v,m,kD p g (dw p T call ts m op).ks,none)
  | false=>match op with
   | .call ⟨.value _,_,_⟩=>match iJ p call ts m op,(dw p T call ts m op).v with
    | true,.own _ _=>none
    | true,.bz _=>none
    | true,v=>some (C,v,m,kD p g (dw p T call ts m op).ks,none)
    | false,_=>none
   | _=>none
def lF (p:bg) (T:aX) (call:dD) (ts:List AV) (m:Mem) (tg:fM) (C:bO) (op:Op):Option (bO×AV×Mem×List Bool×Option Nat) :=
 match gq tg C op.operands.toList with
 | false=>none
 | true=>match C with
  | []=>some ([],(dw p T call ts m op).v,(dw p T call ts m op).m,(dw p T call ts m op).ks,(dw p T call ts m op).inv)
  | x::C=>rU p T call ts m (x::C) op
def Bf (p:bg) (T:aX) (call:dD) (ts:List AV) (m:Mem) (tg:fM) (C:bO):Op->Option (bO×AV×Mem×List Bool×Option Nat)
 | .pick c a b=>match nZ tg C c a b,pW p ts c a b with
  | true,some v=>some (C,v,m,[],none)
  | _,_=>none
 | op=>lF p T call ts m tg C op
def kM (p:bg) (T:aX) (call:dD) (all:List Oper) (ts:List AV) (m:Mem) (tg:fM) (o:Oper):Option (bO×AV×Mem×List Bool×Option Nat) :=
 match chainOf all tg o.guard with
 | none=>none
 | some C=>Bf p T call ts m tg C o.op
def Jp (s:St) (dst:Option Nat):Option (bO×AV×Mem×List Bool×Option Nat)->St
 | none=>kE s
 | some (C,v,m,ks,inv)=>lay s C dst v m ks inv
theorem ah8 (p:bg) (call:dD) (s:St) (C:bO) (dst:Option Nat) (op:Op):qV p T call s C dst op=Jp s dst (rU p T call s.ts s.m C op):=by
 unfold qV rU
 cases lN p s.ts C with
 | none=>rfl
 | some g =>
  cases kU T op with
  | true=>rfl
  | false =>
   simp only
   split
   ·generalize (dw p T call s.ts s.m _).v=v
    cases iJ p call s.ts s.m _ with
    | false=>rfl
    | true=>cases v <;> rfl
   ·rename_i h
    split
    ·exact absurd rfl (h _ _ _)
    ·rfl
theorem Jq (p:bg) (call:dD) (all:List Oper) (s:St) (o:Oper):eH p T call all s o=Jp s o.dst (kM p T call all s.ts s.m s.tg o):=by
 unfold eH kM
 cases chainOf all s.tg o.guard with
 | none=>rfl
 | some C =>
  simp only
  obtain ⟨dst,op,type,pos,after,guard⟩:=o
  have h1:pX p T call s C dst op=Jp s dst (lF p T call s.ts s.m s.tg C op):=by
   unfold pX lF
   cases gq s.tg C op.operands.toList with
   | false=>rfl
   | true=>cases C with
    | nil=>rfl
    | cons x C=>exact ah8 p call s (x::C) dst op
  cases op with
  | pick c a b =>
   show qW p s C dst c a b=Jp s dst (match nZ s.tg C c a b,pW p s.ts c a b with | true,some v=>some (C,v,s.m,[],none) | _,_=>none)
   unfold qW
   cases nZ s.tg C c a b <;> cases pW p s.ts c a b <;> rfl
  | _=>exact h1
theorem ah9 (p:bg) (call call':dD) (ts:List AV) (m:Mem) (op:Op) (h:∀ f args ats,op≠.call ⟨.value f,args,ats⟩):dw p T call ts m op=dw p T call' ts m op:=by
 cases op with
 | call c =>
  obtain ⟨callee,args,ats⟩:=c
  cases callee with
  | value f=>exact absurd rfl (h f args ats)
  | _=>rfl
 | makeMap t r=>cases r <;> rfl
 | _=>rfl
theorem aia (p:bg) (call call':dD) (all:List Oper) (ts:List AV) (m:Mem) (tg:fM) (o:Oper) (h:∀ f args ats,o.op≠.call ⟨.value f,args,ats⟩):kM p T call all ts m tg o=kM p T call' all ts m tg o:=by
 unfold kM
 cases chainOf all tg o.guard with
 | none=>rfl
 | some C =>
  simp only
  generalize o.op=op at h
  have hqc:iJ p call ts m op=iJ p call' ts m op:=by
   cases op with
   | call c =>
    obtain ⟨callee,args,ats⟩:=c
    cases callee with
    | value f=>exact absurd rfl (h f args ats)
    | _=>rfl
   | _=>rfl
  have h1:lF p T call ts m tg C op=lF p T call' ts m tg C op:=by
   unfold lF rU
   rw [ah9 p call call' ts m op h,hqc]
  cases op with
  | pick=>rfl
  | _=>exact h1
theorem X7 {ts:List AV} {m:Mem} {tg:fM} {C:bO} {dst:Option Nat} {v:AV} {m1:Mem} {ks:List Bool} {inv:Option Nat} (h:aG (lay ⟨ts,m,tg,[]⟩ C dst v m1 ks inv).ks) (k0:List Bool) :
  lay ⟨ts,m,tg,k0⟩ C dst v m1 ks inv=⟨(lay ⟨ts,m,tg,[]⟩ C dst v m1 ks inv).ts,(lay ⟨ts,m,tg,[]⟩ C dst v m1 ks inv).m,(lay ⟨ts,m,tg,[]⟩ C dst v m1 ks inv).tg,jQ k0 ks⟩/\aG ks:=by
 refine ⟨?_,(mo h).2⟩
 unfold lay at h ⊢
 cases dst with
 | none=>cases inv <;> rfl
 | some d =>
  simp only at h ⊢
  cases e1:mentioned d tg <;> cases e2:mentions d C <;> simp only [e1,e2] at h ⊢ <;> first | exact (iY h).elim | (cases inv <;> rfl)
def nL (T:aX) (o:bW) (all:List Oper) (s:St) (op:Oper) (s':St):Prop :=
 ∃ C v m1 ks inv,kM ae T o.old all s.ts s.m s.tg op=some (C,v,m1,ks,inv)/\aG (lay ⟨s.ts,s.m,s.tg,[]⟩ C op.dst v m1 ks inv).ks /\
  s'=⟨(lay ⟨s.ts,s.m,s.tg,[]⟩ C op.dst v m1 ks inv).ts,(lay ⟨s.ts,s.m,s.tg,[]⟩ C op.dst v m1 ks inv).m,(lay ⟨s.ts,s.m,s.tg,[]⟩ C op.dst v m1 ks inv).tg,[]⟩
theorem QL {o:bW} {all:List Oper} {s s':St} {op:Oper} (hs:s.ks=[]) (hno:∀ f args ats,op.op≠.call ⟨.value f,args,ats⟩) (h:(iU (eH ae T CJ all s op)).run=some s'):nL T o all s op s':=by
 obtain ⟨h1,h2⟩:=Be h
 obtain ⟨ts,m,tg,ks⟩:=s
 simp only at hs; subst hs
 rw [Jq,aia ae CJ o.old all ts m tg op hno] at h1 h2
 unfold nL
 simp only
 cases hp:kM ae T o.old all ts m tg op with
 | none=>rw [hp] at h1; exact (iY h1).elim
 | some x =>
  obtain ⟨C,v,m1,ks,inv⟩:=x
  rw [hp] at h1 h2
  exact ⟨C,v,m1,ks,inv,rfl,h1,h2⟩
theorem X8 {m:Mem} {oo:Bool} {r:CR} (h:aG (dR m oo [] r).ks) (k:Bool):dR m oo [k] r=⟨(dR m oo [] r).v,(dR m oo [] r).m,[k],(dR m oo [] r).inv⟩:=by
 cases r with
 | val v =>
  simp only [dR] at h ⊢
  cases oo with
  | true=>rfl
  | false =>
   cases hf:pR v <;> simp only [hf] at h ⊢
   exact (aH h).elim
 | fresh=>cases oo with
  | true=>rfl
  | false=>exact (aH h).elim
 | nY e u l =>
  simp only [dR] at h ⊢
  cases hb:BL oo (lL u) with
  | true=>rfl
  | false=>simp only [hb] at h; exact (aH h).elim
 | pU e u l =>
  simp only [dR] at h ⊢
  cases hb:lL u with
  | true=>rfl
  | false=>simp only [hb] at h; exact (aH h).elim
theorem aib {ts:List AV} {m:Mem} {tg:fM} {C:bO} {dst:Option Nat} {v:AV} {m1:Mem} {ks:List Bool} {inv:Option Nat} (h:aG (lay ⟨ts,m,tg,[]⟩ C dst v m1 ks inv).ks) {ks':List Bool} (hk:aG ks') :
  aG (lay ⟨ts,m,tg,[]⟩ C dst v m1 ks' inv).ks/\(lay ⟨ts,m,tg,[]⟩ C dst v m1 ks' inv).ts=(lay ⟨ts,m,tg,[]⟩ C dst v m1 ks inv).ts /\
   (lay ⟨ts,m,tg,[]⟩ C dst v m1 ks' inv).m=(lay ⟨ts,m,tg,[]⟩ C dst v m1 ks inv).m/\(lay ⟨ts,m,tg,[]⟩ C dst v m1 ks' inv).tg=(lay ⟨ts,m,tg,[]⟩ C dst v m1 ks inv).tg:=by
 unfold lay at h ⊢
 cases dst with
 | none=>cases inv <;> exact ⟨hk,rfl,rfl,rfl⟩
 | some d =>
  simp only at h ⊢
  cases e1:mentioned d tg <;> cases e2:mentions d C <;> simp only [e1,e2] at h ⊢ <;> first | exact (iY h).elim | (cases inv <;> exact ⟨hk,rfl,rfl,rfl⟩)
theorem nL.mk' {o:bW} {all:List Oper} {ts:List AV} {m:Mem} {tg:fM} {s':St} {op:Oper} {C:bO} {v:AV} {m1:Mem} {ks ks':List Bool} {inv:Option Nat}
  (hp:kM ae T o.old all ts m tg op=some (C,v,m1,ks',inv)) (hk:aG ks') (h:(iU (lay ⟨ts,m,tg,[]⟩ C op.dst v m1 ks inv)).run=some s'):nL T o all ⟨ts,m,tg,[]⟩ op s':=by
 obtain ⟨h1,h2⟩:=Be h
 obtain ⟨q1,q2,q3,q4⟩:=aib h1 hk
 exact ⟨C,v,m1,ks',inv,hp,q1,by rw [h2,q2,q3,q4]⟩
theorem aic {g:Bool} {ks ks':List Bool} (h:g=true->aG ks'):aG (kD ae g ks'):=by
 cases g with
 | false=>clear h; induction ks' with
  | nil=>trivial
  | cons k l ih=>exact aG.cons.2 ⟨rfl,ih⟩
 | true=>have:=h rfl; clear h; induction ks' with
  | nil=>trivial
  | cons k l ih=>obtain ⟨h1,h2⟩:=aG.cons.1 this; exact aG.cons.2 ⟨by simp [ae,h1],ih h2⟩
theorem QM {o:bW} {all:List Oper} {s s':St} {op:Oper} {C:bO} {f:Operand} {args:Array Operand} {ats:Array TypeId} {id:Nat} {bargs:List AV} {oo:Bool} {c:rO} (hs:s.ks=[]) (hop:op.op = .call ⟨.value f,args,ats⟩)
  (hC:chainOf all s.tg op.guard=some C) (hu:gq s.tg C op.op.operands.toList=true) (hq:iJ ae o.old s.ts s.m op.op=true)
  (ha:dw ae T o.old s.ts s.m op.op=lM ae o.old s.m id bargs oo) (hc:o.pu id bargs=some c) (h:(oU ae s C op.dst oo (some c)).run=some s'):nL T o all s op s':=by
 have hold:o.old.pu ae id bargs=some ⟨c.r (c.t.run.getD c.d),[c.t.run.isSome]⟩:=by simp only [bW.old,hc]
 rw [XM,hold] at ha
 simp only at ha
 have hpre:∀ x,kM ae T o.old all s.ts s.m s.tg op=x↔lF ae T o.old s.ts s.m s.tg C op.op=x:=fun x=>by
  unfold kM; rw [hC]
  show Bf ae T o.old s.ts s.m s.tg C op.op=x↔_
  rw [hop]; exact Iff.rfl
 obtain ⟨ts,m,tg,ks⟩:=s
 simp only at hs; subst hs
 simp only at hC hu hq ha h hpre
 cases C with
 | nil =>
  simp only [oU,Tree.run] at h
  cases hr:c.t.run with
  | none=>rw [hr] at h; cases h
  | some a =>
   rw [hr] at h ha
   simp only [Option.getD_some,Option.isSome_some] at ha
   have h:(iU (lay ⟨ts,m,tg,[]⟩ [] op.dst (dR m oo [] (c.r a)).v (dR m oo [] (c.r a)).m (dR m oo [] (c.r a)).ks (dR m oo [] (c.r a)).inv)).run=some s':=h
   have hks:=(mo (Be h).1).2
   rw [X8 hks true] at ha
   exact nL.mk' (ks':=[true]) (by rw [hpre]; unfold lF; rw [hu]; simp only; rw [ha]) rfl h
 | cons x C =>
  simp only [oU] at h
  cases hg:lN ae ts (x::C) with
  | none=>rw [hg] at h; cases h
  | some g =>
   rw [hg] at h
   simp only [Tree.run] at h
   cases hgn:g&&c.t.run.isNone with
   | true=>rw [hgn] at h; cases h
   | false =>
    rw [hgn] at h
    have hgs:g=true->c.t.run.isSome=true:=fun e=>by
     subst e
     cases hr:c.t.run with
     | none=>rw [hr] at hgn; cases hgn
     | some a=>rfl
    generalize hv:c.t.run.getD c.d=a at h ha
    generalize hb:c.t.run.isSome=b at ha hgs
    have hv2:∃ v,(dR m oo [] (c.r a)).v=v/\(∀ b n,v≠.own b n)/\(∀ b,v≠.bz b)/\(iU (lay ⟨ts,m,tg,[]⟩ (x::C) op.dst v m (kD ae g (dR m oo [] (c.r a)).ks) none)).run=some s':=by
     have h:(match (dR m oo [] (c.r a)).v with
      | .own _ _=>Tree.fail
      | .bz _=>Tree.fail
      | v=>iU (lay ⟨ts,m,tg,[]⟩ (x::C) op.dst v m (kD ae g (dR m oo [] (c.r a)).ks) none)).run=some s':=h
     generalize (dR m oo [] (c.r a)).v=v at h
     cases v <;> first | (cases h; done) | exact ⟨_,rfl,(fun _ _ e=>by cases e),(fun _ e=>by cases e),h⟩
    obtain ⟨v,hv3,hn1,hn2,h⟩:=hv2
    have himp:=(mo (Be h).1).2
    have hvm:∀ k,(dR m oo [k] (c.r a)).v=v/\(g=true->k=true->aG (dR m oo [k] (c.r a)).ks):=fun k=>by
     clear h ha
     cases hcr:c.r a with
     | val v' =>
      rw [hcr] at hv3 himp
      simp only [dR] at hv3 himp ⊢
      cases oo with
      | true=>exact ⟨hv3,fun _ hk=>hk⟩
      | false =>
       cases hf:pR v' <;> simp only [hf] at hv3 himp ⊢
       ·exact ⟨hv3,fun hg' _=>by subst hg'; exact Cn himp⟩
       ·exact ⟨hv3,fun _ hk=>hk⟩
     | fresh e sz n d =>
      rw [hcr] at hv3 himp
      cases oo with
      | true=>exact absurd hv3.symm (hn1 _ _)
      | false=>exact ⟨hv3,fun hg' _=>by subst hg'; exact Cn himp⟩
     | nY e u l =>
      rw [hcr] at hv3 himp
      simp only [dR] at hv3 himp ⊢
      cases hb:BL oo (lL u) with
      | true=>simp only [hb] at hv3; exact absurd hv3.symm (hn2 _)
      | false=>simp only [hb] at hv3 himp ⊢; exact ⟨hv3,fun hg' _=>by subst hg'; exact Cn himp⟩
     | pU e u l =>
      rw [hcr] at hv3 himp
      simp only [dR] at hv3 himp ⊢
      cases hb:lL u with
      | true=>simp only [hb] at hv3 ⊢; exact ⟨hv3,fun _ hk=>hk⟩
      | false=>simp only [hb] at hv3 himp ⊢; exact ⟨hv3,fun hg' _=>by subst hg'; exact Cn himp⟩
    refine nL.mk' (ks':=kD ae g (dR m oo [b] (c.r a)).ks) ?_ (aic (ks:=[]) fun hg'=>(hvm b).2 hg' (hgs hg')) h
    rw [hpre]; unfold lF; rw [hu]
    show rU ae T o.old ts m (x::C) op.op=_
    unfold rU
    rw [hg,hop]
    rw [hop] at hq ha
    show (match iJ ae o.old ts m (.call ⟨.value f,args,ats⟩),(dw ae T o.old ts m (.call ⟨.value f,args,ats⟩)).v with
     | true,.own _ _=>none
     | true,.bz _=>none
     | true,v=>some (x::C,v,m,kD ae g (dw ae T o.old ts m (.call ⟨.value f,args,ats⟩)).ks,none)
     | false,_=>none)=_
    rw [hq,ha,(hvm b).1]
    cases v <;> first | rfl | exact absurd rfl (hn1 _ _) | exact absurd rfl (hn2 _)
theorem aid {o:bW} {all:List Oper} {s s':St} {op:Oper} {C:bO} {f:Operand} {args:Array Operand} {ats:Array TypeId} {id:Nat} {args':List AV} {c:xn} (hs:s.ks=[]) (hop:op.op = .call ⟨.value f,args,ats⟩)
  (hC:chainOf all s.tg op.guard=some C) (hu:gq s.tg C op.op.operands.toList=true)
  (ha:∀ r,o.old.me ae id args' s.m=some r->dw ae T o.old s.ts s.m op.op=r) (hc:o.me id args' s.m=some c) (h:(Jh s C op.dst c).run=some s'):nL T o all s op s':=by
 have hpre:∀ x,kM ae T o.old all s.ts s.m s.tg op=x↔lF ae T o.old s.ts s.m s.tg C op.op=x:=fun x=>by
  unfold kM; rw [hC]
  show Bf ae T o.old s.ts s.m s.tg C op.op=x↔_
  rw [hop]; exact Iff.rfl
 obtain ⟨ts,m,tg,ks⟩:=s
 simp only at hs; subst hs
 simp only at hC hu ha hc h hpre
 cases C with
 | cons x C=>cases h
 | nil =>
  simp only [Jh,Tree.run] at h
  cases hr:c.t.run with
  | none=>rw [hr] at h; cases h
  | some a =>
   rw [hr] at h
   have h:(iU (lay ⟨ts,m,tg,[]⟩ [] op.dst (c.r a).v (c.r a).m (c.r a).ks (c.r a).inv)).run=some s':=h
   have hold:o.old.me ae id args' m=some (c.r a):=by simp only [bW.old,hc,hr]
   have ha:=ha _ hold
   exact nL.mk' (by rw [hpre]; unfold lF; rw [hu]; simp only; rw [ha]) (mo (Be h).1).2 h
theorem X9 {o:bW} {id:Nat} {args:List AV} {m:Mem}:(o.me id args m=none->o.old.me ae id args m=none):=fun h=>by simp only [bW.old,h]
theorem aie {o:bW} {all:List Oper} {s s':St} {op:Oper} {C:bO} {f:Operand} {args:Array Operand} {ats:Array TypeId} (hs:s.ks=[]) (hop:op.op = .call ⟨.value f,args,ats⟩)
  (hC:chainOf all s.tg op.guard=some C) (hu:gq s.tg C op.op.operands.toList=true) (h:(Ej ae o s C op.dst (bE s.ts f) (dC s.ts args.toList)).run=some s'):nL T o all s op s':=by
 have haop:dw ae T o.old s.ts s.m op.op=kT ae o.old s.m (bE s.ts f) (dC s.ts args.toList):=by rw [hop]; rfl
 have hqc:iJ ae o.old s.ts s.m op.op=(match bE s.ts f with
  | .fn (.func id) first cap=>match o.old.me ae id (bK first (bK (dC s.ts args.toList) cap)) s.m with | none=>true | some _=>false
  | _=>true):=by rw [hop]; rfl
 unfold Ej at h
 split at h
 ·rename_i id first cap hf
  rw [hf] at haop hqc
  simp only [kT] at haop hqc
  split at h
  ·rename_i c hc
   exact aid hs hop hC hu (fun r hr=>by rw [haop,hr]) hc h
  ·rename_i hc
   rw [X9 hc] at haop hqc
   cases hp:o.pu id (borrows s.m (bK first (bK (dC s.ts args.toList) cap))) with
   | none=>rw [hp] at h; cases h
   | some c=>rw [hp] at h; exact QM hs hop hC hu hqc haop hp h
 ·rename_i id first cap hf
  rw [hf] at haop hqc
  simp only [kT] at haop hqc
  cases hp:o.pu id (bK first (bK (borrows s.m (dC s.ts args.toList)) cap)) with
  | none=>rw [hp] at h; cases h
  | some c=>rw [hp] at h; exact QM hs hop hC hu hqc haop hp h
 ·cases h
theorem Ya {o:bW} {all:List Oper} {s s':St} {op:Oper} (hs:s.ks=[]) (h:(stepT ae T o all s op).run=some s'):nL T o all s op s':=by
 unfold stepT at h
 split at h
 ·cases h
 unfold Qm at h
 unfold Ql at h
 split at h
 ·rename_i f args ats hop
  split at h
  ·cases h
  ·rename_i C hC
   split at h
   ·cases h
   ·rename_i hu
    exact aie hs hop hC hu h
 ·rename_i hno
  exact QL hs hno h
theorem aif {o:bW} {all:List Oper}:∀ {l:List Oper} {s s':St},s.ks=[]->(Em ae T o all l s).run=some s'->s'.ks=[]/\∀ k0,aG k0->∃ K,aG K/\sP ae T o.old all l ⟨s.ts,s.m,s.tg,k0⟩=⟨s'.ts,s'.m,s'.tg,K⟩:=by
 intro l
 induction l with
 | nil=>intro s s' hs h; cases h; exact ⟨hs,fun k0 hk=>⟨k0,hk,rfl⟩⟩
 | cons op l ih =>
  intro s s' hs h
  rw [Em,Tree.run_bind (xq _ _ _ _ _ _)] at h
  cases h1:(stepT ae T o all s op).run with
  | none=>rw [h1] at h; cases h
  | some s1 =>
   rw [h1] at h
   obtain ⟨C,v,m1,ks,inv,q1,q2,q3⟩:=Ya hs h1
   obtain ⟨r1,r2⟩:=ih (s:=s1) (by rw [q3]) h
   refine ⟨r1,fun k0 hk=>?_⟩
   obtain ⟨e1,e2⟩:=X7 q2 k0
   have hK:aG (jQ k0 ks):=aG.cat.2 ⟨hk,e2⟩
   obtain ⟨K,k1,k2⟩:=r2 (jQ k0 ks) hK
   refine ⟨K,k1,?_⟩
   show sP ae T o.old all l (eH ae T o.old all ⟨s.ts,s.m,s.tg,k0⟩ op)=_
   rw [Jq,q1]
   show sP ae T o.old all l (lay ⟨s.ts,s.m,s.tg,k0⟩ C op.dst v m1 ks inv)=_
   rw [e1]
   rw [q3] at k2
   exact k2
def Jr (v:AV):Prop:=(∀ b n,v≠.own b n)/\∀ b,v≠.bz b
theorem aih {f:Operand} {args:Array Operand} {ats:Array TypeId} {v:AV} (h:Jr v):qi T (.call ⟨.value f,args,ats⟩) true v=true:=by
 cases v <;> first | rfl | exact absurd rfl (h.1 _ _) | exact absurd rfl (h.2 _)
theorem QN {o:bW} {all:List Oper} {s:St} {op:Oper} {C:bO} {v:AV} {m1:Mem} {ks:List Bool} {inv:Option Nat} (hp:kM ae T o.old all s.ts s.m s.tg op=some (C,v,m1,ks,inv))
  (hq:(∃ a b c,op.op = .pick a b c)\/qi T op.op (iJ ae o.old s.ts s.m op.op) (dw ae T o.old s.ts s.m op.op).v=true):jV ae T o.old all s op=some (C,v,ks)/\m1=s.m/\inv=none:=by
 unfold kM at hp
 unfold jV
 cases hC:chainOf all s.tg op.guard with
 | none=>rw [hC] at hp; cases hp
 | some C' =>
  rw [hC] at hp
  simp only at hp ⊢
  rcases hq with ⟨a,b,c,hop⟩ | hq
  ·rw [hop] at hp ⊢
   simp only [Bf,tN] at hp ⊢
   split at hp
   ·cases hp; rename_i h1 h2; exact ⟨by simp only [h1,h2],rfl,rfl⟩
   ·cases hp
  ·obtain ⟨e1,e2⟩:=Ub (T:=T) ae o.old s op.op hq
   have hp1:lF ae T o.old s.ts s.m s.tg C' op.op=some (C,v,m1,ks,inv):=by
    revert hp; generalize op.op=oo at hq
    cases oo <;> first | exact fun h=>h | (simp [qi,kU] at hq)
   have he:tN ae T o.old s C' op.op=qj ae T o.old s C' op.op:=by
    revert hq; generalize op.op=oo
    cases oo <;> intro hq <;> first | rfl | (simp [qi,kU] at hq)
   rw [he]
   unfold qj
   unfold lF at hp1
   cases hu:gq s.tg C' op.op.operands.toList with
   | false=>rw [hu] at hp1; cases hp1
   | true =>
    rw [hu] at hp1
    simp only at hp1
    cases C' with
    | nil =>
     cases hp1
     refine ⟨?_,e1,e2⟩
     show (match true,(some true:Option Bool) with
      | true,some g=>match dw ae T o.old s.ts s.m op.op with
       | r=>match qi T op.op (iJ ae o.old s.ts s.m op.op) r.v with
        | true=>some (([]:bO),r.v,r.ks)
        | false=>none
      | _,_=>none)=_
     simp only [hq]
    | cons x C' =>
     simp only at hp1
     unfold rU at hp1
     cases hg:lN ae s.ts (x::C') with
     | none=>rw [hg] at hp1; cases hp1
     | some g =>
      rw [hg] at hp1
      simp only [hq] at hp1 ⊢
      cases hqo:kU T op.op with
      | true=>rw [hqo] at hp1; cases hp1; exact ⟨rfl,rfl,rfl⟩
      | false =>
       rw [hqo] at hp1
       simp only at hp1
       split at hp1
       ·split at hp1 <;> first | (cases hp1; done) | (cases hp1; exact ⟨rfl,rfl,rfl⟩)
       ·cases hp1
theorem aii {s s':St} {C:bO} {dst:Option Nat} {oo:Bool} {c:rO} (h:(AY ae s C dst oo (some c)).run=some s'):(oU ae s C dst oo (some c)).run=some s'/\(C=[]->∃ a,c.t.run=some a/\Jr (dR s.m oo [] (c.r a)).v):=by
 cases C with
 | cons x C=>exact ⟨h,fun e=>by cases e⟩
 | nil =>
  simp only [AY,oU,Tree.run] at h ⊢
  cases hr:c.t.run with
  | none=>rw [hr] at h; cases h
  | some a =>
   rw [hr] at h
   have h:(match (dR s.m oo [] (c.r a)).v with
    | .own _ _=>Tree.fail
    | .bz _=>Tree.fail
    | v=>iU (lay s [] dst v s.m (dR s.m oo [] (c.r a)).ks none)).run=some s':=h
   have key:Jr (dR s.m oo [] (c.r a)).v/\(iU (lay s [] dst (dR s.m oo [] (c.r a)).v s.m (dR s.m oo [] (c.r a)).ks none)).run=some s':=by
    generalize (dR s.m oo [] (c.r a)).v=v at h
    cases v <;> first | (cases h; done) | exact ⟨⟨(fun _ _ e=>by cases e),fun _ e=>by cases e⟩,h⟩
   obtain ⟨hn,h⟩:=key
   refine ⟨?_,fun _=>⟨a,rfl,hn⟩⟩
   show (iU (lay s [] dst (dR s.m oo [] (c.r a)).v (dR s.m oo [] (c.r a)).m (dR s.m oo [] (c.r a)).ks (dR s.m oo [] (c.r a)).inv)).run=some s'
   have hm:(dR s.m oo [] (c.r a)).m=s.m/\(dR s.m oo [] (c.r a)).inv=none:=by
    revert hn
    cases c.r a with
    | val v=>intro _; simp only [dR]; cases oo <;> first | exact ⟨rfl,rfl⟩ | (simp only; cases pR v <;> exact ⟨rfl,rfl⟩)
    | fresh e sz n d=>intro hn; cases oo with
     | true=>exact absurd rfl (hn.1 _ _)
     | false=>exact ⟨rfl,rfl⟩
    | nY e u l =>
     intro hn
     simp only [dR] at hn ⊢
     cases hb:BL oo (lL u) with
     | true=>simp only [hb] at hn; exact absurd rfl (hn.2 _)
     | false=>exact ⟨rfl,rfl⟩
    | pU e u l =>
     intro hn
     simp only [dR] at hn ⊢
     cases hb:lL u <;> exact ⟨rfl,rfl⟩
   rw [hm.1,hm.2]; exact h
def Yb (T:aX) (o:bW) (all:List Oper) (s:St) (op:Oper) (s':St):Prop:=nL T o all s op s'/\∃ e,jV ae T o.old all s op=some e
theorem aij {o:bW} {all:List Oper} {s s':St} {op:Oper} (hs:s.ks=[]) (h:(AZ ae T o all s op).run=some s'):Yb T o all s op s':=by
 unfold AZ at h
 split at h
 ·cases h
 unfold Qo at h
 split at h
 ·rename_i f args ats hop
  split at h
  ·cases h
  ·rename_i C hC
   split at h
   case h_2=>cases h
   rename_i g hu hg
   have haop:dw ae T o.old s.ts s.m op.op=kT ae o.old s.m (bE s.ts f) (dC s.ts args.toList):=by rw [hop]; rfl
   have hqc:iJ ae o.old s.ts s.m op.op=(match bE s.ts f with
    | .fn (.func id) first cap=>match o.old.me ae id (bK first (bK (dC s.ts args.toList) cap)) s.m with | none=>true | some _=>false
    | _=>true):=by rw [hop]; rfl
   have fin:∀ {id:Nat} {bargs:List AV} {oo:Bool} {c:rO},iJ ae o.old s.ts s.m op.op=true->dw ae T o.old s.ts s.m op.op=lM ae o.old s.m id bargs oo->o.pu id bargs=some c ->
     (AY ae s C op.dst oo (some c)).run=some s'->Yb T o all s op s':=by
    intro id bargs oo c hq ha hc h
    obtain ⟨h1,h2⟩:=aii h
    have hst:=QM hs hop hC hu hq ha hc h1
    refine ⟨hst,?_⟩
    obtain ⟨C',v,m1,ks,inv,q1,q2,q3⟩:=hst
    have hCC:C'=C:=by
     have:=q1
     unfold kM at this
     rw [hC,hop] at this
     simp only [Bf,lF] at this
     split at this
     ·cases this
     ·cases C with
      | nil=>cases this; rfl
      | cons x C =>
       simp only [rU] at this
       split at this
       ·cases this
       ·split at this
        ·cases this; rfl
        ·split at this <;> first | (cases this; done) | (cases this; rfl)
    subst hCC
    refine ⟨_,(QN q1 (.inr ?_)).1⟩
    rw [hq,hop]
    refine aih ?_
    rw [<- hop]
    cases C' with
    | nil =>
     obtain ⟨a,hr,hn⟩:=h2 rfl
     have hold:o.old.pu ae id bargs=some ⟨c.r (c.t.run.getD c.d),[c.t.run.isSome]⟩:=by simp only [bW.old,hc]
     rw [ha,XM,hold,hr]
     have hks:aG (dR s.m oo [] (c.r a)).ks:=by
      simp only [oU,Tree.run,hr] at h1
      have h1:(iU (lay s [] op.dst (dR s.m oo [] (c.r a)).v (dR s.m oo [] (c.r a)).m (dR s.m oo [] (c.r a)).ks (dR s.m oo [] (c.r a)).inv)).run=some s':=h1
      exact (mo (Be h1).1).2
     show Jr (dR s.m oo [true] (c.r a)).v
     rw [X8 hks true]; exact hn
    | cons x C' =>
     unfold kM at q1
     rw [hC,hop] at q1
     simp only [Bf,lF] at q1
     split at q1
     ·cases q1
     ·simp only [rU] at q1
      split at q1
      ·cases q1
      ·split at q1
       ·rename_i hqq; cases hqq
       ·rw [hop]
        generalize (dw ae T o.old s.ts s.m (.call ⟨.value f,args,ats⟩)).v=vv at q1
        generalize iJ ae o.old s.ts s.m (.call ⟨.value f,args,ats⟩)=qq at q1
        cases qq <;> cases vv <;> first | (cases q1; done) | exact ⟨(fun _ _ e=>by cases e),fun _ e=>by cases e⟩
   unfold Qn at h
   split at h
   ·rename_i id first cap hf
    rw [hf] at haop hqc
    simp only [kT] at haop hqc
    split at h
    ·cases h
    ·rename_i hc
     rw [X9 hc] at haop hqc
     cases hp:o.pu id (borrows s.m (bK first (bK (dC s.ts args.toList) cap))) with
     | none=>rw [hp] at h; cases h
     | some c=>rw [hp] at h; exact fin hqc haop hp h
   ·rename_i id first cap hf
    rw [hf] at haop hqc
    simp only [kT] at haop hqc
    cases hp:o.pu id (bK first (bK (borrows s.m (dC s.ts args.toList)) cap)) with
    | none=>rw [hp] at h; cases h
    | some c=>rw [hp] at h; exact fin hqc haop hp h
   ·cases h
 ·rename_i a b c hop
  have hst:=QL (o:=o) hs (fun f args ats e=>by rw [hop] at e; cases e) h
  refine ⟨hst,?_⟩
  obtain ⟨C',v,m1,ks,inv,q1,q2,q3⟩:=hst
  exact ⟨_,(QN q1 (.inl ⟨a,b,c,hop⟩)).1⟩
 ·rename_i hno hnp
  split at h
  ·rename_i hq
   have hst:=QL (o:=o) hs hno h
   refine ⟨hst,?_⟩
   obtain ⟨C',v,m1,ks,inv,q1,q2,q3⟩:=hst
   refine ⟨_,(QN q1 (.inr ?_)).1⟩
   unfold qi; rw [hq]
  ·cases h
theorem Yc {o:bW} {all:List Oper}:∀ {l:List Oper} {s s':St},s.ks=[]->(A7 ae T o all l s).run=some s'->s'.ks=[]/\∀ k0,aG k0->∃ K,aG K/\nE ae T o.old all l ⟨s.ts,s.m,s.tg,k0⟩=⟨s'.ts,s'.m,s'.tg,K⟩:=by
 intro l
 induction l with
 | nil=>intro s s' hs h; cases h; exact ⟨hs,fun k0 hk=>⟨k0,hk,rfl⟩⟩
 | cons op l ih =>
  intro s s' hs h
  rw [A7,Tree.run_bind (XT _ _ _ _ _ _)] at h
  cases h1:(AZ ae T o all s op).run with
  | none=>rw [h1] at h; cases h
  | some s1 =>
   rw [h1] at h
   obtain ⟨⟨C,v,m1,ks,inv,q1,q2,q3⟩,e,he⟩:=aij hs h1
   obtain ⟨r1,r2⟩:=ih (s:=s1) (by rw [q3]) h
   refine ⟨r1,fun k0 hk=>?_⟩
   obtain ⟨e1,e2⟩:=X7 q2 k0
   have hK:aG (jQ k0 ks):=aG.cat.2 ⟨hk,e2⟩
   obtain ⟨K,k1,k2⟩:=r2 (jQ k0 ks) hK
   refine ⟨K,k1,?_⟩
   have he':jV ae T o.old all ⟨s.ts,s.m,s.tg,k0⟩ op=some e:=he
   show nE ae T o.old all l (nD ae T o.old all ⟨s.ts,s.m,s.tg,k0⟩ op)=_
   have e3:nD ae T o.old all ⟨s.ts,s.m,s.tg,k0⟩ op=eH ae T o.old all ⟨s.ts,s.m,s.tg,k0⟩ op:=by
    rw [Cu he']; unfold nD; rw [he']
   rw [e3,Jq,q1]
   show nE ae T o.old all l (lay ⟨s.ts,s.m,s.tg,k0⟩ C op.dst v m1 ks inv)=_
   rw [e1]
   rw [q3] at k2
   exact k2
end Go.aT
