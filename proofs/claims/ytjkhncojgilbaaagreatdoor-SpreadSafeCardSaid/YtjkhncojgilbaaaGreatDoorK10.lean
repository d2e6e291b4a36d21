/- Laws in plain Lean: e10chk e10get e10und e10same e10same2 e10news e10newsr e10put e10join e10joinr e10putr z10. -/
import Derived.Test.YtjkhncojgilbaaaGreatDoorK09
import Derived.Test.YtjkhncojgilbaaaGreatDoorN57
namespace Go.aT
open Go Go.Proofs Go.RowKit
def iD (l:List Entry):Prop:=l.length<=10000/\∀ x∈l,x.1.length<=1000/\x.2.2.1.length<=1000/\x.2.2.2.length<=1000
def wI (x:Entry):Bool:=(decide (1<=x.1.length)&&decide (x.1.length<=128))&&LK x.2
def CO (p:Option Str) (s:Str):Bool:=match p with | none=>true | some p=>eY p s
def tZ (p:Option Str) (x:Entry):Bool:=wI x&&CO p x.1
def CP (l:List Entry):Bool:=decide (l.length<=4096)&&chain tZ (fun _ x=>some x.1) none l
theorem adU (x:Entry) (h:x.2.2.1.length<=1000):(CQ x).run=some (wI x):=by
 unfold CQ wI
 simp only [Tree.run,adT x.2 (by omega),Option.isNone_some,Bool.and_false,cond_false,Option.getD_some]
 have f1:decide ((1:Int)<=(x.1.length:Int))=decide (1<=x.1.length):=by rw [decide_eq_decide]; omega
 have f2:decide ((x.1.length:Int)<=128)=decide (x.1.length<=128):=by rw [decide_eq_decide]; omega
 rw [f1,f2]
def zi (c:List Entry) (i:Nat):Option Str:=if i=0 then none else (c[i-1]?).map fun x=>x.1
theorem adV (c:List Entry) (hc:c.length<=10000) (i:Nat) (hi:i<c.length) (y:Bool):((!((!(!y))&&(decide ((0:Int)<(i:Int)))))||aD (ay ((i:Int)-1)) c.length)=true:=by
 cases i with
 | zero=>simp
 | succ i =>
  have e1:ay (((i+1:Nat):Int)-1)=(i:Int):=by
   show IntKind.i64.wrap _=_
   rw [IntKind.wrap_i64]; omega
  have hi':i<c.length:=by omega
  rw [e1,iR,decide_eq_true hi',Bool.or_true]
theorem adW (c:List Entry) (hc:c.length<=10000) (i:Nat) (hi:i<c.length) (s:Str):((decide ((0:Int)<(i:Int)))&&(!eY (c.getD ((ay ((i:Int)-1)).toNat) (aS bf:Entry)).1 s))=!CO (zi c i) s:=by
 cases i with
 | zero=>rfl
 | succ i =>
  have e1:ay (((i+1:Nat):Int)-1)=(i:Int):=by
   show IntKind.i64.wrap _=_
   rw [IntKind.wrap_i64]; omega
  have hi':i<c.length:=by omega
  have e0:decide ((0:Int)<((i+1:Nat):Int))=true:=by rw [decide_eq_true_eq]; omega
  rw [e1,e0,Int.toNat_natCast,getD_lt _ _ _ hi']
  unfold zi
  rw [if_neg (by omega),Nat.add_sub_cancel,List.getElem?_eq_getElem hi']
  rfl
theorem adX (c:List Entry) (i:Nat) (hi:i<c.length):some c[i].1=zi c (i+1):=by
 unfold zi
 rw [if_neg (by omega),Nat.add_sub_cancel,List.getElem?_eq_getElem hi]; rfl
theorem adY (l:List Entry) (hl:iD l):(wJ l).run=some (CP l):=by
 unfold wJ CP
 have f:decide ((4096:Int)<(l.length:Int))=!decide (l.length<=4096):=by rw [<- decide_not]; congr 1; rw [eq_iff_iff]; omega
 simp only [Tree.run,f]
 rw [adZ (st:=fun v=>(zl l v).run) l tZ (fun _ x=>some x.1) (fun i _=>(i:Int)) (fun i g=>g=zi l i) (Sum.inl false:Bool⊕Unit) (.inr ()) (fun i g hi hg=>by
  subst hg
  have hl1:=hl.1
  refine ⟨?_,fun _=>adX l i hi⟩
  unfold zl tZ
  simp only [Tree.run,Int.ofNat_lt,hi,decide_true,cond_true,iR,Int.toNat_natCast,getD_lt _ _ _ hi,Bool.or_true,adU _ (hl.2 l[i] (List.getElem_mem hi)).2.1,Option.bind_some,di i (by omega),adV l hl1 i hi,adW l hl1 i hi]
  cases wI l[i] <;> cases CO (zi l i) l[i].1 <;> rfl) (fun g _=>by unfold zl; simp [Tree.run]) none rfl (s0:=(0:Int)) rfl]
 cases decide (l.length<=4096) <;> cases chain tZ (fun _ x=>some x.1) none l <;> rfl
def GN (l:List Entry):Prop:=l.Pairwise fun x y=>eY x.1 y.1=true
theorem ad1 {l:List Entry} {p:Option Str} (h:chain tZ (fun _ x=>some x.1) p l=true):(∀ x∈l,CO p x.1=true)/\GN l/\∀ x∈l,wI x=true:=by
 induction l generalizing p with
 | nil=>exact ⟨fun x hx=>absurd hx (by simp),List.Pairwise.nil,fun x hx=>absurd hx (by simp)⟩
 | cons x l ih =>
  simp only [chain,Bool.and_eq_true] at h
  obtain ⟨h1,h2⟩:=h
  obtain ⟨k1,k2,k3⟩:=ih h2
  unfold tZ at h1
  simp only [Bool.and_eq_true] at h1
  refine ⟨fun y hy=>?_,List.Pairwise.cons k1 k2,fun y hy=>?_⟩
  ·rcases List.mem_cons.1 hy with rfl | hy
   ·exact h1.2
   ·have hxy:eY x.1 y.1=true:=k1 y hy
    cases p with
    | none=>rfl
    | some p=>exact LM h1.2 hxy
  ·rcases List.mem_cons.1 hy with rfl | hy
   ·exact h1.1
   ·exact k3 y hy
theorem ad2 {l:List Entry} {p:Option Str} (hp:∀ x∈l,CO p x.1=true) (hs:GN l) (he:∀ x∈l,wI x=true):chain tZ (fun _ x=>some x.1) p l=true:=by
 induction l generalizing p with
 | nil=>rfl
 | cons x l ih =>
  have hs:=List.pairwise_cons.1 hs
  simp only [chain,Bool.and_eq_true]
  refine ⟨?_,ih (fun y hy=>hs.1 y hy) hs.2 (fun y hy=>he y (by simp [hy]))⟩
  unfold tZ
  rw [he x (by simp),hp x (by simp)]; rfl
theorem ad3 (l:List Entry):CP l=true↔l.length<=4096/\GN l/\∀ x∈l,wI x=true:=by
 unfold CP
 rw [Bool.and_eq_true,decide_eq_true_eq]
 exact ⟨fun h=>⟨h.1,(ad1 h.2).2⟩,fun h=>⟨h.1,ad2 (fun _ _=>rfl) h.2.1 h.2.2⟩⟩
def zm (l:List Entry) (k:Str):Option ik:=(l.find? fun x=>x.1==k).map fun x=>x.2
def oL (l:List Entry) (k:Str):ik:=(zm l k).getD (0,([],[]))
theorem ad4 (l:List Entry) (k:Str) (hl:l.length<=1000000):(CS l k).run=some (oL l k):=by
 unfold CS
 simp only [Tree.run]
 have h:=BA (st:=fun v=>(zn l k (0,([],[])) v).run) l (fun x=>x.1==k) (fun i=>(i:Int)) (fun i=>(Sum.inl (l.getD i ([],(0,([],[])))).2:ik⊕Unit)) (.inr ()) (fun i hi=>by
  unfold zn
  simp only [Tree.run,Int.ofNat_lt,hi,decide_true,cond_true,iR,Int.toNat_natCast,getD_lt _ _ _ hi,di i (by omega)]
  cases l[i].1==k <;> rfl) (by unfold zn; simp [Tree.run]) (s0:=(0:Int)) rfl
 unfold oL zm
 rcases h with ⟨h,n⟩ | ⟨i,hi,h,n,_,n2⟩
 ·rw [h]
  have:l.find? (fun x=>x.1==k)=none:=by
   rw [List.find?_eq_none]; intro x hx
   have:=List.any_eq_false.1 n x hx; exact this
  rw [this]; rfl
 ·rw [h]
  have:l.find? (fun x=>x.1==k)=some l[i]:=by
   rw [List.find?_eq_some_iff_getElem]
   exact ⟨n,i,hi,rfl,fun j hj=>by have:=n2 j hj; simpa using this⟩
  rw [this]
  show some (l.getD i _).2=some l[i].2
  rw [getD_lt _ _ _ hi]
theorem ad5 (l:List Entry) (k:Str) (hl:l.length<=1000000):(GQ l k).run=some (oL l k):=by
 unfold GQ
 simp only [Tree.run]
 rw [ad6 l k (fun x=>x.1==k) hl (fun x _=>rfl)]
 unfold oL zm
 simp only [Option.bind_some]
 rcases U2 (fun x:Entry=>x.1==k) l with ⟨h,n⟩ | ⟨i,hi,h,n,_,n2⟩
 ·rw [h]
  have:l.find? (fun x=>x.1==k)=none:=by
   rw [List.find?_eq_none]; intro x hx
   have:=List.any_eq_false.1 n x hx; exact this
  rw [this]; rfl
 ·rw [h]
  have:l.find? (fun x=>x.1==k)=some l[i]:=by
   rw [List.find?_eq_some_iff_getElem]
   exact ⟨n,i,hi,rfl,fun j hj=>by have:=n2 j hj; simpa using this⟩
  rw [this]
  have hn:¬ ((i:Int)<0):=by omega
  simp only [hn,decide_false,cond_false,iR,hi,decide_true,cond_true,Int.toNat_natCast,getD_lt _ _ _ hi]
  rfl
theorem ad7 {l:List Entry} {k:Str} {r:ik} (h:zm l k=some r):(k,r)∈l:=by
 unfold zm at h
 cases hf:l.find? (fun x=>x.1==k) with
 | none=>rw [hf] at h; cases h
 | some x =>
  rw [hf] at h; cases h
  have h1:=List.find?_some hf
  have h2:=List.mem_of_find?_eq_some hf
  have e:x.1=k:=by simpa using h1
  rw [<- e]; exact h2
def jo (p:Str) (x:Entry):Bool:=(p++([47]:Str)).isPrefixOf x.1
theorem ad8 (s p:Str):(GR s p).run=some (p.isPrefixOf s):=by
 unfold GR LP
 have e:jd s 0 (p.length:Int).toNat=s.take p.length:=by simp [jd,ae]
 have h1:((!(decide ((p.length:Int)<=(s.length:Int))))||df (p.length:Int) s.length)=true:=by
  rw [lJ]
  have:decide ((p.length:Int)<=(s.length:Int))=decide (p.length<=s.length):=by rw [decide_eq_decide]; omega
  rw [this]; cases decide (p.length<=s.length) <;> rfl
 simp only [Tree.run,h1,cond_true,Option.bind_some,e]
 congr 1
 rw [Bool.eq_iff_iff,Bool.and_eq_true,decide_eq_true_eq,beq_iff_eq,List.isPrefixOf_iff_prefix]
 constructor
 ·rintro ⟨_,h⟩; rw [<- h]; exact List.take_prefix _ _
 ·intro h
  exact ⟨by have:=h.length_le; omega,List.prefix_iff_eq_take.1 h |>.symm⟩
theorem ad9 (l:List Entry) (p:Str) (hl:iD l) (hp:p.length<=1000):(GU l p).run=some (l.filter (jo p)):=by
 unfold GU
 simp only [Tree.run,aea l (by have:=hl.1; omega),Option.bind_some]
 rw [aeb l p (fun x=>!jo p x) (by have:=hl.1; omega) (fun x _=>by
  have h1:decide (p.length+([47]:Str).length<=9223372036854775807)=true:=by rw [decide_eq_true_eq]; simp; omega
  unfold zo jo
  simp only [Tree.run,h1,cond_true,ad8,Option.bind_some])]
 simp only [Option.bind_some,Bool.not_not]
theorem aec (l:List Entry) (p:Str) (hl:iD l) (hp:p.length<=1000):(GV l p).run=some (l.filter (jo p)):=by
 unfold GV
 simp only [Tree.run]
 rw [aed l (jo p) (fun v=>zq l p v.1 v.2) (by have:=hl.1; omega) (fun i c hi hc=>by
  have hl1:=hl.1
  have hr:decide ((c++[l[i]]).length*56<=bD)=true:=room_le _ _ (by simp; omega) (by omega)
  generalize hx:l[i]=x at hr ⊢
  have e:jd x.1 0 p.length=x.1.take p.length:=by simp [jd,ae]
  have f1:decide ((p.length:Int)<(x.1.length:Int))=decide (p.length<x.1.length):=by rw [decide_eq_decide]; omega
  have h1:((!(decide (p.length<x.1.length)))||df (p.length:Int) x.1.length)=true:=by
   rw [lJ]
   by_cases h:p.length<x.1.length
   ·rw [decide_eq_true h,decide_eq_true (by omega)]; rfl
   ·rw [decide_eq_false h]; rfl
  have h2:((!(decide (p.length<x.1.length)&&(x.1.take p.length==p)))||decide (p.length<x.1.length))=true:=by
   cases decide (p.length<x.1.length) <;> simp
  have h3:((decide (p.length<x.1.length)&&(x.1.take p.length==p))&&decide (gU x.1 (p.length:Int)=47))=jo p x:=by
   unfold jo
   rw [Bool.eq_iff_iff,Bool.and_eq_true,Bool.and_eq_true,decide_eq_true_eq,decide_eq_true_eq,beq_iff_eq,List.isPrefixOf_iff_prefix]
   constructor
   ·rintro ⟨⟨a1,a2⟩,a3⟩
    rw [List.prefix_iff_eq_take]
    have hg:gU x.1 (p.length:Int)=(x.1[p.length].toNat:Int):=by simp [gU,ae,List.getD,a1]
    rw [hg] at a3
    have h47:x.1[p.length]=47:=by
     apply UInt8.toNat_inj.1
     have:x.1[p.length].toNat=47:=by omega
     rw [this]; rfl
    rw [List.length_append,List.length_singleton,List.take_add_one,a2,List.getElem?_eq_getElem a1,h47]; rfl
   ·intro h
    have hlen:=h.length_le
    simp only [List.length_append,List.length_singleton] at hlen
    have ht:=List.prefix_iff_eq_take.1 h
    rw [List.length_append,List.length_singleton,List.take_add_one,List.getElem?_eq_getElem (by omega)] at ht
    have h4:=List.append_inj' ht rfl
    refine ⟨⟨by omega,h4.1.symm⟩,?_⟩
    have hg:gU x.1 (p.length:Int)=(x.1[p.length].toNat:Int):=by simp [gU,ae,List.getD,show p.length<x.1.length by omega]
    have h5:(47:UInt8)=x.1[p.length]:=by have:=h4.2; simpa using this
    rw [hg,<- h5]; rfl
  unfold zq
  simp only [Tree.run,Int.ofNat_lt,hi,decide_true,cond_true,iR,Int.toNat_natCast,getD_lt _ _ _ hi,hx,hr]
  simp only [e,f1,h1,h2,h3,cond_true]
  cases jo p x <;> rfl) (fun c=>by unfold zq; simp [Tree.run])]
 rfl
def uf (x:Entry):Bool:=(decide ((200:Int)<(x.1.length:Int)))||!((decide ((x.2.2.1.length:Int)<=100))&&(decide ((x.2.2.2.length:Int)<=300)))
theorem U3 (l:List Entry) (most:Nat) (hm:most<=1000) (m':Int) (hm':m'=(most:Int)):(CU l m').run=some (mH uf most l):=by
 unfold CU
 refine U4 l most uf (fun v=>zt l m' v) (by omega) m' hm' (fun i hi hm=>?_) (fun i hi=>?_)
 ·have h4:(i:Int)<m':=by omega
  unfold zt LQ uf
  simp only [Tree.run,Int.ofNat_lt,hi,h4,decide_true,cond_true,iR,Int.toNat_natCast,getD_lt _ _ _ hi,Bool.and_true,Bool.or_true,Option.isNone_some,Bool.and_false,cond_false,Option.getD_some]
  generalize ((decide ((200:Int)<(l[i].1.length:Int)))||!((decide ((l[i].2.2.1.length:Int)<=100))&&(decide ((l[i].2.2.2.length:Int)<=300))))=z
  cases z <;> rfl
 ·have:(decide ((i:Int)<(l.length:Int))&&decide ((i:Int)<m'))=false:=by
   simp only [Bool.and_eq_false_iff,decide_eq_false_iff_not]; omega
  unfold zt
  simp only [Tree.run,this,cond_false]
theorem aee {l:List Entry} {most:Nat} (h:mH uf most l=true):∀ x∈l,x.1.length<=1000/\x.2.2.1.length<=1000/\x.2.2.2.length<=1000:=by
 intro x hx
 have:=aef h hx
 unfold uf at this
 simp only [Bool.or_eq_false_iff,Bool.not_eq_false',Bool.and_eq_true,decide_eq_true_eq,decide_eq_false_iff_not] at this
 omega
theorem U5 {l:List Entry} {most:Nat} (hm:most<=1000) (h:mH uf most l=true):iD l:=⟨by have:=LU h; omega,aee h⟩
end Go.aT
