/- A region whose first operations leave memory alone, and whose others wait for all of these: the first ones come to one state. -/
import Derived.Test.YtjkhncojgilbaaaGreatDoorEngPa
namespace Go.aT
open Go Go.RowKit
variable {P:Program} {T:aX} {base:Env} {w:World} {S:Nat->Prop} {m:aY} {M:Mem}
def oG:List Nat->Nat->Nat
 | [],_=>0
 | a::_,0=>a
 | _::l,n+1=>oG l n
def yV (ms:List Nat):List Nat->Nat
 | []=>0
 | k::l=>((1 <<< k) ||| oG ms k) ||| yV ms l
def masks:List Oper->List Nat->List Nat
 | [],ms=>ms
 | o::l,ms=>masks l (ms++[yV ms (fJ o)])
def yX (ops:Array Oper) (n0:Nat):Bool :=
 Nat.ble n0 ops.size&&(List.range ops.size).all fun j=>Nat.blt j n0||(List.range n0).all fun i=>Nat.testBit (oG (masks ops.toList []) j) i
theorem adj (l k:List Nat) (i:Nat):oG (l++k) i=if i<l.length then oG l i else oG k (i-l.length):=by
 induction l generalizing i with
 | nil=>simp
 | cons a l ih=>cases i with
  | zero=>simp [oG]
  | succ i=>simp only [List.cons_append,oG,ih,List.length_cons]; simp
theorem Ur {ms:List Nat} {b:Nat}:∀ {l:List Nat},Nat.testBit (yV ms l) b=true->∃ k∈l,k=b\/Nat.testBit (oG ms k) b=true
 | [],h=>by simp [yV] at h
 | k::l,h=>by
  simp only [yV,Nat.testBit_or,Bool.or_eq_true] at h
  rcases h with (h | h) | h
  ·refine ⟨k,by simp,.inl ?_⟩
   rw [Nat.shiftLeft_eq,Nat.one_mul,Nat.testBit_two_pow] at h
   exact of_decide_eq_true h
  ·exact ⟨k,by simp,.inr h⟩
  ·obtain ⟨j,hj,hh⟩:=Ur h
   exact ⟨j,by simp [hj],hh⟩
theorem adk (all:List Oper) (hback:∀ (i:Nat) (o:Oper),all[i]? = some o->∀ k∈fJ o,k<i) (L:Nat->Prop) (hcl:∀ (j:Nat) (o:Oper),L j->all[j]? = some o->∀ k∈fJ o,L k) :
  ∀ (l pre:List Oper) (ms:List Nat),all=pre++l->ms.length=pre.length ->
   (∀ i o,i<ms.length->all[i]? = some o->(∀ k∈fJ o,L k)->∀ b,Nat.testBit (oG ms i) b=true->L b) ->
   ∀ i o,all[i]? = some o->(∀ k∈fJ o,L k)->∀ b,Nat.testBit (oG (masks l ms) i) b=true->L b:=by
 intro l
 induction l with
 | nil =>
  intro pre ms ha hl hms i o hi hp b hb
  simp only [masks] at hb
  refine hms i o ?_ hi hp b hb
  have:=(List.getElem?_eq_some_iff.1 hi).1
  rw [ha,List.append_nil] at this; omega
 | cons o l ih =>
  intro pre ms ha hl hms
  simp only [masks]
  refine ih (pre++[o]) _ (by rw [ha]; simp) (by simp [hl]) ?_
  intro i o' hi ho' hp b hb
  rw [adj] at hb
  by_cases hlt:i<ms.length
  ·rw [if_pos hlt] at hb
   exact hms i o' hlt ho' hp b hb
  ·rw [if_neg hlt] at hb
   have e:i=ms.length:=by simp at hi; omega
   subst e
   rw [Nat.sub_self] at hb
   have hb:Nat.testBit (yV ms (fJ o)) b=true:=hb
   have eo:o'=o:=by
    rw [ha,hl] at ho'
    simp at ho'
    exact ho'.symm
   subst eo
   obtain ⟨k,hk,hh⟩:=Ur hb
   have hLk:=hp k hk
   rcases hh with rfl | hh
   ·exact hLk
   ·have hklt:=hback _ _ ho' k hk
    obtain ⟨ok,hok⟩:∃ ok,all[k]? = some ok:=by
     have:=(List.getElem?_eq_some_iff.1 ho').1
     exact ⟨all[k]'(by omega),List.getElem?_eq_getElem _⟩
    exact hms k ok hklt hok (hcl k ok hLk hok) b hh
theorem adl {ops:Array Oper} {n0:Nat} (hback:∀ (i:Nat) (o:Oper),ops[i]? = some o->∀ k∈fJ o,k<i) (h:yX ops n0=true) {L:Nat->Prop} (hcl:∀ (j:Nat) (o:Oper),L j->ops[j]? = some o->∀ k∈fJ o,L k)
  {j:Nat} {o:Oper} (hj:ops[j]? = some o) (hn:n0<=j) (hp:∀ k∈fJ o,L k):∀ i,i<n0->L i:=by
 intro i hi
 unfold yX at h
 rw [Bool.and_eq_true,List.all_eq_true] at h
 have h1:=h.2 j (by rw [List.mem_range]; exact (Array.getElem?_eq_some_iff.1 hj).1)
 rw [Bool.or_eq_true,List.all_eq_true] at h1
 rcases h1 with h1 | h1
 ·have:j<n0:=Nat.blt_eq▸h1
  omega
 ·have h2:=h1 i (by rw [List.mem_range]; exact hi)
  exact adk ops.toList (fun i o hi=>hback i o (by rwa [Array.getElem?_toList] at hi)) L (fun j o hl hj=>hcl j o hl (by rwa [Array.getElem?_toList] at hj)) ops.toList [] [] rfl rfl (fun i o hi=>absurd hi (Nat.not_lt_zero _)) j o (by rw [Array.getElem?_toList]; exact hj) hp i h2
theorem adm {l:List Oper} {n j:Nat} {o:Oper} (h:sO (l.take n) j=some o):sO l j=some o:=by
 rw [Co] at h ⊢
 rw [List.getElem?_take] at h
 split at h
 ·exact h
 ·cases h
theorem adn {l:List Oper} {n:Nat} {tg:fM} {g:Option (Nat×Bool)} {C:bO} (h:chainOf (l.take n) tg g=some C):chainOf l tg g=some C:=by
 cases g with
 | none=>exact h
 | some x =>
  obtain ⟨j,b⟩:=x
  simp only [chainOf] at h ⊢
  split at h
  ·rename_i d op ty pos af gu hd
   rw [adm hd]
   exact h
  ·cases h
theorem ado {p:bg} {call:dD} {l:List Oper} {n:Nat} {s:St} {o:Oper} {e:bO×AV×List Bool} (h:jV p T call (l.take n) s o=some e):jV p T call l s o=some e:=by
 unfold jV at h ⊢
 split at h
 ·cases h
 ·rename_i C hC
  rw [adn hC]
  exact h
theorem adp (hT:bG P T) {call:dD} (hcall:Sound P call) {ops:Array Oper} {n0:Nat} (hback:∀ (i:Nat) (o:Oper),ops[i]? = some o->∀ k∈fJ o,k<i) (hchk:yX ops n0=true)
  {ops':Array Oper} (hops:ops'.toList=ops.toList.take n0) (hd:ql ops') {s0:St} (h0:s0.tg=[]) {Q:Exit->Act->World->Prop}
  (hk:aG (eP ae T call ops' s0 ops'.size).ks) {w0:World} {S0:Nat->Prop}
  (hfin:∀ (listed:Array Bool) (a:Act) (w:World) (S:Nat->Prop) (m:aY),listed.size=ops.size->(∀ i,i<ops.size->listed.getD i false=Nat.blt i n0)->bX base.Z w0 w->(∀ b,S0 b->S b)->(∀ b,S b->S0 b\/¬ base.Z b) ->
   aV base w S m (eP ae T call ops' s0 ops'.size).m->dQ base.old w S m a (eP ae T call ops' s0 ops'.size)->wpAny P .any ops Q (ops.size-n0) listed a w) :
  ∀ (fuel:Nat) (listed:Array Bool) (rem:List Nat) {w:World} {S:Nat->Prop} {m:aY} {a:Act} {h:St},
   listed.size=ops.size->fuel=rem.length+(ops.size-n0)->rem.Nodup->(∀ i,i<n0->(listed.getD i false=false↔i∈rem))->(∀ i∈rem,i<n0)->(∀ i,n0<=i->i<ops.size->listed.getD i false=false) ->
   (∀ (j:Nat) (o':Oper),Listed ops' listed j->ops'[j]? = some o'->∀ k∈fJ o',Listed ops' listed k) ->
   mE ops' s0 (eP ae T call ops' s0 ops'.size) (Listed ops' listed) h->bX base.Z w0 w->(∀ b,S0 b->S b)->(∀ b,S b->S0 b\/¬ base.Z b)->aV base w S m h.m->dQ base.old w S m a h->wpAny P .any ops Q fuel listed a w:=by
 have hn0:n0<=ops.size:=by
  unfold yX at hchk
  rw [Bool.and_eq_true] at hchk
  exact Nat.le_of_ble_eq_true hchk.1
 have hsz':ops'.size=n0:=by
  rw [<- Array.length_toList,hops,List.length_take,Array.length_toList]; omega
 have hget:∀ i,i<n0->ops'[i]? = ops[i]?:=fun i hi=>by
  rw [<- Array.getElem?_toList,hops,List.getElem?_take,if_pos hi,Array.getElem?_toList]
 have hget':∀ (i:Nat) (o:Oper),ops'[i]? = some o->i<n0/\ops[i]? = some o:=fun i o h=>by
  have hi:i<n0:=by rw [<- hsz']; exact (Array.getElem?_eq_some_iff.1 h).1
  exact ⟨hi,by rw [<- hget i hi]; exact h⟩
 have fin:∀ (listed:Array Bool) {w:World} {S:Nat->Prop} {m:aY} {a:Act} {h:St},listed.size=ops.size->(∀ i,i<ops.size->listed.getD i false=Nat.blt i n0)->(∀ i,i<n0->Listed ops' listed i)->mE ops' s0 (eP ae T call ops' s0 ops'.size) (Listed ops' listed) h ->
   bX base.Z w0 w->(∀ b,S0 b->S b)->(∀ b,S b->S0 b\/¬ base.Z b)->aV base w S m h.m->dQ base.old w S m a h->wpAny P .any ops Q (ops.size-n0) listed a w:=fun listed {w S m a h} hsz hl hall hh hP hS hU hM hF=>by
  have hsn:=tO (p:=ae) (T:=T) (call:=call) hd h0 hk ops'.size (Nat.le_refl _)
  have eqt:∀ t,nth h.ts t=nth (eP ae T call ops' s0 ops'.size).ts t/\bU h.tg t=bU (eP ae T call ops' s0 ops'.size).tg t:=fun t=>by
   by_cases hw:Wr ops' (Listed ops' listed) t
   ·exact hh.wr t hw
   ·have hw':¬ Wr ops' (fun j=>j<ops'.size) t:=fun ⟨j,o,hj,ho,hdj⟩=>hw ⟨j,o,hall j (by have hj:j<ops'.size:=hj; omega),ho,hdj⟩
    obtain ⟨a1,a2⟩:=hh.un t hw
    obtain ⟨b1,b2⟩:=hsn.un t hw'
    exact ⟨a1.trans b1.symm,a2.trans b2.symm⟩
  refine hfin listed a w S m hsz hl hP hS hU (by rw [hsn.m,<- hh.m]; exact hM) ⟨?_,hF.defers,fun t ht=>?_,fun t=>?_⟩
  ·rw [hF.size,hh.len,hsn.len]
  ·rw [<- (eqt t).1]; exact hF.rel t (by rw [(eqt t).2]; exact ht)
  ·rw [<- (eqt t).2]; exact hF.skip t
 intro fuel
 induction fuel with
 | zero =>
  intro listed rem w S m a h hsz hfu hnd hrem hlt0 hsuf hcl hh hP hS hU hM hF
  have hr0:rem=[]:=List.length_eq_zero_iff.1 (by omega)
  have e0:ops.size-n0=0:=by omega
  have hall:∀ i,i<n0->listed.getD i false=true:=fun i hi=>by
   cases e:listed.getD i false with
   | true=>rfl
   | false=>have:=(hrem i hi).1 e; rw [hr0] at this; cases this
  have:=fin listed hsz (fun i hi=>by
   by_cases hin:i<n0
   ·rw [hall i hin]; exact (show Nat.blt i n0=true from Nat.blt_eq▸hin).symm
   ·omega) (fun i hi=>⟨by omega,hall i hi⟩) hh hP hS hU hM hF
  rw [e0] at this
  exact this
 | succ fuel ih =>
  intro listed rem w S m a h hsz hfu hnd hrem hlt0 hsuf hcl hh hP hS hU hM hF
  by_cases hr0:rem=[]
  ·have hall:∀ i,i<n0->listed.getD i false=true:=fun i hi=>by
    cases e:listed.getD i false with
    | true=>rfl
    | false=>have:=(hrem i hi).1 e; rw [hr0] at this; cases this
   have:=fin listed hsz (fun i hi=>by
    by_cases hin:i<n0
    ·rw [hall i hin]; exact (show Nat.blt i n0=true from Nat.blt_eq▸hin).symm
    ·rw [hsuf i (by omega) hi]
     cases hb:Nat.blt i n0 with
     | false=>rfl
     | true=>exact absurd (Nat.blt_eq▸hb) hin) (fun i hi=>⟨by omega,hall i hi⟩) hh hP hS hU hM hF
   rw [hr0] at hfu
   have e:fuel+1=ops.size-n0:=by simpa using hfu
   rw [e]; exact this
  ·
   obtain ⟨i1,hi1⟩:=List.exists_mem_of_ne_nil rem hr0
   have hi1n:=hlt0 i1 hi1
   have hi1f:=(hrem i1 hi1n).2 hi1
   have hLcl:∀ (j:Nat) (o':Oper),Listed ops listed j->ops[j]? = some o'->∀ k∈fJ o',Listed ops listed k:=fun j o' hj ho' k hkp=>by
    have hjn:j<n0:=by
     by_cases hjn:j<n0
     ·exact hjn
     ·have:=hsuf j (by omega) hj.1
      rw [hj.2] at this; cases this
    obtain ⟨q1,q2⟩:=hcl j o' ⟨by omega,hj.2⟩ (by rw [hget j hjn]; exact ho') k hkp
    exact ⟨by omega,q2⟩
   have hnosuf:∀ i o,ops[i]? = some o->n0<=i->(∀ k∈fJ o,Listed ops listed k)->False:=fun i o ho hi hp=>by
    have:=adl hback hchk hLcl ho hi hp i1 hi1n
    have:=this.2
    rw [hi1f] at this
    cases this
   refine ⟨fun hr=>?_,fun i hi=>?_⟩
   ·
    exfalso
    have hall:∀ i,i<n0->listed.getD i false=true:=by
     intro i
     induction i using Nat.strongRecOn with
     | _ i ih2 =>
      intro hin
      cases e:listed.getD i false with
      | true=>rfl
      | false =>
       have hlt:i<ops.size:=by omega
       have hg:=Array.getElem?_eq_getElem hlt
       have:i∈Region.ready .any ops listed:=by
        rw [mem_ready]
        refine ⟨by rw [CG (by omega)]; exact e,_,hg,fun e' he hb=>?_⟩
        have hlt':=hback i _ hg _ (Uf (ops:=ops) he hb)
        exact ih2 _ hlt' (by omega)
       rw [hr] at this; cases this
    rw [hall i1 hi1n] at hi1f
    cases hi1f
   ·obtain ⟨h1,o,ho,hpr⟩:=mem_ready.1 hi
    have hlt:=(Array.getElem?_eq_some_iff.1 ho).1
    rw [CG (by omega)] at h1
    have hpL:∀ j∈fJ o,Listed ops listed j:=fun j hj=>by
     obtain ⟨e,he,hb,rfl⟩:=Ug hj
     have:=hback i o ho _ hj
     exact ⟨by omega,hpr e he hb⟩
    have hin:i<n0:=by
     by_cases hin:i<n0
     ·exact hin
     ·exact (hnosuf i o ho (by omega) hpL).elim
    have ho':ops'[i]? = some o:=by rw [hget i hin]; exact ho
    have hL:¬ Listed ops' listed i:=fun x=>by have:=x.2; rw [h1] at this; cases this
    have hp:∀ j∈fJ o,Listed ops' listed j:=fun j hj=>⟨by have:=hback i o ho j hj; omega,(hpL j hj).2⟩
    have hs:=tO (p:=ae) (T:=T) (call:=call) hd h0 hk i (by omega)
    have hag:=hs.agree hd ho' hh hL hp hcl
    have hks:=CF hk (k:=i+1) (by omega)
    have es:=CE (T:=T) (p:=ae) (call:=call) (s0:=s0) ho'
    rw [es] at hks
    unfold nD at hks
    obtain ⟨C,v,ks,he,_,hkk⟩:=Cy hks
    rw [he] at hks
    have he':=Ud hag he
    have he2:jV ae T call ops.toList h o=some (C,v,ks):=by
     rw [hops] at he'
     exact ado he'
    have eL:(fun j=>Listed ops' listed j\/j=i)=Listed ops' (listed.setIfInBounds i true):=by
     funext j; apply propext
     constructor
     ·rintro (⟨hj,hj'⟩ | rfl)
      ·exact ⟨hj,getD_set_true hj'⟩
      ·exact ⟨by omega,by simp [Array.getD_eq_getD_getElem?,hsz,hlt]⟩
     ·rintro ⟨hj,hj'⟩
      by_cases e:i=j
      ·exact .inr e.symm
      ·rw [getD_set_ne false e] at hj'; exact .inl ⟨hj,hj'⟩
    have hstep:mE ops' s0 (eP ae T call ops' s0 ops'.size) (fun j=>Listed ops' listed j\/j=i) (ll h o.dst (some (C,v,ks))):=by
     refine hh.step hd ho' hL hkk ?_ ?_
     ·intro s b hm
      have hC:chainOf ops'.toList h.tg o.guard=some C:=by
       unfold jV at he'
       split at he'
       ·simp at he'
       rename_i C' hC'
       rw [hC']
       unfold tN at he'
       split at he'
       ·split at he'
        ·cases he'; rfl
        ·simp at he'
       ·unfold qj at he'
        split at he'
        ·simp only at he'
         split at he'
         ·cases he'; rfl
         ·simp at he'
        ·simp at he'
      rcases Gq hC with ⟨rfl,_⟩ | ⟨j,b',o',d,hgd,hj,hd',rfl⟩
      ·simp at hm
      ·rcases List.mem_append.1 hm with hm | hm
       ·obtain ⟨C'',h1,h2⟩:=Cx hm
        exact hh.tg _ _ h1 _ _ h2
       ·simp at hm
        obtain ⟨rfl,rfl⟩:=hm
        exact ⟨j,o',hp j (hd.guard i o j b ho' hgd),by rw [<- Array.getElem?_toList]; exact hj,hd'⟩
     ·intro d hdst
      have hsn:=tO (p:=ae) (T:=T) (call:=call) hd h0 hk (i+1) (by omega)
      obtain ⟨a1,a2⟩:=hsn.wr d ⟨i,o,Nat.lt_succ_self i,ho',hdst⟩
      rw [es] at a1 a2
      unfold nD at a1 a2
      rw [he] at a1 a2
      obtain ⟨f1,f2,_,_⟩:=Gp hks
      rw [f1,hdst] at a1
      rw [f2,hdst] at a2
      simp only [Cz,CB,if_true] at a1 a2
      refine ⟨a1.symm.trans ?_,a2.symm⟩
      rw [jS,jS,hs.len]
      by_cases hlt:d<au s0.ts
      ·rw [if_pos ⟨rfl,hlt⟩,if_pos ⟨rfl,hlt⟩]
      ·rw [if_neg (fun x=>hlt x.2),if_neg (fun x=>hlt x.2),kW _ _ (by rw [hs.len]; exact Nat.le_of_not_lt hlt),kW _ _ (Nat.le_of_not_lt hlt)]
    rw [eL] at hstep
    refine vZ hT hcall ho hM hF (s:=h) (by rw [Cu he2]; exact hstep.ks) ?_
    rw [Cu he2]
    intro a' w' S' m' hb hS' hU' hM' hF'
    have hir:i∈rem:=(hrem i hin).1 h1
    refine ih (listed.setIfInBounds i true) (rem.erase i) (by simpa using hsz) ?_ (hnd.erase i) ?_ ?_ ?_ ?_ hstep (hP.trans hb) (fun b h=>hS' b (hS b h)) (fun b h=>(hU' b h).elim (hU b) .inr) hM' hF'
    ·rw [List.length_erase_of_mem hir]
     have:1<=rem.length:=List.length_pos_of_mem hir
     omega
    ·intro j hj
     by_cases e:i=j
     ·subst e
      constructor
      ·intro hf; simp [Array.getD_eq_getD_getElem?,hsz,hlt] at hf
      ·intro hm; exact absurd hm (List.Nodup.not_mem_erase hnd)
     ·rw [getD_set_ne false e,hrem j hj,List.mem_erase_of_ne (Ne.symm e)]
    ·intro j hj; exact hlt0 j (List.mem_of_mem_erase hj)
    ·intro j hj hjs
     rw [getD_set_ne false (by omega)]; exact hsuf j hj hjs
    ·rw [<- eL]
     intro j o'' hj hoj k hkp
     rcases hj with hj | rfl
     ·exact .inl (hcl j o'' hj hoj k hkp)
     ·rw [ho'] at hoj; injection hoj with hoj; subst hoj; exact .inl (hp k hkp)
end Go.aT
