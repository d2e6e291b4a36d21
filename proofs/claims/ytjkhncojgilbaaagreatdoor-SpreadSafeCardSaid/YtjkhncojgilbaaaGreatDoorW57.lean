/- Laws in plain Lean: o14 mm57 w57 h57. -/
import Derived.Test.YtjkhncojgilbaaaGreatDoorP57
import Derived.Test.YtjkhncojgilbaaaGreatDoorC57
namespace Go.aT
open Go Go.Proofs Go.RowKit
theorem ajG {i n:Nat} (h:i<n):aD (i:Int) n=true:=by rw [iR]; exact decide_eq_true h
def uE (n:Int):Str:=([114,105,110,103,47]:Str)++lq n
theorem Zp {n:Nat} (h:n<=1000000):qD (n:Int):=⟨by omega,by omega⟩
theorem ajH {n:Int} (h:qD n):(IJ n).run=some (uE n):=by
 have hl:=(QW h).1
 have hd:(OY n).run=some (lq n):=rfl
 unfold IJ
 refine (aN hd).trans ?_
 refine (aN (agX [([114,105,110,103]:Str),lq n] (by show 2<=_; omega) (by show 4+((lq n).length+0)<=_; omega))).trans ?_
 show some (([114,105,110,103]:Str)++((([47]:Str)++lq n)++[]))=some (([114,105,110,103,47]:Str)++lq n)
 rw [List.append_nil]; rfl
theorem ajI {n:Int} (h:qD n):(zK n).run=some (uE n):=by
 have hl:=(QW h).1
 unfold zK
 refine (aN (agV n h)).trans ?_
 exact aM (decide_eq_true (by show 5+_<=_; omega))
def uF (l:List Entry) (k:Nat):Str:=bif jc (oL l (uE (k:Int))).2.2 then (oL l (uE (k:Int))).2.2 else []
def dY (l:List Entry) (n:Nat):List Str:=(List.range n).map (uF l)
theorem o8 (l:List Entry) (n:Nat):(dY l n).length=n:=by unfold dY; rw [List.length_map,List.length_range]
def l7 (l:List Entry) (n i:Nat):List Str:=dY l i++List.replicate (n-i) []
theorem Zq (l:List Entry) {n i:Nat} (h:i<=n):(l7 l n i).length=n:=by unfold l7; rw [List.length_append,o8,List.length_replicate]; omega
theorem Zr (l:List Entry) {n i:Nat} (h:i<n):(l7 l n i).set i (uF l i)=l7 l n (i+1):=by
 have hr:List.replicate (n-i) ([]:Str)=[]::List.replicate (n-(i+1)) []:=by
  rw [show n-i=(n-(i+1))+1 by omega]; rfl
 unfold l7
 rw [List.set_append_right _ _ (by rw [o8]; exact Nat.le_refl _),o8,Nat.sub_self,hr,List.set_cons_zero]
 unfold dY
 rw [List.range_succ,List.map_append,List.append_assoc]
 rfl
theorem ajJ (l:List Entry) {n i:Nat} (h:i<n) (h1:uF l i=[]):l7 l n i=l7 l n (i+1):=by
 rw [<- Zr l h,h1]
 have hr:List.replicate (n-i) ([]:Str)=[]::List.replicate (n-(i+1)) []:=by
  rw [show n-i=(n-(i+1))+1 by omega]; rfl
 unfold l7
 rw [List.set_append_right _ _ (by rw [o8]; exact Nat.le_refl _),o8,Nat.sub_self,hr,List.set_cons_zero]
theorem Y1 (l:List Entry) (n:Nat) (hl:l.length<=1000000) (h1:1<=n) (h2:n<=4096):(CX l (n:Int)).run=some (dY l n):=by
 have step:∀ i:Nat,i<n->(wZ l (n:Int) (i:Int) (l7 l n i)).run=some (.inl (((i+1:Nat):Int),l7 l n (i+1))):=by
  intro i hi
  unfold wZ
  refine (bA (decide_eq_true (by omega))).trans ?_
  refine (aN (ajH (Zp (by omega)))).trans ?_
  refine (aN (ad5 l _ hl)).trans ?_
  refine (aN (GK _)).trans ?_
  rw [zg i (by omega)]
  cases hn:jc (oL l (uE (i:Int))).2.2 with
  | false =>
   refine (bn rfl).trans ?_
   rw [<- ajJ l hi (by unfold uF; rw [hn]; rfl)]
   rfl
  | true =>
   refine (bA rfl).trans ?_
   refine (aM (ajG (by rw [Zq l (by omega)]; omega))).trans ?_
   rw [<- Zr l hi,Int.toNat_natCast,show uF l i=(oL l (uE (i:Int))).2.2 from by unfold uF; rw [hn]; rfl]
   rfl
 have hm:(IG (n:Int)).run=some true:=by
  unfold IG
  show some _=some true
  rw [decide_eq_true (show (1:Int)<=(n:Int) by omega),decide_eq_true (show (n:Int)<=4096 by omega)]; rfl
 have e:(List.replicate (n:Int).toNat ([]:Str))=l7 l n 0:=by unfold l7 dY; rw [Int.toNat_natCast]; rfl
 have e2:((l7 l n 0).length:Int)=(n:Int):=by rw [Zq l (Nat.zero_le _)]
 unfold CX
 refine (aN hm).trans ?_
 refine (bn rfl).trans ?_
 refine (aM (decide_eq_true (by omega))).trans ?_
 refine (aM (decide_eq_true (by omega))).trans ?_
 refine (aM (room_le _ _ (by rw [Int.toNat_natCast]; omega) (by omega))).trans ?_
 rw [e,e2]
 refine (aN ((dI _ _).trans (fw (a:=dY l n) (S:=fun i=>((i:Int),l7 l n i)) (n:=n) step ?_ rfl))).trans rfl
 show (wZ _ _ _ _).run=_
 unfold wZ
 refine (bn (decide_eq_false (by omega))).trans ?_
 show some (Sum.inr (dY l n++List.replicate (n-n) []))=_
 rw [Nat.sub_self,List.replicate_zero,List.append_nil]
theorem ajK {l:List Entry} (hl:iD l) (k:Str):(oL l k).2.2.length<=1000:=by
 unfold oL
 cases hf:zm l k with
 | none=>exact Nat.zero_le _
 | some r=>exact (hl.2 _ (ad7 hf)).2.2
theorem ajL (l:List Entry) (i:Nat):dY l (i+1)=dY l i++[uF l i]:=by unfold dY; rw [List.range_succ,List.map_append]; rfl
theorem Y2 (l:List Entry) (n:Nat) (hl:iD l) (h1:1<=n) (h2:n<=4096):(Dk l (n:Int)).run=some (dY l n):=by
 have step:∀ i:Nat,i<n->(wQ l (n:Int) (i:Int) (dY l i)).run=some (.inl (((i+1:Nat):Int),dY l (i+1))):=by
  intro i hi
  have hr:∀ s:Str,decide ((dY l i++[s]).length*16<=bD)=true:=fun s=>room_le _ _ (by rw [List.length_append,o8]; show i+1<=_; omega) (by omega)
  unfold wQ
  refine (bA (decide_eq_true (by omega))).trans ?_
  refine (aN (ajI (Zp (by omega)))).trans ?_
  refine (aN (ad4 l _ (by have:=hl.1; omega))).trans ?_
  refine (aN (CL _ (by have:=ajK hl (uE (i:Int)); omega))).trans ?_
  rw [zg i (by omega),ajL]
  unfold uF
  cases jc (oL l (uE (i:Int))).2.2 with
  | false =>
   refine (bA rfl).trans ?_
   exact (aM (hr _)).trans rfl
  | true =>
   refine (bn rfl).trans ?_
   exact (aM (hr _)).trans rfl
 unfold Dk
 refine (bn (by rw [decide_eq_false (show ¬ (n:Int)<1 by omega),decide_eq_false (show ¬ (4096:Int)<(n:Int) by omega)]; rfl)).trans ?_
 refine (aN ((dI _ _).trans (fw (a:=dY l n) (S:=fun i=>((i:Int),dY l i)) (n:=n) step ?_ rfl))).trans rfl
 show (wQ _ _ _ _).run=_
 unfold wQ
 exact bn (decide_eq_false (by omega))
section
variable {u:Ty}
def xH (x:List (El .str×El u)):Prop:=x.Pairwise fun a b=>a.1≠b.1
theorem qL (p:El .str×El u) (x:List (El .str×El u)) (q:Str):getM .str u (p::x) q=if q=p.1 then some p.2 else getM .str u x q:=by
 show (bif (q==p.1) then some p.2 else getM .str u x q)=_
 by_cases e:q=p.1
 ·rw [if_pos e,beq_iff_eq.2 e]; rfl
 ·rw [if_neg e,beq_eq_false_iff_ne.2 e]; rfl
theorem Q8 (p:El .str×El u) (x:List (El .str×El u)) (k:Str) (v:El u):dn .str u (p::x) k v=if k=p.1 then (k,v)::x else p::dn .str u x k v:=by
 show (bif (k==p.1) then (k,v)::x else p::dn .str u x k v)=_
 by_cases e:k=p.1
 ·rw [if_pos e,beq_iff_eq.2 e]; rfl
 ·rw [if_neg e,beq_eq_false_iff_ne.2 e]; rfl
theorem ajM (p:El .str×El u) (x:List (El .str×El u)) (k:Str):iV .str u (p::x) k=if k=p.1 then x else p::iV .str u x k:=by
 show (bif (k==p.1) then x else p::iV .str u x k)=_
 by_cases e:k=p.1
 ·rw [if_pos e,beq_iff_eq.2 e]; rfl
 ·rw [if_neg e,beq_eq_false_iff_ne.2 e]; rfl
theorem Q0 (x:List (El .str×El u)) (k:Str) (v:El u) (q:Str):getM .str u (dn .str u x k v) q=if q=k then some v else getM .str u x q:=by
 induction x with
 | nil=>exact qL (k,v) [] q
 | cons p x ih =>
  rw [Q8]
  by_cases e:k=p.1
  ·rw [if_pos e,qL,qL]
   by_cases e2:q=k
   ·rw [if_pos e2,if_pos e2]
   ·rw [if_neg e2,if_neg e2,if_neg (fun h=>e2 (h.trans e.symm))]
  ·rw [if_neg e,qL,qL,ih]
   by_cases e2:q=p.1
   ·rw [if_pos e2,if_pos e2,if_neg (fun h=>e (h.symm.trans e2))]
   ·rw [if_neg e2,if_neg e2]
theorem ajN (x:List (El .str×El u)) (k:Str) (h:∀ p∈x,p.1≠k):getM .str u x k=none:=by
 induction x with
 | nil=>rfl
 | cons p x ih=>rw [qL,if_neg (fun e=>h p List.mem_cons_self e.symm)]; exact ih fun q hq=>h q (List.mem_cons_of_mem _ hq)
theorem ajO (x:List (El .str×El u)) (hx:xH x) (k q:Str):getM .str u (iV .str u x k) q=if q=k then none else getM .str u x q:=by
 induction x with
 | nil=>show (none:Option (El u))=if q=k then none else none; split <;> rfl
 | cons p x ih =>
  obtain ⟨h1,h2⟩:=List.pairwise_cons.1 hx
  rw [ajM]
  by_cases e:k=p.1
  ·rw [if_pos e,qL]
   by_cases e2:q=k
   ·rw [if_pos e2]; exact ajN x q fun p' hp=>fun h=>h1 p' hp (by rw [<- e,<- e2,h])
   ·rw [if_neg e2,if_neg (fun h=>e2 (h.trans e.symm))]
  ·rw [if_neg e,qL,qL,ih h2]
   by_cases e2:q=p.1
   ·rw [if_pos e2,if_pos e2,if_neg (fun h=>e (h.symm.trans e2))]
   ·rw [if_neg e2,if_neg e2]
theorem ajP {x:List (El .str×El u)} (h:xH x) (k:Str) (v:El u):xH (dn .str u x k v):=Gm (t:=.str) (u:=u) rfl h k v
theorem ajQ {x:List (El .str×El u)} (h:xH x) (k:Str):xH (iV .str u x k):=List.Pairwise.sublist (TY (t:=.str) (u:=u) x k) h
theorem YY (x:List (El .str×El u)) (k:Str) (v:El u):(dn .str u x k v).length<=x.length+1:=by
 induction x with
 | nil=>exact Nat.le_refl _
 | cons p x ih =>
  rw [Q8]
  split
  ·simp only [List.length_cons]; omega
  ·simp only [List.length_cons]; omega
end
theorem ajR {σ α:Type} {st:σ->Option (σ⊕α)} (I:Nat->σ->Prop) (n:Nat) (a:α) (h:∀ i s,i<n->I i s->∃ s',st s=some (.inl s')/\I (i+1) s') (h0:∀ s,I n s->st s=some (.inr a)) (s0:σ) (hs:I 0 s0):dP st s0=some a:=by
 have key:∀ d i s,i+d=n->I i s->dP st s=some a:=by
  intro d
  induction d with
  | zero=>intro i s hi hI; have:i=n:=hi; subst this; rw [ib,h0 s hI]; rfl
  | succ d ih =>
   intro i s hi hI
   obtain ⟨s',h1,h2⟩:=h i s (by omega) hI
   rw [ib,h1]
   exact ih (i+1) s' (by omega) h2
 exact key n 0 s0 (by omega) hs
theorem QZ {σ α:Type} {st:σ->Option (σ⊕α)} (I:Nat->σ->Prop) (n:Nat) (Q:α->Prop) (h:∀ i s,i<n->I i s->∃ s',st s=some (.inl s')/\I (i+1) s') (h0:∀ s,I n s->∃ a,st s=some (.inr a)/\Q a) (s0:σ) (hs:I 0 s0):∃ a,dP st s0=some a/\Q a:=by
 have key:∀ d i s,i+d=n->I i s->∃ a,dP st s=some a/\Q a:=by
  intro d
  induction d with
  | zero=>intro i s hi hI; have:i=n:=hi; subst this; obtain ⟨a,h1,h2⟩:=h0 s hI; exact ⟨a,by rw [ib,h1]; rfl,h2⟩
  | succ d ih =>
   intro i s hi hI
   obtain ⟨s',h1,h2⟩:=h i s (by omega) hI
   obtain ⟨a,k1,k2⟩:=ih (i+1) s' (by omega) h2
   exact ⟨a,by rw [ib,h1]; exact k1,k2⟩
 exact key n 0 s0 (by omega) hs
theorem ED (m n:Nat):(m:Int).tmod (n:Int)=((m % n:Nat):Int):=rfl
def mQ (l:List aL) (s:Str):Option Nat:=l.findIdx? fun m=>m.1==s
def kP (l:List aL) (out:List Int) (s:Str):List Int:=match mQ l s with
 | some k=>dh out (k:Int)
 | none=>out
def gJ (o:List Str) (p:Nat):List Str:=(List.range o.length).map fun i=>o.getD ((p+i) % o.length) []
def mR (o:List Str) (l:List aL) (p:Nat):List Int:=(gJ o p).foldl (kP l) []
def dU (o:List Str) (l:List aL) (p:Nat):List Int:=Ei (mR o l p) l.length
theorem Q9 (o:List Str) (p:Nat):(gJ o p).length=o.length:=by unfold gJ; rw [List.length_map,List.length_range]
theorem ajS {o:List Str} {p i:Nat} (hi:i<(gJ o p).length):(gJ o p)[i]=o.getD ((p+i) % o.length) []:=by
 refine (List.getElem_map (fun i:Nat=>o.getD ((p+i) % o.length) ([]:Str)) (l:=List.range o.length) (h:=hi)).trans ?_
 rw [List.getElem_range]
theorem Ra {l:List aL} {s:Str} {k:Nat} (h:mQ l s=some k):∃ hk:k<l.length,l[k].1=s:=by
 obtain ⟨h1,h2,_⟩:=List.findIdx?_eq_some_iff_getElem.1 h
 exact ⟨h1,beq_iff_eq.1 h2⟩
theorem Zt {l:List aL} {out:List Int} (h1:out.Nodup) (h2:∀ k∈out,0<=k/\k<(l.length:Int)) (s:Str):(kP l out s).Nodup/\∀ k∈kP l out s,0<=k/\k<(l.length:Int):=by
 unfold kP
 cases hf:mQ l s with
 | none=>exact ⟨h1,h2⟩
 | some k =>
  obtain ⟨hk,_⟩:=Ra hf
  refine ⟨xQ h1 _,fun q hq=>?_⟩
  rcases Ee.1 hq with hq | hq
  ·exact h2 q hq
  ·subst hq; omega
theorem Rb {l:List aL} (r:List Str):∀ {out:List Int},out.Nodup->(∀ k∈out,0<=k/\k<(l.length:Int))->(r.foldl (kP l) out).Nodup/\∀ k∈r.foldl (kP l) out,0<=k/\k<(l.length:Int):=by
 induction r with
 | nil=>intro out h1 h2; exact ⟨h1,h2⟩
 | cons s r ih=>intro out h1 h2; exact ih (Zt h1 h2 s).1 (Zt h1 h2 s).2
theorem Bp (o:List Str) (l:List aL) (p:Nat):(mR o l p).Nodup/\∀ k∈mR o l p,0<=k/\k<(l.length:Int):=Rb _ List.nodup_nil fun _ h=>by cases h
theorem ajy (o:List Str) (l:List aL) (p:Nat):(dU o l p).Nodup:=XF (Bp o l p).1 _
theorem JO {o:List Str} {l:List aL} {p:Nat} {k:Int}:k∈dU o l p↔0<=k/\k<(l.length:Int):=XG (Bp o l p).2
theorem xD (o:List Str) (l:List aL) (p:Nat):(dU o l p).length=l.length:=ahW (Bp o l p).1 (Bp o l p).2
theorem JR {out:List Int} {n:Nat} (h1:out.Nodup) (h2:∀ k∈out,0<=k/\k<(n:Int)):out.length<=n:=by
 have:=ko h1 fun k hk=>Eg.2 (h2 k hk)
 rwa [Eh] at this
theorem jq {α:Type} {l:List α} {i:Nat} (hi:i<l.length):l.take (i+1)=l.take i++[l[i]]:=List.take_succ_eq_append_getElem hi
theorem upto_at {n i:Nat} (hi:i<(upto n).length):(upto n)[i]=(i:Int):=by
 refine (List.getElem_map (fun i:Nat=>(i:Int)) (l:=List.range n) (h:=hi)).trans ?_
 rw [List.getElem_range]
theorem Zu (K:List Int) {n i:Nat} (hi:i<n):dM K ((upto n).take (i+1))=dh (dM K ((upto n).take i)) (i:Int):=by
 have h:i<(upto n).length:=by rw [Eh]; exact hi
 rw [jq h,upto_at,xL]; rfl
theorem Zv {a:List Int} (hl:a.length<=1000) (n:Int):(Dm a n).run=some (decide (n∈a)):=by
 unfold Dm
 have h:=Ke a (fun x=>decide (x=n)) (fun v=>zP a n v) (Sum.inl true:Bool⊕Unit) (.inr ()) (by omega) (fun i hi=>by
  unfold zP
  refine (bA (decide_eq_true (by omega))).trans ?_
  refine (aM (bQ hi)).trans ?_
  rw [Int.toNat_natCast,getD_lt _ _ _ hi]
  cases hd:decide (a[i]=n) with
  | true=>exact (bA rfl).trans rfl
  | false=>exact (bn rfl).trans rfl) (by
  unfold zP
  exact (bn (decide_eq_false (by omega))).trans rfl)
 refine (aN ((dI _ _).trans h)).trans ?_
 have e:a.any (fun x=>decide (x=n))=decide (n∈a):=by
  rw [Bool.eq_iff_iff,List.any_eq_true,decide_eq_true_iff]
  exact ⟨fun ⟨x,hx,e⟩=>by rw [<- decide_eq_true_iff.1 e]; exact hx,fun h=>⟨n,h,decide_eq_true rfl⟩⟩
 rw [<- e]
 cases a.any (fun x=>decide (x=n)) <;> rfl
def Zw (l:List aL) (s:Str):Int:=match mQ l s with
 | some k=>(k:Int)
 | none => -1
theorem ajT {l:List aL} (hl:l.length<=1000) (s:Str):(Ht l s).run=some (Zw l s):=by
 unfold Ht
 refine (D7 l (fun m:aL=>m.1==s) (fun v=>zO l s v) (by omega) (fun i hi=>?_) ?_).trans rfl
 ·unfold zO
  refine (bA (decide_eq_true (by omega))).trans ?_
  refine (aM (bQ hi)).trans ?_
  rw [Int.toNat_natCast,getD_lt _ _ _ hi]
  cases (l[i].1==s) with
  | true=>exact (bA rfl).trans rfl
  | false=>exact (bn rfl).trans rfl
 ·unfold zO
  exact (bn (decide_eq_false (by omega))).trans rfl
theorem ajU {p n:Nat} (h:p<n):(Hq (p:Int) (n:Int)).run=some (p:Int):=by
 unfold Hq
 refine (bn (decide_eq_false (by omega))).trans ?_
 refine (aM (by rw [decide_eq_false (by omega)]; rfl)).trans ?_
 rw [ED,Nat.mod_eq_of_lt h]
 exact (bn (decide_eq_false (by omega))).trans rfl
theorem ajV {p n:Nat} (h:p<n) (hn:n<=1000):(IL (p:Int) (n:Int)).run=some (p:Int):=by
 unfold IL
 refine (bn (decide_eq_false (by omega))).trans ?_
 refine (aM (by rw [decide_eq_false (by omega)]; rfl)).trans ?_
 refine (aM (by rw [decide_eq_false (by omega)]; rfl)).trans ?_
 rw [ED,Nat.mod_eq_of_lt h,gD _ (by omega) (by omega),show (p:Int)+(n:Int)=((p+n:Nat):Int) from rfl,ED,Nat.add_mod_right,Nat.mod_eq_of_lt h]
 rfl
theorem Zx {o:List Str} {p i:Nat} (hp:p<o.length) (ho:o.length<=1000) (hi:i<(gJ o p).length):aD ((ay ((p:Int)+(i:Int))).tmod (o.length:Int)) o.length=true/\o.getD (((ay ((p:Int)+(i:Int))).tmod (o.length:Int)).toNat) ([]:Str)=(gJ o p)[i]:=by
 rw [ajS hi]
 rw [Q9] at hi
 rw [gD _ (by omega) (by omega),show (p:Int)+(i:Int)=((p+i:Nat):Int) from rfl,ED,Int.toNat_natCast]
 exact ⟨bQ (Nat.mod_lt _ (by omega)),rfl⟩
theorem ajW {o:List Str} {l:List aL} {p:Nat} (ho:o.length<=1000) (hl:l.length<=1000) (hp:p<o.length):(Hy o l (p:Int)).run=some (dU o l p):=by
 have hr:=Q9 o p
 unfold Hy
 refine (aN (ajU hp)).trans ?_
 refine (aN ((dI _ _).trans (fw (a:=mR o l p) (S:=fun i=>((i:Int),((gJ o p).take i).foldl (kP l) [])) (n:=o.length) (fun i hi=>?_) ?_ rfl))).trans ?_
 ·have hi':i<(gJ o p).length:=by rw [hr]; exact hi
  obtain ⟨g1,g2⟩:=Zx hp ho hi'
  have hK:=Rb (l:=l) ((gJ o p).take i) List.nodup_nil fun _ h=>by cases h
  rw [jq hi',List.foldl_append]
  show (wR o l (p:Int) (i:Int) (((gJ o p).take i).foldl (kP l) [])).run=some (.inl (_,kP l (((gJ o p).take i).foldl (kP l) []) (gJ o p)[i]))
  generalize ((gJ o p).take i).foldl (kP l) []=out at *
  have hlen:=JR hK.1 hK.2
  unfold wR
  refine (bA (decide_eq_true (by omega))).trans ?_
  refine (aM (by rw [decide_eq_false (by omega)]; rfl)).trans ?_
  refine (aM g1).trans ?_
  rw [g2]
  refine (aN (ajT hl _)).trans ?_
  rw [di i (by omega)]
  unfold kP Zw
  cases hf:mQ l (gJ o p)[i] with
  | none =>
   refine (ET rfl).trans ?_
   exact (bn rfl).trans rfl
  | some k =>
   dsimp only
   refine (gm (Zv (by omega) _)).trans ?_
   rw [decide_eq_true (show (0:Int)<=(k:Int) by omega)]
   by_cases hk:(k:Int)∈out
   ·rw [decide_eq_true hk,kQ hk]
    exact (bn rfl).trans rfl
   ·rw [decide_eq_false hk,nQ hk]
    refine (bA rfl).trans ?_
    exact (aM (room_le _ _ (by simp only [List.length_append,List.length_cons,List.length_nil]; omega) (by omega))).trans rfl
 ·show (wR _ _ _ _ _).run=_
  unfold wR
  rw [List.take_of_length_le (by rw [hr]; exact Nat.le_refl _)]
  exact (bn (decide_eq_false (by omega))).trans rfl
 ·obtain ⟨q1,q2⟩:=Bp o l p
  refine (aN ((dI _ _).trans (fw (a:=dU o l p) (S:=fun i=>((i:Int),dM (mR o l p) ((upto l.length).take i))) (n:=l.length) (fun i hi=>?_) ?_ rfl))).trans rfl
  ·have hn:(dM (mR o l p) ((upto l.length).take i)).Nodup:=AO q1
   have hm:∀ k∈dM (mR o l p) ((upto l.length).take i),0<=k/\k<(l.length:Int):=fun k hk=>by
    rcases jJ.1 hk with q | q
    ·exact q2 k q
    ·exact Eg.1 (List.mem_of_mem_take q)
   have hlen:=JR hn hm
   show (wS _ _ _).run=some (.inl (_,dM (mR o l p) ((upto l.length).take (i+1))))
   rw [Zu _ hi]
   generalize dM (mR o l p) ((upto l.length).take i)=out at *
   dsimp only
   unfold wS
   refine (bA (decide_eq_true (by omega))).trans ?_
   refine (aN (Zv (by omega) _)).trans ?_
   rw [di i (by omega)]
   by_cases hk:(i:Int)∈out
   ·rw [decide_eq_true hk,kQ hk]
    exact (bn rfl).trans rfl
   ·rw [decide_eq_false hk,nQ hk]
    refine (bA rfl).trans ?_
    exact (aM (room_le _ _ (by simp only [List.length_append,List.length_cons,List.length_nil]; omega) (by omega))).trans rfl
  ·show (wS _ _ _).run=_
   unfold wS
   rw [List.take_of_length_le (by rw [Eh]; exact Nat.le_refl _)]
   exact (bn (decide_eq_false (by omega))).trans rfl
abbrev SI:Type:=List (El .str×El (.int .i64))
abbrev gS (x:SI) (s:Str):Option Int:=getM .str (.int .i64) x s
def lI:List aL->Nat->SI
 | [],_=>[]
 | m::l,j=>dn .str (.int .i64) (lI l (j+1)) m.1 (j:Int)
theorem Zy:∀ (l:List aL) (j:Nat),xH (lI l j)
 | [],_=>List.Pairwise.nil
 | m::l,j=>ajP (Zy l (j+1)) m.1 (j:Int)
theorem Zz:∀ (l:List aL) (j:Nat),(lI l j).length<=l.length
 | [],_=>Nat.le_refl _
 | m::l,j=>by
  have h1:=YY (u:=.int .i64) (lI l (j+1)) m.1 (j:Int)
  have h2:=Zz l (j+1)
  show (dn .str (.int .i64) (lI l (j+1)) m.1 (j:Int)).length<=l.length+1
  omega
theorem ZA:∀ (l:List aL) (j:Nat) (s:Str),gS (lI l j) s=(mQ l s).map fun k=>((k+j:Nat):Int)
 | [],_,_=>rfl
 | m::l,j,s=>by
  refine (Q0 (u:=.int .i64) (lI l (j+1)) m.1 (j:Int) s).trans ?_
  unfold mQ
  rw [List.findIdx?_cons]
  by_cases e:s=m.1
  ·rw [if_pos e,beq_iff_eq.2 e.symm,if_pos rfl]
   show some (j:Int)=some ((0+j:Nat):Int)
   rw [Nat.zero_add]
  ·rw [if_neg e,beq_eq_false_iff_ne.2 fun q=>e q.symm,if_neg Bool.false_ne_true,Option.map_map]
   refine Eq.trans (ZA l (j+1) s) ?_
   unfold mQ
   refine congrArg (fun g=>Option.map g _) (funext fun k=>?_)
   show ((k+(j+1):Nat):Int)=((k+1+j:Nat):Int)
   omega
theorem ZB {k:Nat} {told:List Bool} {out:List Int} (h1:k<told.length) (h2:out.length<=1000):(DY (k:Int) told out).run=some ((),(((),()),(((),()),(told.set k true,(out++[(k:Int)],()))))):=by
 unfold DY
 refine (aM (bQ h1)).trans ?_
 refine (aM (room_le _ _ (by simp only [List.length_append,List.length_cons,List.length_nil]; omega) (by omega))).trans ?_
 rw [Int.toNat_natCast]; rfl
def Told (n:Nat) (told:List Bool) (out:List Int):Prop:=told.length=n/\∀ k,k<n->told.getD k false=decide ((k:Int)∈out)
theorem Told.tell {n:Nat} {told:List Bool} {out:List Int} (h:Told n told out) {k:Nat} (hk:k<n) (hn:(k:Int) ∉ out):Told n (told.set k true) (dh out (k:Int)):=by
 refine ⟨by rw [List.length_set]; exact h.1,fun j hj=>?_⟩
 have hj':j<(told.set k true).length:=by rw [List.length_set,h.1]; exact hj
 rw [getD_lt _ _ _ hj',List.getElem_set,nQ hn]
 have hh:=h.2 j hj
 rw [getD_lt _ _ _ (by rw [h.1]; exact hj)] at hh
 by_cases e:k=j
 ·subst e; rw [if_pos rfl,decide_eq_true]; exact List.mem_append_right _ (List.mem_singleton.2 rfl)
 ·rw [if_neg e,hh,Bool.eq_iff_iff,decide_eq_true_iff,decide_eq_true_iff,List.mem_append,List.mem_singleton]
  exact ⟨.inl,fun q=>q.elim id fun q=>absurd q (by omega)⟩
theorem ajX {o:List Str} {l:List aL} {p:Nat} (ho:o.length<=1000) (hl:l.length<=1000) (hp:p<o.length):(IV o l (p:Int)).run=some (dU o l p):=by
 have hr:=Q9 o p
 obtain ⟨q1,q2⟩:=Bp o l p
 unfold IV
 refine (aN (a:=lI l 0) ((dI _ _).trans (fw (S:=fun i=>(((l.length:Int)-1-(i:Int)),lI (l.drop (l.length-i)) (l.length-i))) (n:=l.length) (fun i hi=>?_) ?_ ?_))).trans ?_
 ·have hk:l.length-(i+1)<l.length:=by omega
  have e:(l.length:Int)-1-(i:Int)=((l.length-(i+1):Nat):Int):=by omega
  have e2:l.length-(i+1)+1=l.length-i:=by omega
  have e3:lI (l.drop (l.length-(i+1))) (l.length-(i+1))=dn .str (.int .i64) (lI (l.drop (l.length-i)) (l.length-i)) l[l.length-(i+1)].1 ((l.length-(i+1):Nat):Int):=by
   rw [List.drop_eq_getElem_cons hk,e2]
   show dn .str (.int .i64) (lI _ (l.length-(i+1)+1)) _ _=_
   rw [e2]
  have hlen:=Zz (l.drop (l.length-(i+1))) (l.length-(i+1))
  rw [List.length_drop] at hlen
  rw [e3] at hlen ⊢
  rw [e]
  dsimp only
  unfold Av
  refine (bA (decide_eq_true (by omega))).trans ?_
  refine (aM (bQ hk)).trans ?_
  rw [Int.toNat_natCast,getD_lt _ _ _ hk]
  refine (aM (decide_eq_true (Nat.le_trans hlen (by omega)))).trans ?_
  rw [gD _ (by omega) (by omega),show ((l.length-(i+1):Nat):Int)-1=(l.length:Int)-1-((i+1:Nat):Int) from by omega]
  rfl
 ·show (Av _ _ _ _ _).run=_
  unfold Av
  rw [Nat.sub_self,List.drop_zero]
  exact (bn (decide_eq_false (by omega))).trans rfl
 ·rw [gD _ (by omega) (by omega),Nat.sub_zero,List.drop_length]
  show ((l.length:Int)-1,([]:SI))=((l.length:Int)-1-((0:Nat):Int),lI [] l.length)
  rw [show (l.length:Int)-1-((0:Nat):Int)=(l.length:Int)-1 from by omega]; rfl
 ·refine (aM (decide_eq_true (by omega))).trans ?_
  refine (aM (decide_eq_true (by omega))).trans ?_
  refine (aM (room_le _ _ (by rw [Int.toNat_natCast]; omega) (by omega))).trans ?_
  refine (aN (ajV hp ho)).trans ?_
  obtain ⟨⟨ra,rb,rc⟩,h1,h2⟩:=QZ (st:=fun v:Int×SI×List Bool×List Int=>(uA o l (p:Int) (o.length:Int) v.1 v.2.1 v.2.2.1 v.2.2.2).run)
   (fun i s=>s.1=(i:Int)/\s.2.2.2=((gJ o p).take i).foldl (kP l) []/\Told l.length s.2.2.1 s.2.2.2/\xH s.2.1/\∀ q,gS s.2.1 q=(mQ l q).bind fun k=>if (k:Int)∈s.2.2.2 then none else some (k:Int)) o.length (fun r=>r.2.2=mR o l p/\Told l.length r.2.1 r.2.2)
   (by
    rintro i ⟨x,rows,told,out⟩ hi ⟨e1,e2,e3,e4,e5⟩
    simp only at e1 e2 e3 e4 e5
    subst e1
    have hi':i<(gJ o p).length:=by rw [hr]; exact hi
    obtain ⟨g1,g2⟩:=Zx hp ho hi'
    have hK:=Rb (l:=l) ((gJ o p).take i) List.nodup_nil fun _ h=>by cases h
    have eK:((gJ o p).take (i+1)).foldl (kP l) []=kP l out (gJ o p)[i]:=by rw [jq hi',List.foldl_append,e2]; rfl
    rw [<- e2] at hK
    have hlen:=JR hK.1 hK.2
    rw [eK]
    show ∃ s',(uA o l (p:Int) (o.length:Int) (i:Int) rows told out).run=_/\_
    unfold uA
    have run0:∀ {t:Tree ((Int×(List (Str×Int))×(List Bool)×(List Int))⊕((List (Str×Int))×(List Bool)×(List Int)))} {r},t.run=r->(Tree.ite (decide ((i:Int)<(o.length:Int))) (ask (!decide ((o.length:Int)=0))<|ask (aD ((ay ((p:Int)+(i:Int))).tmod (o.length:Int)) o.length) t) (.ret (.inr (rows,told,out)))).run=r:=fun {t r} h =>
     (bA (decide_eq_true (by omega))).trans ((aM (by rw [decide_eq_false (by omega)]; rfl)).trans ((aM g1).trans h))
    have h5:=e5 (gJ o p)[i]
    unfold kP
    cases hf:mQ l (gJ o p)[i] with
    | none =>
     rw [hf] at h5
     have h5:getM .str (.int .i64) rows (gJ o p)[i]=none:=h5
     refine ⟨(((i+1:Nat):Int),rows,told,out),run0 ?_,rfl,rfl,e3,e4,e5⟩
     rw [g2,h5]
     refine (bn rfl).trans ?_
     rw [di i (by omega)]; rfl
    | some k =>
     rw [hf] at h5
     obtain ⟨hk,hkn⟩:=Ra hf
     dsimp only
     by_cases hin:(k:Int)∈out
     ·have h5:getM .str (.int .i64) rows (gJ o p)[i]=none:=h5.trans (if_pos hin)
      rw [kQ hin]
      refine ⟨(((i+1:Nat):Int),rows,told,out),run0 ?_,rfl,rfl,e3,e4,e5⟩
      rw [g2,h5]
      refine (bn rfl).trans ?_
      rw [di i (by omega)]; rfl
     ·have h5:getM .str (.int .i64) rows (gJ o p)[i]=some (k:Int):=h5.trans (if_neg hin)
      refine ⟨(((i+1:Nat):Int),iV .str (.int .i64) rows (gJ o p)[i],told.set k true,dh out (k:Int)),run0 ?_,rfl,rfl,e3.tell hk hin,ajQ e4 _,fun q=>?_⟩
      ·rw [g2,h5]
       refine (bA rfl).trans ?_
       refine (aN (ZB (by rw [e3.1]; exact hk) (by omega))).trans ?_
       rw [di i (by omega),nQ hin]; rfl
      ·refine (ajO (u:=.int .i64) rows e4 (gJ o p)[i] q).trans ?_
       by_cases hq:q=(gJ o p)[i]
       ·rw [if_pos hq,hq,hf]
        exact (if_pos (Ee.2 (.inr rfl))).symm
       ·rw [if_neg hq]
        refine (e5 q).trans ?_
        cases hf2:mQ l q with
        | none=>rfl
        | some k2 =>
         obtain ⟨hk2,hkn2⟩:=Ra hf2
         have hne:k2≠k:=fun e=>hq (by subst e; rw [<- hkn,<- hkn2])
         show (if (k2:Int)∈out then none else some (k2:Int))=if (k2:Int)∈dh out (k:Int) then none else some (k2:Int)
         by_cases hm:(k2:Int)∈out
         ·rw [if_pos hm,if_pos (Ee.2 (.inl hm))]
         ·rw [if_neg hm,if_neg fun w=>(Ee.1 w).elim hm fun w=>hne (by omega)])
   (by
    rintro ⟨x,rows,told,out⟩ ⟨e1,e2,e3,e4,e5⟩
    simp only at e1 e2 e3 e4 e5
    subst e1
    refine ⟨(rows,told,out),?_,?_,e3⟩
    ·show (uA o l (p:Int) (o.length:Int) (o.length:Int) rows told out).run=_
     unfold uA
     exact (bn (decide_eq_false (by omega))).trans rfl
    ·show out=_
     rw [e2,List.take_of_length_le (by rw [hr]; exact Nat.le_refl _)]; rfl)
   (0,lI l 0,List.replicate (l.length:Int).toNat false,[]) ⟨rfl,rfl,⟨by rw [List.length_replicate,Int.toNat_natCast],fun k hk=>by rw [Int.toNat_natCast,getD_lt _ _ _ (by rw [List.length_replicate]; exact hk),List.getElem_replicate]; rfl⟩,Zy l 0,fun q=>by
    show gS (lI l 0) q=(mQ l q).bind fun k=>if (k:Int)∈([]:List Int) then none else some (k:Int)
    rw [ZA]
    cases mQ l q <;> rfl⟩
  refine (aN ((dI _ _).trans h1)).trans ?_
  obtain ⟨h2,h3⟩:=h2
  simp only at h2 h3
  subst h2
  refine (aN ((dI _ _).trans (ajR (I:=fun i s=>s.1=(i:Int)/\s.2.2=dM (mR o l p) ((upto l.length).take i)/\Told l.length s.2.1 s.2.2) l.length (dU o l p) ?_ ?_ _ ⟨rfl,rfl,h3⟩))).trans rfl
  ·rintro i ⟨x,told,out⟩ hi ⟨e1,e2,e3⟩
   simp only at e1 e2 e3
   subst e1
   have hn:(dM (mR o l p) ((upto l.length).take i)).Nodup:=AO q1
   have hm:∀ k∈dM (mR o l p) ((upto l.length).take i),0<=k/\k<(l.length:Int):=fun k hk=>by
    rcases jJ.1 hk with q | q
    ·exact q2 k q
    ·exact Eg.1 (List.mem_of_mem_take q)
   have hlen:=JR hn hm
   rw [Zu _ hi]
   rw [<- e2] at hlen ⊢
   show ∃ s',(w9 (l.length:Int) ra (i:Int) told out).run=_/\_
   unfold w9
   have ht:=e3.2 i hi
   by_cases hin:(i:Int)∈out
   ·rw [decide_eq_true hin] at ht
    rw [kQ hin]
    refine ⟨(((i+1:Nat):Int),told,out),?_,rfl,rfl,e3⟩
    refine (bA (decide_eq_true (by omega))).trans ?_
    refine (aM (bQ (by rw [e3.1]; exact hi))).trans ?_
    rw [Int.toNat_natCast,ht]
    refine (bn rfl).trans ?_
    rw [di i (by omega)]; rfl
   ·rw [decide_eq_false hin] at ht
    refine ⟨(((i+1:Nat):Int),told.set i true,dh out (i:Int)),?_,rfl,rfl,e3.tell hi hin⟩
    refine (bA (decide_eq_true (by omega))).trans ?_
    refine (aM (bQ (by rw [e3.1]; exact hi))).trans ?_
    rw [Int.toNat_natCast,ht]
    refine (bA rfl).trans ?_
    refine (aN (ZB (by rw [e3.1]; exact hi) (by omega))).trans ?_
    rw [di i (by omega),nQ hin]; rfl
  ·rintro ⟨x,told,out⟩ ⟨e1,e2,e3⟩
   simp only at e1 e2 e3
   subst e1
   show (w9 (l.length:Int) ra (l.length:Int) told out).run=_
   unfold w9
   refine (bn (decide_eq_false (by omega))).trans ?_
   rw [e2,List.take_of_length_le (by rw [Eh]; exact Nat.le_refl _)]; rfl
theorem EE (R:List Str) (s:Str):(gX R s).idxOf s=if s∈R then R.idxOf s else R.length:=by
 unfold gX
 by_cases h:s∈R
 ·rw [if_pos h,if_pos h]
 ·rw [if_neg h,if_neg h,List.idxOf_append,if_neg h]
  simp
theorem ajY (x:SI) (k:Str) (v:Int) (h:gS x k=none):dn .str (.int .i64) x k v=x++[(k,v)]:=by
 induction x with
 | nil=>rfl
 | cons p x ih =>
  have h:=h
  rw [show gS (p::x) k=if k=p.1 then some p.2 else gS x k from qL p x k] at h
  rw [Q8]
  by_cases e:k=p.1
  ·rw [if_pos e] at h; cases h
  ·rw [if_neg e] at h
   rw [if_neg e,ih h]; rfl
def KN (rows:SI) (R:List Str):Prop:=rows.length=R.length/\∀ s,gS rows s=if s∈R then some ((R.idxOf s:Nat):Int) else none
theorem KN.nil:KN [] []:=⟨rfl,fun s=>by rw [if_neg List.not_mem_nil]; rfl⟩
theorem ZC {rows:SI} {R:List Str} (h:KN rows R) (hR:R.length<=10000) (s:Str):∃ rows',(D5 s rows).run=some (((gX R s).idxOf s:Int),(((),()),(rows',())))/\KN rows' (gX R s):=by
 have hs:getM .str (.int .i64) rows s=if s∈R then some ((R.idxOf s:Nat):Int) else none:=h.2 s
 unfold D5
 by_cases hm:s∈R
 ·rw [if_pos hm] at hs
  refine ⟨rows,?_,?_⟩
  ·rw [hs,EE,if_pos hm]
   exact (bn rfl).trans rfl
  ·unfold gX; rw [if_pos hm]; exact h
 ·rw [if_neg hm] at hs
  have e:=ajY rows s (rows.length:Int) hs
  have hl:(rows++[(s,(rows.length:Int))]:SI).length=rows.length+1:=by simp
  refine ⟨rows++[(s,(rows.length:Int))],?_,?_⟩
  ·rw [hs,EE,if_neg hm,e]
   refine (bA rfl).trans ?_
   refine (aM (decide_eq_true (by have:=h.1; omega))).trans ?_
   rw [h.1]; rfl
  ·have e2:gX R s=R++[s]:=by unfold gX; rw [if_neg hm]
   rw [e2]
   refine ⟨by rw [hl,h.1,List.length_append]; rfl,fun q=>?_⟩
   rw [<- e]
   refine (Q0 (u:=.int .i64) rows s (rows.length:Int) q).trans ?_
   by_cases hq:q=s
   ·subst hq
    rw [if_pos rfl,if_pos (List.mem_append_right _ (List.mem_singleton.2 rfl)),<- e2,EE,if_neg hm,h.1]
   ·rw [if_neg hq]
    refine (h.2 q).trans ?_
    by_cases hq2:q∈R
    ·rw [if_pos hq2,if_pos (List.mem_append_left _ hq2),List.idxOf_append,if_pos hq2]
    ·rw [if_neg hq2,if_neg fun w=>(List.mem_append.1 w).elim hq2 fun w=>hq (List.mem_singleton.1 w)]
theorem ZE {R:List Str} (hR:R.length<=10000) (s:Str):(Dn R s).run=some (gX R s,((gX R s).idxOf s:Int),()):=by
 have hf:=BA (st:=fun v=>(zQ R s v).run) R (fun y=>y==s) (fun i=>(i:Int)) (fun i=>(Sum.inl (i:Int):Int⊕Unit)) (.inr ())
  (fun i hi=>by
   unfold zQ
   refine (bA (decide_eq_true (by omega))).trans ?_
   refine (aM (bQ hi)).trans ?_
   rw [Int.toNat_natCast,getD_lt _ _ _ hi,di i (by omega)]
   cases (R[i]==s) with
   | true=>exact (bA rfl).trans rfl
   | false=>exact (bn rfl).trans rfl)
  (by
   unfold zQ
   exact (bn (decide_eq_false (by omega))).trans rfl) (s0:=(0:Int)) rfl
 unfold Dn
 rcases hf with ⟨k1,k2⟩ | ⟨i,hi,k1,k2,_,k3⟩
 ·have hm:s ∉ R:=fun h=>by
   have:=List.any_eq_false.1 k2 s h
   exact this (beq_self_eq_true s)
  refine (aN ((dI _ _).trans k1)).trans ?_
  rw [EE,if_neg hm]
  unfold gX
  rw [if_neg hm]
  refine (aM (room_le _ _ (by omega) (by omega))).trans ?_
  exact (aM (room_le _ _ (by simp only [List.length_append,List.length_cons,List.length_nil]; omega) (by omega))).trans rfl
 ·have hm:s∈R:=by rw [<- beq_iff_eq.1 k2]; exact List.getElem_mem hi
  have e:R.idxOf s=i:=(List.findIdx_eq hi).2 ⟨k2,k3⟩
  refine (aN ((dI _ _).trans k1)).trans ?_
  rw [EE,if_pos hm,e]
  unfold gX
  rw [if_pos hm]; rfl
def kN (l:List aL) (k:Int):aL:=l.getD k.toNat (aS bH:aL)
def l6 (l:List aL) (ord:List Int):List Str:=ord.map fun k=>(kN l k).2.1
def nP (l:List aL) (ord:List Int):List Str:=ord.map fun k=>(kN l k).2.2.1
theorem nO (l:List aL) (ord:List Int):(l6 l ord).length=ord.length:=List.length_map ..
theorem rX (l:List aL) (ord:List Int):(nP l ord).length=ord.length:=List.length_map ..
theorem EC {l:List aL} {ord:List Int} {i:Nat} (hi:i<ord.length):(l6 l ord)[i]'(by rw [nO]; exact hi)=(kN l ord[i]).2.1:=List.getElem_map ..
theorem Rc {l:List aL} {ord:List Int} {i:Nat} (hi:i<ord.length):(nP l ord)[i]'(by rw [rX]; exact hi)=(kN l ord[i]).2.2.1:=List.getElem_map ..
abbrev fU (l:List aL) (ord:List Int):PL:=lY (l6 l ord) (nP l ord)
theorem qJ (l:List aL) (ord:List Int):(fU l ord).length=ord.length:=by unfold fU; rw [Qh (by rw [nO,rX]),nO]
theorem ZF {l:List aL} {ord:List Int} {i:Nat} (hi:i<ord.length):(fU l ord).take (i+1)=(fU l ord).take i++[(((gX (gG [] ((l6 l ord).take i)) (kN l ord[i]).2.1).idxOf (kN l ord[i]).2.1:Int),((gX (gG [] ((nP l ord).take i)) (kN l ord[i]).2.2.1).idxOf (kN l ord[i]).2.2.1:Int))]:=by
 have h:i<(fU l ord).length:=by rw [qJ]; exact hi
 have hr:i<(l6 l ord).length:=by rw [nO]; exact hi
 have hz:i<(nP l ord).length:=by rw [rX]; exact hi
 rw [jq h]
 have e:=Qi (rs:=l6 l ord) (zs:=nP l ord) (by rw [nO,rX]) hr
 rw [getD_lt _ _ _ h] at e
 rw [e,XE (l6 l ord) hr,XE (nP l ord) hz,EC hi,Rc hi]
theorem JS {R:List Str} {i:Nat} (hi:i<R.length) {s:Str} (h:R[i]=s):gG [] (R.take (i+1))=gX (gG [] (R.take i)) s:=by rw [ahU R hi,h]
theorem JU {R:List Str} (h:R.length<=1000) (i:Nat):(gG [] (R.take i)).length<=10000:=by
 have h1:=ahR (A:=[]) (l:=R.take i)
 rw [List.length_take] at h1
 simp only [List.length_nil] at h1
 omega
theorem ajZ {l:List aL} {ord:List Int} (hl:l.length<=1000) (ho:ord.length<=1000) (h:∀ k∈ord,0<=k/\k<(l.length:Int)) (many:Int) :
  ∃ r1 r2,dP (fun v=>(rM l many (ord.length:Int) ord v.1 v.2.1 v.2.2.1 v.2.2.2).run) (0,[],[],([]:List (Int×Int)))=some (r1,r2,fU l ord):=by
 obtain ⟨⟨r1,r2,r3⟩,h1,h2⟩:=QZ (st:=fun v:Int×SI×SI×List (Int×Int)=>(rM l many (ord.length:Int) ord v.1 v.2.1 v.2.2.1 v.2.2.2).run)
  (fun i s=>s.1=(i:Int)/\KN s.2.1 (gG [] ((l6 l ord).take i))/\KN s.2.2.1 (gG [] ((nP l ord).take i))/\s.2.2.2=(fU l ord).take i) ord.length (fun r=>r.2.2=fU l ord)
  (by
   rintro i ⟨x,rows,rows2,pairs⟩ hi ⟨e1,e2,e3,e4⟩
   simp only at e1 e2 e3 e4
   subst e1
   obtain ⟨k1,k2⟩:=h _ (List.getElem_mem hi)
   have hr:i<(l6 l ord).length:=by rw [nO]; exact hi
   have hz:i<(nP l ord).length:=by rw [rX]; exact hi
   obtain ⟨rows',n1,n2⟩:=ZC e2 (JU (by rw [nO]; exact ho) i) (kN l ord[i]).2.1
   obtain ⟨rows2',n3,n4⟩:=ZC e3 (JU (by rw [rX]; exact ho) i) (kN l ord[i]).2.2.1
   have hb:aD ord[i] l.length=true:=by
    obtain ⟨k,hk⟩:∃ k:Nat,ord[i]=(k:Int):=⟨ord[i].toNat,by omega⟩
    rw [hk] at k2 ⊢
    exact bQ (by omega)
   refine ⟨(((i+1:Nat):Int),rows',rows2',(fU l ord).take (i+1)),?_,rfl,?_,?_,rfl⟩
   ·show (rM l many (ord.length:Int) ord (i:Int) rows rows2 pairs).run=_
    unfold rM
    refine (bA (decide_eq_true (by omega))).trans ?_
    refine (aM (bQ hi)).trans ?_
    rw [Int.toNat_natCast,getD_lt _ _ _ hi]
    refine (aM hb).trans ?_
    refine (aM hb).trans ?_
    refine (aN n1).trans ?_
    refine (aN n3).trans ?_
    rw [ZF hi,e4,di i (by omega)]
    exact (aM (room_le _ _ (by simp only [List.length_append,List.length_cons,List.length_nil,List.length_take]; omega) (by omega))).trans rfl
   ·show KN rows' _
    rw [JS hr (EC hi)]; exact n2
   ·show KN rows2' _
    rw [JS hz (Rc hi)]; exact n4)
  (by
   rintro ⟨x,rows,rows2,pairs⟩ ⟨e1,e2,e3,e4⟩
   simp only at e1 e4
   subst e1
   refine ⟨(rows,rows2,pairs),?_,?_⟩
   ·show (rM l many (ord.length:Int) ord (ord.length:Int) rows rows2 pairs).run=_
    unfold rM
    exact (bn (decide_eq_false (by omega))).trans rfl
   ·show pairs=_
    rw [e4,List.take_of_length_le (by rw [qJ]; exact Nat.le_refl _)])
  (0,[],[],[]) ⟨rfl,KN.nil,KN.nil,rfl⟩
 exact ⟨r1,r2,by rw [h1]; rw [show r3=fU l ord from h2]⟩
theorem aj0 {l:List aL} {ord:List Int} (hl:l.length<=1000) (ho:ord.length<=1000) (h:∀ k∈ord,0<=k/\k<(l.length:Int)):(Dp l ord).run=some (fU l ord):=by
 unfold Dp
 refine (aN ((dI _ _).trans (fw (a:=fU l ord) (S:=fun i=>(gG [] ((l6 l ord).take i),gG [] ((nP l ord).take i),(i:Int),(fU l ord).take i)) (n:=ord.length) (fun i hi=>?_) ?_ rfl))).trans rfl
 ·obtain ⟨k1,k2⟩:=h _ (List.getElem_mem hi)
  have hr:i<(l6 l ord).length:=by rw [nO]; exact hi
  have hz:i<(nP l ord).length:=by rw [rX]; exact hi
  have hb:aD ord[i] l.length=true:=by
   obtain ⟨k,hk⟩:∃ k:Nat,ord[i]=(k:Int):=⟨ord[i].toNat,by omega⟩
   rw [hk] at k2 ⊢
   exact bQ (by omega)
  rw [ZF hi,JS hr (EC hi),JS hz (Rc hi)]
  dsimp only
  unfold zR
  refine (bA (decide_eq_true (by omega))).trans ?_
  refine (aM (bQ hi)).trans ?_
  rw [Int.toNat_natCast,getD_lt _ _ _ hi]
  refine (aM hb).trans ?_
  refine (aN (ZE (JU (by rw [nO]; exact ho) i) (kN l ord[i]).2.1)).trans ?_
  refine (aN (ZE (JU (by rw [rX]; exact ho) i) (kN l ord[i]).2.2.1)).trans ?_
  rw [di i (by omega)]
  exact (aM (room_le _ _ (by simp only [List.length_append,List.length_cons,List.length_nil,List.length_take]; omega) (by omega))).trans rfl
 ·show (zR _ _ _ _ _ _).run=_
  unfold zR
  rw [List.take_of_length_le (l:=fU l ord) (by rw [qJ]; exact Nat.le_refl _)]
  dsimp only
  exact (bn (decide_eq_false (by omega))).trans rfl
def Bo (l:List aL) (ord:List Int) (k:Nat):Str:=(kN l (ord.getD k (0:Int))).1
def mP (o:List Str) (l:List aL) (p m:Nat):List Str:=(gK (fU l (dU o l p)) m).map (Bo l (dU o l p))
theorem ZG {l:List aL} {ord:List Int} (h:∀ k∈ord,0<=k/\k<(l.length:Int)) {pk:List Nat} (hk:∀ k∈pk,k<ord.length) {i:Nat} (hi:i<pk.length) :
  aD (i:Int) (gL pk).length=true/\(gL pk).getD ((i:Int)).toNat (0:Int)=(pk[i]:Int)/\aD (pk[i]:Int) ord.length=true/\aD (ord.getD ((pk[i]:Int)).toNat (0:Int)) l.length=true/\(l.getD ((ord.getD ((pk[i]:Int)).toNat (0:Int)).toNat) (aS bH:aL)).1=Bo l ord pk[i]:=by
 have hlt:=hk _ (List.getElem_mem hi)
 have hlen:(gL pk).length=pk.length:=List.length_map ..
 obtain ⟨k1,k2⟩:=h _ (List.getElem_mem hlt)
 refine ⟨bQ (by rw [hlen]; exact hi),Ka hi,bQ hlt,?_,?_⟩
 ·rw [Int.toNat_natCast,getD_lt _ _ _ hlt]
  obtain ⟨k,hk⟩:∃ k:Nat,ord[pk[i]]=(k:Int):=⟨ord[pk[i]].toNat,by omega⟩
  rw [hk] at k2 ⊢
  exact bQ (by omega)
 ·rw [Int.toNat_natCast]; rfl
theorem aj1 {o:List Str} {l:List aL} {p:Nat} (ho:o.length<=1000) (hl:l.length<=100) (hp:p<o.length) {many:Nat} (hm:many<=1000):(I4 o l (p:Int) (many:Int)).run=some (mP o l p (min many l.length)):=by
 have hol:=xD o l p
 have hin:∀ k∈dU o l p,0<=k/\k<(l.length:Int):=fun k hk=>JO.1 hk
 obtain ⟨r1,r2,hL⟩:=ajZ (l:=l) (ord:=dU o l p) (by omega) (by omega) hin (many:Int)
 have hpl:=qJ l (dU o l p)
 have hmn:min many l.length<=(fU l (dU o l p)).length:=by omega
 have hpk:=Je hmn
 have hlt:=AQ _ _ _ _ _ _ _ (qP hmn)
 unfold I4
 refine (aN (ajX ho (by omega) hp)).trans ?_
 refine (aN (a:=(((),((),())),(([]:List (Str×Int)),(((),()),())))) rfl).trans ?_
 refine (aN (a:=(((),((),())),(([]:List (Str×Int)),(((),()),())))) rfl).trans ?_
 refine (aN ((dI _ _).trans hL)).trans ?_
 rw [uL,show min (many:Int) (l.length:Int)=((min many l.length:Nat):Int) from by omega]
 refine (aN (aaa (by omega) hmn)).trans ?_
 have hlen:(gL (gK (fU l (dU o l p)) (min many l.length))).length=(gK (fU l (dU o l p)) (min many l.length)).length:=List.length_map ..
 refine (aN ((dI _ _).trans (fw (a:=mP o l p (min many l.length)) (S:=fun i=>((i:Int),((gK (fU l (dU o l p)) (min many l.length)).take i).map (Bo l (dU o l p)))) (n:=(gK (fU l (dU o l p)) (min many l.length)).length) (fun i hi=>?_) ?_ rfl))).trans rfl
 ·obtain ⟨k1,k2,k3,k4,k5⟩:=ZG (l:=l) (ord:=dU o l p) hin (pk:=gK (fU l (dU o l p)) (min many l.length)) (fun k hk=>by have:=hlt k hk; omega) hi
  rw [jq hi,List.map_append]
  dsimp only
  unfold Ay
  refine (bA (decide_eq_true (by show (i:Int)<((gL _).length:Int); rw [hlen]; omega))).trans ?_
  refine (aM k1).trans ?_
  rw [show ((gK (fU l (dU o l p)) (min many l.length)).map fun j:Nat=>(j:Int)).getD ((i:Int)).toNat (0:Int)=_ from k2]
  refine (aM k3).trans ?_
  refine (aM k4).trans ?_
  rw [k5,di i (by omega)]
  exact (aM (room_le _ _ (by simp only [List.length_append,List.length_cons,List.length_nil,List.length_take,List.length_map]; omega) (by omega))).trans rfl
 ·show (Ay _ _ _ _ _ _ _ _).run=_
  unfold Ay
  rw [List.take_of_length_le (Nat.le_refl _)]
  exact (bn (decide_eq_false (by show ¬ ((_:Nat):Int)<((gL _).length:Int); rw [hlen]; omega))).trans rfl
theorem aj2 {o:List Str} {l:List aL} {p:Nat} (ho:o.length<=1000) (hl:l.length<=10) (hp:p<o.length) {many:Nat} (hm:many<=1000):(HZ o l (p:Int) (many:Int)).run=some (mP o l p (min many l.length)):=by
 have hol:=xD o l p
 have hin:∀ k∈dU o l p,0<=k/\k<(l.length:Int):=fun k hk=>JO.1 hk
 have hpl:=qJ l (dU o l p)
 have hmn:min many l.length<=(fU l (dU o l p)).length:=by omega
 have hpk:=Je hmn
 have hlt:=AQ _ _ _ _ _ _ _ (qP hmn)
 unfold HZ
 refine (aN (ajW ho (by omega) hp)).trans ?_
 refine (aN (aj0 (by omega) (by omega) hin)).trans ?_
 rw [uL,show min (many:Int) (l.length:Int)=((min many l.length:Nat):Int) from by omega]
 refine (aN (aaj (by omega) hmn)).trans ?_
 have hlen:(gL (gK (fU l (dU o l p)) (min many l.length))).length=(gK (fU l (dU o l p)) (min many l.length)).length:=List.length_map ..
 refine (aN ((dI _ _).trans (fw (a:=mP o l p (min many l.length)) (S:=fun i=>((i:Int),((gK (fU l (dU o l p)) (min many l.length)).take i).map (Bo l (dU o l p)))) (n:=(gK (fU l (dU o l p)) (min many l.length)).length) (fun i hi=>?_) ?_ rfl))).trans rfl
 ·obtain ⟨k1,k2,k3,k4,k5⟩:=ZG (l:=l) (ord:=dU o l p) hin (pk:=gK (fU l (dU o l p)) (min many l.length)) (fun k hk=>by have:=hlt k hk; omega) hi
  rw [jq hi,List.map_append]
  dsimp only
  unfold zS
  refine (bA (decide_eq_true (by rw [hlen]; omega))).trans ?_
  refine (aM k1).trans ?_
  rw [k2]
  refine (aM k3).trans ?_
  refine (aM k4).trans ?_
  rw [k5,di i (by omega)]
  exact (aM (room_le _ _ (by simp only [List.length_append,List.length_cons,List.length_nil,List.length_take,List.length_map]; omega) (by omega))).trans rfl
 ·show (zS _ _ _ _ _).run=_
  unfold zS
  rw [List.take_of_length_le (Nat.le_refl _)]
  exact (bn (decide_eq_false (by rw [hlen]; omega))).trans rfl
def l5 (o:List Str) (l:List aL) (p:Nat) (c:Int):List Str:=if 1<=c/\c<=16 then mP o l p (min c.toNat l.length) else []
theorem aj3 {o:List Str} {l:List aL} {p:Nat} (ho:o.length<=1000) (hl:l.length<=100) (hp:p<o.length) (c:Int):(I5 o l (p:Int) c).run=some (l5 o l p c):=by
 unfold I5 l5
 refine (aN (a:=((decide ((1:Int)<=c))&&(decide (c<=16)))) rfl).trans ?_
 by_cases h:1<=c/\c<=16
 ·obtain ⟨m,rfl⟩:∃ m:Nat,c=(m:Int):=⟨c.toNat,by omega⟩
  rw [if_pos h,decide_eq_true h.1,decide_eq_true h.2,Int.toNat_natCast]
  refine (bn rfl).trans ?_
  exact (aN (aj1 ho hl hp (by omega))).trans rfl
 ·rw [if_neg h]
  refine (bA ?_).trans rfl
  rw [Bool.not_eq_true',Bool.and_eq_false_iff,decide_eq_false_iff_not,decide_eq_false_iff_not]; omega
theorem aj4 {o:List Str} {l:List aL} {p:Nat} (ho:o.length<=1000) (hl:l.length<=10) (hp:p<o.length) (c:Int):(Dt o l (p:Int) c).run=some (l5 o l p c):=by
 unfold Dt l5
 by_cases h:1<=c/\c<=16
 ·obtain ⟨m,rfl⟩:∃ m:Nat,c=(m:Int):=⟨c.toNat,by omega⟩
  rw [if_pos h,Int.toNat_natCast]
  refine (bn ?_).trans ?_
  ·rw [Bool.or_eq_false_iff,decide_eq_false_iff_not,decide_eq_false_iff_not]; omega
  ·exact (aN (aj2 ho hl hp (by omega))).trans rfl
 ·rw [if_neg h]
  refine (bA ?_).trans rfl
  rw [Bool.or_eq_true,decide_eq_true_iff,decide_eq_true_iff]; omega
def dS (l:List Entry) (c:Int):List (List Str):=(List.range 16).map fun p=>l5 (dY l 16) (bI l) p c
theorem rW (l:List Entry) (c:Int):(dS l c).length=16:=by unfold dS; rw [List.length_map,List.length_range]
theorem ZH {α:Type} (f:Nat->α) {i:Nat}:(List.range (i+1)).map f=(List.range i).map f++[f i]:=by rw [List.range_succ,List.map_append]; rfl
theorem Bn {l:List Entry} (hl:iD l) (hm:(bI l).length<=100) (c:Int):(qx l c).run=some (dS l c):=by
 have hl1:=hl.1
 have ho:(dY l 16).length=16:=o8 l 16
 unfold qx
 refine (aN (Y1 l 16 (by omega) (by omega) (by omega))).trans ?_
 refine (aN (Ja l hl)).trans ?_
 refine (aN ((dI _ _).trans (fw (a:=dS l c) (S:=fun i=>((i:Int),(List.range i).map fun p=>l5 (dY l 16) (bI l) p c)) (n:=16) (fun i hi=>?_) ?_ rfl))).trans rfl
 ·rw [ZH]
  dsimp only
  unfold Az
  refine (bA (decide_eq_true (by omega))).trans ?_
  refine (aN (a:=l5 (dY l 16) (bI l) i c) ?_).trans ?_
  ·unfold I6
   exact (aN (aj3 (by omega) hm (by omega) c)).trans rfl
  ·rw [di i (by omega)]
   exact (aM (room_le _ _ (by simp only [List.length_append,List.length_cons,List.length_nil,List.length_map,List.length_range]; omega) (by omega))).trans rfl
 ·show (Az _ _ _ _ _).run=_
  unfold Az
  exact (bn (decide_eq_false (by omega))).trans rfl
theorem JJ {l:List Entry} (hl:iD l) (hm:(bI l).length<=10) (c:Int):(wT l c).run=some (dS l c):=by
 have hl1:=hl.1
 have ho:(dY l 16).length=16:=o8 l 16
 unfold wT
 refine (aN (Y2 l 16 hl (by omega) (by omega))).trans ?_
 refine (aN (AJ l hl)).trans ?_
 refine (aN ((dI _ _).trans (fw (a:=dS l c) (S:=fun i=>((i:Int),(List.range i).map fun p=>l5 (dY l 16) (bI l) p c)) (n:=16) (fun i hi=>?_) ?_ rfl))).trans rfl
 ·rw [ZH]
  dsimp only
  unfold zT
  refine (bA (decide_eq_true (by omega))).trans ?_
  refine (aN (aj4 (by omega) hm (by omega) c)).trans ?_
  rw [di i (by omega)]
  exact (aM (room_le _ _ (by simp only [List.length_append,List.length_cons,List.length_nil,List.length_map,List.length_range]; omega) (by omega))).trans rfl
 ·show (zT _ _ _ _ _).run=_
  unfold zT
  exact (bn (decide_eq_false (by omega))).trans rfl
end Go.aT
