/- Laws in plain Lean: m16 a16 b16 c16 c57 d57. -/
import Derived.Test.YtjkhncojgilbaaaGreatDoorL57
import Derived.Test.YtjkhncojgilbaaaGreatDoorT57
namespace Go.aT
open Go Go.Proofs Go.RowKit
def dE {α:Type} (t t':Tree α):Prop:=∀ y,t.run=some y->t'.run=some y
theorem dE.rfl {α:Type} (t:Tree α):dE t t:=fun _ h=>h
theorem dE.ite {α:Type} {c:Bool} {a b a' b':Tree α} (h:dE a a') (k:dE b b'):dE (.ite c a b) (.ite c a' b'):=by
 cases c
 ·exact k
 ·exact h
theorem dE.fail {α:Type} (t:Tree α):dE .fail t:=fun y h=>by cases h
theorem dE.bnd {α β:Type} {t t':Tree α} {k k':α->Tree β} (h:dE t t') (hk:∀ a,dE (k a) (k' a)):dE (.bnd t k) (.bnd t' k'):=fun y hy=>by
 cases ht:t.run with
 | none=>simp only [Tree.run,ht] at hy; cases hy
 | some a =>
  simp only [Tree.run,ht] at hy
  simp only [Tree.run,h a ht]
  exact hk a y hy
theorem dE.both {α:Type} {a b a' b':Tree α} (h:dE a a') (k:dE b b'):dE (.both a b) (.both a' b'):=fun y hy=>by
 simp only [Tree.run] at hy ⊢
 split at hy
 ·rename_i e
  rw [h y hy,k y (e▸hy)]; exact if_pos (by trivial)
 ·cases hy
theorem dE.sum {α β γ:Type} {s:α⊕β} {k k':α->Tree γ} {l l':β->Tree γ} (h:∀ a,dE (k a) (k' a)) (h':∀ a,dE (l a) (l' a)):dE (.sum s k l) (.sum s k' l'):=by
 cases s with
 | inl a=>exact h a
 | inr b=>exact h' b
theorem dE.loop {σ α:Type} {f f':σ->Tree (σ⊕α)} {s:σ} (h:∀ s,dE (f s) (f' s)):dE (.loop f s) (.loop f' s):=fun y hy=>by
 replace hy:mU (fun s=>(f s).run) s y:=qM.1 hy
 show dP (fun s=>(f' s).run) s=some y
 rw [qM]
 induction hy with
 | more h1 _ ih=>exact .more (h _ _ h1) ih
 | done h1=>exact .done (h _ _ h1)
theorem Re {α:Type} {F:Nat->Tree α} (hm:∀ n,dE (F n) (F (n+1))) {n:Nat} {a:α} (h:(F n).run=some a):(uG F).run=some a:=by
 have hle:∀ k n y,(F n).run=some y->(F (n+k)).run=some y:=fun k=>by
  induction k with
  | zero=>exact fun n y h=>h
  | succ k ih=>exact fun n y h=>hm _ y (ih n y h)
 obtain ⟨m,b,h1,h2⟩:=ZI h
 have e1:=hle n m b h1
 have e2:=hle m n a h
 rw [Nat.add_comm] at e1
 rw [e1] at e2
 cases e2
 exact h2
theorem Rf {σ α:Type} {f:σ->Tree (σ⊕α)} (I:σ->Prop) (mu:σ->Nat) (Q:α->Prop) (h:∀ s,I s->(∃ s',(f s).run=some (.inl s')/\I s'/\mu s'<mu s)\/∃ a,(f s).run=some (.inr a)/\Q a) (s:σ) (hs:I s) :
  ∃ a,(Tree.loop f s).run=some a/\Q a:=by
 obtain ⟨n,hn⟩:∃ n,mu s=n:=⟨_,rfl⟩
 induction n using Nat.strongRecOn generalizing s with
 | _ n ih =>
  rcases h s hs with ⟨s',h1,h2,h3⟩ | ⟨a,h1,h2⟩
  ·obtain ⟨a,k1,k2⟩:=ih (mu s') (hn▸h3) s' h2 rfl
   refine ⟨a,?_,k2⟩
   have k1:dP (fun s=>(f s).run) s'=some a:=k1
   show dP (fun s=>(f s).run) s=some a
   rw [qM] at k1 ⊢
   exact .more h1 k1
  ·refine ⟨a,?_,h2⟩
   show dP (fun s=>(f s).run) s=some a
   rw [qM]
   exact .done h1
theorem dI {σ α:Type} (f:σ->Tree (σ⊕α)) (s:σ):(Tree.loop f s).run=dP (fun s=>(f s).run) s:=rfl
abbrev IM:Type:=List (Int×Int)
abbrev tI:Ty:=.int .i64
def gI (x:IM) (k:Int):Option Int:=getM tI tI x k
def pI (x:IM) (k v:Int):IM:=dn tI tI x k v
theorem Rh (k:Int):gI [] k=none:=rfl
theorem uH (p:Int×Int) (x:IM) (q:Int):gI (p::x) q=if q=p.1 then some p.2 else gI x q:=by
 show (bif decide (q=p.1) then some p.2 else gI x q)=_
 by_cases e:q=p.1
 ·rw [if_pos e,decide_eq_true e]; rfl
 ·rw [if_neg e,decide_eq_false e]; rfl
theorem JV (p:Int×Int) (x:IM) (k v:Int):pI (p::x) k v=if k=p.1 then (k,v)::x else p::pI x k v:=by
 show (bif decide (k=p.1) then (k,v)::x else p::pI x k v)=_
 by_cases e:k=p.1
 ·rw [if_pos e,decide_eq_true e]; rfl
 ·rw [if_neg e,decide_eq_false e]; rfl
theorem Bq (x:IM) (k v q:Int):gI (pI x k v) q=if q=k then some v else gI x q:=by
 induction x with
 | nil=>exact uH (k,v) [] q
 | cons p x ih =>
  rw [JV]
  by_cases e:k=p.1
  ·rw [if_pos e,uH,uH]
   by_cases e2:q=k
   ·rw [if_pos e2,if_pos e2]
   ·rw [if_neg e2,if_neg e2,if_neg (fun h=>e2 (h.trans e.symm))]
  ·rw [if_neg e,uH,uH,ih]
   by_cases e2:q=p.1
   ·rw [if_pos e2,if_pos e2,if_neg (fun h=>e (h.symm.trans e2))]
   ·rw [if_neg e2,if_neg e2]
theorem JW {x:IM} {k:Int}:k∈x.map (·.1)↔gI x k≠none:=by
 induction x with
 | nil=>simp [Rh]
 | cons p x ih =>
  rw [List.map_cons,List.mem_cons,uH]
  by_cases e:k=p.1
  ·rw [if_pos e]; simp [e]
  ·rw [if_neg e,<- ih]; simp [e]
theorem JX (x:IM) (k v:Int):(pI x k v).map (·.1)=if k∈x.map (·.1) then x.map (·.1) else x.map (·.1)++[k]:=by
 induction x with
 | nil=>rfl
 | cons p x ih =>
  rw [JV]
  by_cases e:k=p.1
  ·rw [if_pos e,if_pos (by rw [List.map_cons,e]; exact List.mem_cons_self),List.map_cons,List.map_cons,e]
  ·rw [if_neg e,List.map_cons,ih,List.map_cons]
   by_cases h:k∈x.map (·.1)
   ·rw [if_pos h,if_pos (List.mem_cons_of_mem _ h)]
   ·rw [if_neg h,if_neg (fun q=>(List.mem_cons.1 q).elim e h)]; rfl
theorem Ri (x:IM) (k v z:Int):(fK tI tI x k z).modify (iF tI tI x k) (fun q=>(q.1,v))=pI x k v/\iF tI tI x k<(fK tI tI x k z).length/\(fK tI tI x k z).length=(pI x k v).length:=by
 induction x with
 | nil=>exact ⟨rfl,Nat.lt_succ_self _,rfl⟩
 | cons p x ih =>
  have he:fK tI tI (p::x) k z=if k=p.1 then p::x else p::fK tI tI x k z:=by
   unfold fK
   rw [show getM tI tI (p::x) k=if k=p.1 then some p.2 else getM tI tI x k from uH p x k]
   by_cases e:k=p.1
   ·rw [if_pos e,if_pos e]
   ·rw [if_neg e,if_neg e]
    cases getM tI tI x k <;> rfl
  have hp:iF tI tI (p::x) k=if k=p.1 then 0 else iF tI tI x k+1:=by
   show (bif decide (k=p.1) then 0 else iF tI tI x k+1)=_
   by_cases e:k=p.1
   ·rw [if_pos e,decide_eq_true e]; rfl
   ·rw [if_neg e,decide_eq_false e]; rfl
  rw [he,hp,JV]
  by_cases e:k=p.1
  ·rw [if_pos e,if_pos e,if_pos e]
   exact ⟨by rw [e]; rfl,Nat.succ_pos _,rfl⟩
  ·rw [if_neg e,if_neg e,if_neg e]
   obtain ⟨h1,h2,h3⟩:=ih
   exact ⟨by rw [List.modify_succ_cons,h1],Nat.succ_lt_succ h2,by rw [List.length_cons,List.length_cons,h3]⟩
structure Wf (x:IM) (K:List Int):Prop where
 once:(x.map (·.1)).Nodup
 sub:∀ k,gI x k≠none->k∈K
theorem Wf.len {x:IM} {K:List Int} (h:Wf x K):x.length<=K.length:=by
 have:=ko h.once fun k hk=>h.sub k (JW.1 hk)
 rwa [List.length_map] at this
theorem Wf.nil (K:List Int):Wf [] K:=⟨List.nodup_nil,fun k h=>absurd rfl h⟩
theorem Wf.put {x:IM} {K:List Int} (h:Wf x K) {k:Int} (hk:k∈K) (v:Int):Wf (pI x k v) K:=by
 refine ⟨?_,fun q hq=>?_⟩
 ·rw [JX]
  split
  ·exact h.once
  ·rename_i hn
   rw [List.nodup_append]
   refine ⟨h.once,List.nodup_cons.2 ⟨List.not_mem_nil,List.nodup_nil⟩,fun a ha b hb e=>?_⟩
   rw [List.mem_singleton] at hb
   exact hn (by rw [<- hb,<- e]; exact ha)
 ·rw [Bq] at hq
  by_cases e:q=k
  ·rw [e]; exact hk
  ·rw [if_neg e] at hq; exact h.sub q hq
theorem ZJ (x:IM) (k v:Int) (h:gI x k=none):(pI x k v).length=x.length+1:=by
 have e:=congrArg List.length (JX x k v)
 rw [if_neg (fun hm=>JW.1 hm h)] at e
 simpa using e
theorem Rj (x:IM) (k v:Int):x.length<=(pI x k v).length:=by
 have e:=congrArg List.length (JX x k v)
 rw [List.length_map] at e
 rw [e]
 split <;> simp
def gZ (x:IM):Pf:=fun q=>(gI x q).map Int.toNat
theorem EF (x:IM) (k:Int) (i:Nat):gZ (pI x k (i:Int))=upd (gZ x) k i:=by
 funext q
 show (gI (pI x k (i:Int)) q).map Int.toNat=if q=k then some i else (gI x q).map Int.toNat
 rw [Bq]
 by_cases e:q=k
 ·rw [if_pos e,if_pos e]; rfl
 ·rw [if_neg e,if_neg e]
def xI (x:IM):Prop:=∀ q a,gI x q=some a->0<=a
theorem xI.put {x:IM} (h:xI x) (k:Int) (i:Nat):xI (pI x k (i:Int)):=fun q a hq=>by
 rw [Bq] at hq
 by_cases e:q=k
 ·rw [if_pos e] at hq; cases hq; omega
 ·rw [if_neg e] at hq; exact h q a hq
theorem Br {x:IM} {q:Int}:gZ x q=none↔gI x q=none:=by
 unfold gZ; cases gI x q <;> simp
theorem ZK {x:IM} (h:xI x) {q:Int} {a:Nat}:gZ x q=some a↔gI x q=some (a:Int):=by
 unfold gZ
 cases hq:gI x q with
 | none=>simp
 | some b =>
  have:=h q b hq
  simp only [Option.map_some,Option.some.injEq]
  omega
def ones (x:IM):Prop:=∀ q a,gI x q=some a->a=1
def jF (x:IM):Int->Prop:=fun q=>gI x q=some 1
theorem ones.put {x:IM} (h:ones x) (k:Int):ones (pI x k 1):=fun q a hq=>by
 rw [Bq] at hq
 by_cases e:q=k
 ·rw [if_pos e] at hq; cases hq; rfl
 ·rw [if_neg e] at hq; exact h q a hq
theorem Rk (x:IM) (k:Int):jF (pI x k 1)=fun q=>jF x q\/q=k:=by
 funext q
 show (gI (pI x k 1) q=some 1)=(gI x q=some 1\/q=k)
 rw [Bq]
 by_cases e:q=k
 ·rw [if_pos e]; simp [e]
 ·rw [if_neg e]; simp [e]
theorem ones.pos {x:IM} (h:ones x) (q:Int):decide ((0:Int)<(gI x q).getD 0)=true↔jF x q:=by
 unfold jF
 cases hq:gI x q with
 | none=>simp
 | some a=>rw [h q a hq]; simp
theorem ones.not {x:IM} (h:ones x) {q:Int} (hn:¬ jF x q):gI x q=none:=by
 cases hq:gI x q with
 | none=>rfl
 | some a=>exact absurd (by unfold jF; rw [hq,h q a hq]) hn
abbrev JY:Type:=Bool×((Unit×Unit)×((Unit×Unit)×(((Unit×(Unit×(Unit×(Unit×Unit))))×Unit)×(((List (Int×Int))×(Unit×(Unit×Unit)))×((List (Int×Int))×((List (Int×Int))×((List (Int×Int))×Unit)))))))
def JZ (b:Bool) (l seen left right:IM):JY:=(b,(((),()),(((),()),((((),((),((),((),())))),()),((l,((),((),()))),(seen,(left,(right,()))))))))
theorem getD_at {l:IM} {i:Nat} {p:Int×Int} (h:l[i]? = some p):l.getD ((i:Int)).toNat (aS (.pair tI tI):Int×Int)=p:=by
 rw [Int.toNat_natCast,List.getD_eq_getElem?_getD,h]; rfl
theorem bQ {i n:Nat} (h:i<n):aD (i:Int) n=true:=by
 show decide ((0:Int)<=(i:Int)/\(i:Int)<(n:Int))=true
 rw [decide_eq_true_eq]; omega
theorem jG:aD 0 2=true:=rfl
theorem qN:aD 1 2=true:=rfl
theorem Rl {β:Type} (left right:IM) (u v t3:Int) (hl:(pI left u t3).length<=1000) (hr:(pI right v t3).length<=1000) (F:IM->IM->β) :
  (ask (decide ((fK tI tI left u (0:Int)).length<=9223372036854775807))<|ask (aD ((iF tI tI left u:Nat):Int) (fK tI tI left u (0:Int)).length) <|
   ask (decide ((fK tI tI right v (0:Int)).length<=9223372036854775807))<|ask (aD ((iF tI tI right v:Nat):Int) (fK tI tI right v (0:Int)).length) <|
   Tree.ret (F ((fK tI tI left u (0:Int)).modify ((iF tI tI left u:Nat):Int).toNat fun q=>(q.1,t3)) ((fK tI tI right v (0:Int)).modify ((iF tI tI right v:Nat):Int).toNat fun q=>(q.1,t3)))).run=some (F (pI left u t3) (pI right v t3)):=by
 obtain ⟨a1,a2,a3⟩:=Ri left u t3 0
 obtain ⟨b1,b2,b3⟩:=Ri right v t3 0
 refine (aM (decide_eq_true (by omega))).trans ?_
 refine (aM (bQ a2)).trans ?_
 refine (aM (decide_eq_true (by omega))).trans ?_
 refine (aM (bQ b2)).trans ?_
 rw [Int.toNat_natCast,Int.toNat_natCast,a1,b1]
 rfl
section
variable {r:Int->IM->IM->IM->IM->Tree JY} {l seen left right:IM} {u:Int} {i:Nat} {v:Int}
theorem ZL:(mV r u l (l.length:Int) (l.length:Int) l seen left right).run=some (.inr (.inr (l,seen,left,right))) :=
 (bn (decide_eq_false (by omega))).trans rfl
theorem ZM {u':Int} (hl:l.length<=1000) (h:l[i]? = some (u',v)) (ho:ones seen) (hc:u'≠u\/jF seen v) :
  (mV r u l (l.length:Int) (i:Int) l seen left right).run=some (.inl (((i+1:Nat):Int),l,seen,left,right)):=by
 have hi:=(List.getElem?_eq_some_iff.1 h).1
 unfold mV
 rw [getD_at h]
 refine (bA (decide_eq_true (by omega))).trans ?_
 refine (aM (bQ hi)).trans ?_
 refine (aM jG).trans ?_
 refine (aM (by simp [qN])).trans ?_
 refine (bA ?_).trans ?_
 ·rw [Bool.or_eq_true]
  rcases hc with hc | hc
  ·left; simpa using hc
  ·right; exact (ho.pos v).2 hc
 ·rw [di i (by omega)]; rfl
theorem ZN (hl:l.length<=1000) (h:l[i]? = some (u,v)) (hn:gI seen v=none) (hr:gI right v=none) (h1:(pI seen v 1).length<=1000) (h2:(pI left u (i:Int)).length<=1000) (h3:(pI right v (i:Int)).length<=1000) :
  (mV r u l (l.length:Int) (i:Int) l seen left right).run=some (.inr (.inl (true,l,pI seen v 1,pI left u (i:Int),pI right v (i:Int)))):=by
 have hi:=(List.getElem?_eq_some_iff.1 h).1
 unfold mV
 rw [getD_at h]
 have hn':getM tI tI seen v=none:=hn
 have hr':getM tI tI right v=none:=hr
 simp only
 refine (bA (decide_eq_true (by omega))).trans ?_
 refine (aM (bQ hi)).trans ?_
 refine (aM jG).trans ?_
 refine (aM (by simp [qN])).trans ?_
 refine (bn (by rw [hn']; simp)).trans ?_
 refine (aM qN).trans ?_
 refine (aM (decide_eq_true (show (pI seen v 1).length<=9223372036854775807 by omega))).trans ?_
 refine (aM qN).trans ?_
 refine (aM (by rw [hr']; rfl)).trans ?_
 refine (aM (by rw [hr']; rfl)).trans ?_
 refine (bn (by rw [hr']; rfl)).trans ?_
 refine (bA (by rw [hr']; rfl)).trans ?_
 refine (aM qN).trans ?_
 have hA:=Rl left right u v (i:Int) h2 h3 (fun a b=>(Sum.inr (Sum.inl (true,l,pI seen v 1,a,b)):(Int×IM×IM×IM×IM)⊕((Bool×IM×IM×IM×IM)⊕(IM×IM×IM×IM))))
 exact Tree.pg (Tree.pg hA (Tree.pg hA hA)) (Tree.pg (Tree.pg hA hA) hA)
theorem g_call {o:Nat} {w v':Int} {b:Bool} {seen' left' right':IM} (hl:l.length<=1000) (h:l[i]? = some (u,v)) (hn:gI seen v=none) (hr:gI right v=some (o:Int)) (ho:l[o]? = some (w,v')) (h1:(pI seen v 1).length<=1000)
  (hc:(r w l (pI seen v 1) left right).run=some (JZ b l seen' left' right')) (h2:(pI left' u (i:Int)).length<=1000) (h3:(pI right' v (i:Int)).length<=1000) :
  (mV r u l (l.length:Int) (i:Int) l seen left right).run=some (match b with
   | true=>.inr (.inl (true,l,seen',pI left' u (i:Int),pI right' v (i:Int)))
   | false=>.inl (((i+1:Nat):Int),l,seen',left',right')):=by
 have hi:=(List.getElem?_eq_some_iff.1 h).1
 have hoi:=(List.getElem?_eq_some_iff.1 ho).1
 unfold mV
 rw [getD_at h]
 have hn':getM tI tI seen v=none:=hn
 have hr':getM tI tI right v=some (o:Int):=hr
 simp only
 refine (bA (decide_eq_true (by omega))).trans ?_
 refine (aM (bQ hi)).trans ?_
 refine (aM jG).trans ?_
 refine (aM (by simp [qN])).trans ?_
 refine (bn (by rw [hn']; simp)).trans ?_
 refine (aM qN).trans ?_
 refine (aM (decide_eq_true (show (pI seen v 1).length<=9223372036854775807 by omega))).trans ?_
 refine (aM qN).trans ?_
 rw [hr']
 refine (aM (by rw [Bool.or_eq_true]; exact .inr (bQ hoi))).trans ?_
 refine (aM (by rw [Bool.or_eq_true]; exact .inr jG)).trans ?_
 refine (bA rfl).trans ?_
 rw [show (some (o:Int)).getD (0:Int)=(o:Int) from rfl,getD_at ho]
 refine (aN hc).trans ?_
 cases b with
 | false=>rw [di i (by omega)]; rfl
 | true =>
  refine (bA rfl).trans ?_
  refine (aM qN).trans ?_
  have hA:=Rl left' right' u v (i:Int) h2 h3 (fun a b=>(Sum.inr (Sum.inl (true,l,seen',a,b)):(Int×IM×IM×IM×IM)⊕((Bool×IM×IM×IM×IM)⊕(IM×IM×IM×IM))))
  exact Tree.pg (Tree.pg hA (Tree.pg hA hA)) (Tree.pg (Tree.pg hA hA) hA)
end
abbrev lefts (l:IM):List Int:=l.map (·.1)
abbrev xJ (l:IM):List Int:=l.map (·.2)
theorem mem_left {l:IM} {i:Nat} {u v:Int} (h:l[i]? = some (u,v)):u∈lefts l:=List.mem_map.2 ⟨(u,v),List.mem_of_getElem? h,rfl⟩
theorem mem_right {l:IM} {i:Nat} {u v:Int} (h:l[i]? = some (u,v)):v∈xJ l:=List.mem_map.2 ⟨(u,v),List.mem_of_getElem? h,rfl⟩
structure Sn (l seen:IM):Prop where
 wf:Wf seen (xJ l)
 one:ones seen
structure Pl (l left right:IM):Prop where
 wl:Wf left (lefts l)
 wr:Wf right (xJ l)
 nl:xI left
 nr:xI right
theorem Sn.put {l seen:IM} (h:Sn l seen) {v:Int} (hv:v∈xJ l):Sn l (pI seen v 1):=⟨h.wf.put hv 1,h.one.put v⟩
theorem Pl.put {l left right:IM} (h:Pl l left right) {u v:Int} (hu:u∈lefts l) (hv:v∈xJ l) (i:Nat):Pl l (pI left u (i:Int)) (pI right v (i:Int)):=⟨h.wl.put hu _,h.wr.put hv _,h.nl.put u i,h.nr.put v i⟩
theorem EG {l x:IM} (h:Wf x (xJ l)):x.length<=l.length:=by have:=h.len; rwa [List.length_map] at this
theorem J2 {l x:IM} (h:Wf x (lefts l)):x.length<=l.length:=by have:=h.len; rwa [List.length_map] at this
structure EH (l seen left right:IM) (u:Int) (b:Bool) (seen' left' right':IM):Prop where
 sn:Sn l seen'
 pl:Pl l left' right'
 grow:seen.length<=seen'.length
 on:b=true->l8 l (gZ left) (gZ right) (jF seen) u (gZ left') (gZ right')
 off:b=false->left'=left/\right'=right/\mW l (gZ right) (jF seen) u l.length (jF seen')
theorem ZO {l:IM} (hl:l.length<=100):∀ (n:Nat) (u:Int) (seen left right:IM),Sn l seen->Pl l left right->Valid l (gZ left) (gZ right)->l.length<n+seen.length ->
  ∃ b seen' left' right',(mY n u l seen left right).run=some (JZ b l seen' left' right')/\EH l seen left right u b seen' left' right':=by
 intro n
 induction n with
 | zero =>
  intro u seen left right hs _ _ hf
  have:=EG hs.wf
  omega
 | succ n ih =>
  intro u seen left right hs hp hV hf
  show ∃ b seen' left' right',(uI (mY n) u l seen left right).run=some (JZ b l seen' left' right')/\EH l seen left right u b seen' left' right'
  unfold uI
  obtain ⟨a,h1,b,seen',left',right',h2,h3⟩:=Rf (f:=fun v:Int×IM×IM×IM×IM=>mV (mY n) u l (l.length:Int) v.1 v.2.1 v.2.2.1 v.2.2.2.1 v.2.2.2.2)
   (fun s=>∃ (i:Nat) (si:IM),i<=l.length/\s=((i:Int),l,si,left,right)/\Sn l si/\seen.length<=si.length/\mW l (gZ right) (jF seen) u i (jF si)) (fun s=>l.length-s.1.toNat)
   (fun a=>∃ b seen' left' right',a=(match b with | true=>.inl (true,l,seen',left',right') | false=>.inr (l,seen',left',right'))/\EH l seen left right u b seen' left' right')
   (by
    rintro s ⟨i,si,hi,rfl,hsi,hle,hF⟩
    by_cases hlt:i<l.length
    case neg =>
     have:i=l.length:=by omega
     subst this
     right
     exact ⟨_,ZL,false,si,left,right,rfl,hsi,hp,hle,fun h=>(by cases h),fun _=>⟨rfl,rfl,hF⟩⟩
    obtain ⟨⟨u',v⟩,h⟩:∃ p,l[i]? = some p:=⟨_,List.getElem?_eq_getElem hlt⟩
    by_cases hc:u'≠u\/jF si v
    ·left
     refine ⟨_,ZM (by omega) h hsi.one hc,⟨i+1,si,hlt,rfl,hsi,hle,hF.skip fun z hz=>?_⟩,?_⟩
     ·rw [h] at hz; cases hz
      exact hc.resolve_left fun e=>e rfl
     ·show l.length-(((i+1:Nat):Int)).toNat<l.length-((i:Int)).toNat
      rw [Int.toNat_natCast,Int.toNat_natCast]; omega
    ·have hu:u'=u:=Classical.byContradiction fun e=>hc (.inl e)
     have hn:¬ jF si v:=fun e=>hc (.inr e)
     subst hu
     have hn':=hsi.one.not hn
     have hns:¬ jF seen v:=fun e=>hn (hF.mono v e)
     have hs2:=hsi.put (mem_right h)
     have b1:=EG hs2.wf
     cases hr:gI right v with
     | none =>
      right
      have hp2:=hp.put (mem_left h) (mem_right h) i
      have hg:=ZN (r:=mY n) (l:=l) (seen:=si) (left:=left) (right:=right) (u:=u') (i:=i) (v:=v) (by omega) h hn' hr (by omega) (by have:=J2 hp2.wl; omega) (by have:=EG hp2.wr; omega)
      refine ⟨_,hg,true,_,_,_,rfl,hs2,hp2,?_,fun _=>?_,fun e=>by cases e⟩
      ·have:=Rj si v 1; omega
      ·rw [EF,EF]
       exact .base h hns (Br.2 hr)
     | some a =>
      obtain ⟨o,rfl⟩:=Int.eq_ofNat_of_zero_le (hp.nr v a hr)
      have hR:gZ right v=some o:=(ZK hp.nr).2 hr
      obtain ⟨w,ho,hw⟩:=hV.rl v o hR
      obtain ⟨b,seen',left',right',k1,k2⟩:=ih w (pI si v 1) left right hs2 hp hV (by rw [ZJ si v 1 hn']; omega)
      have hp2:=k2.pl.put (mem_left h) (mem_right h) i
      have hg:=g_call (u:=u') (by omega) h hn' hr ho (by omega) k1 (by have:=J2 hp2.wl; omega) (by have:=EG hp2.wr; omega)
      have hgr:seen.length<=seen'.length:=by
       have:=Rj si v 1
       have:=k2.grow
       omega
      cases b with
      | false =>
       left
       obtain ⟨rfl,rfl,q3⟩:=k2.off rfl
       refine ⟨_,hg,⟨i+1,seen',hlt,rfl,k2.sn,hgr,?_⟩,?_⟩
       ·rw [Rk] at q3
        exact hF.more h hR ho q3
       ·show l.length-(((i+1:Nat):Int)).toNat<l.length-((i:Int)).toNat
        rw [Int.toNat_natCast,Int.toNat_natCast]; omega
      | true =>
       right
       refine ⟨_,hg,true,_,_,_,rfl,k2.sn,hp2,hgr,fun _=>?_,fun e=>by cases e⟩
       rw [EF,EF]
       have hin:jF (pI si v 1)=fun q=>jF si q\/q=v:=Rk si v
       exact .step h hns hR ho (fun x hx=>by rw [hin]; exact .inl (hF.mono x hx)) (by rw [hin]; exact .inr rfl) (k2.on rfl))
   (0,l,seen,left,right) ⟨0,seen,Nat.zero_le _,rfl,hs,Nat.le_refl _,.zero _ _ _ _⟩
  refine ⟨b,seen',left',right',(aN h1).trans ?_,h3⟩
  subst h2
  cases b <;> rfl
theorem ZP {r r':Int->IM->IM->IM->IM->Tree JY} (h:∀ a b c d e,dE (r a b c d e) (r' a b c d e)) (a:Int) (b c d e:IM):dE (uI r a b c d e) (uI r' a b c d e):=by
 unfold uI
 refine dE.bnd (dE.loop fun s=>?_) fun _=>dE.rfl _
 unfold mV
 repeat' (first | exact h _ _ _ _ _ | with_reducible refine dE.ite ?_ ?_ | with_reducible refine dE.bnd ?_ fun _=>?_ | exact dE.rfl _)
theorem Rm:∀ (n:Nat) (a:Int) (b c d e:IM),dE (mY n a b c d e) (mY (n+1) a b c d e)
 | 0,_,_,_,_,_=>dE.fail _
 | n+1,a,b,c,d,e=>ZP (Rm n) a b c d e
theorem Rn:jF []=fun _=>False:=by
 funext q
 show (gI [] q=some 1)=False
 rw [Rh]; simp
theorem Sn.nil (l:IM):Sn l []:=⟨.nil _,fun q a h=>by cases h⟩
theorem Pl.nil (l:IM):Pl l [] []:=⟨.nil _,.nil _,fun q a h=>(by cases h),fun q a h=>(by cases h)⟩
theorem ZQ {l:IM} (hl:l.length<=100) (u:Int) {left right:IM} (hp:Pl l left right) (hV:Valid l (gZ left) (gZ right)) :
  ∃ b seen' left' right',(EI u l left right).run=some ((),((l,((),((),()))),(left',(right',()))))/\EH l [] left right u b seen' left' right':=by
 obtain ⟨b,seen',left',right',h1,h2⟩:=ZO hl (l.length+1) u [] left right (.nil l) hp hV (by rw [List.length_nil]; omega)
 refine ⟨b,seen',left',right',?_,h2⟩
 unfold EI J3
 refine (aN (Re (F:=fun n=>mY n u l [] left right) (fun n=>Rm n _ _ _ _ _) h1)).trans ?_
 rfl
theorem ZR {l:IM} (hl:l.length<=100) :
  ∃ left right,(EJ l).run=some ((),(left,(right,((l,((),((),()))),()))))/\Pl l left right/\kr l l.length (gZ left) (gZ right):=by
 unfold EJ
 obtain ⟨a,h1,left,right,rfl,h2,h3⟩:=Rf (f:=fun v:Int×IM×IM×IM=>uJ l (l.length:Int) v.1 v.2.1 v.2.2.1 v.2.2.2)
  (fun s=>∃ (i:Nat) (left right:IM),i<=l.length/\s=((i:Int),left,right,l)/\Pl l left right/\kr l i (gZ left) (gZ right)) (fun s=>l.length-s.1.toNat)
  (fun a=>∃ left right,a=(left,right,l)/\Pl l left right/\kr l l.length (gZ left) (gZ right))
  (by
   rintro s ⟨i,left,right,hi,rfl,hp,hC⟩
   have dec:l.length-(((i+1:Nat):Int)).toNat<l.length-((i:Int)).toNat\/¬ i<l.length:=by
    rw [Int.toNat_natCast,Int.toNat_natCast]; omega
   show (∃ s',(uJ l (l.length:Int) (i:Int) left right l).run=some (.inl s')/\_/\_)\/∃ a,(uJ l (l.length:Int) (i:Int) left right l).run=some (.inr a)/\_
   unfold uJ
   by_cases hlt:i<l.length
   case neg =>
    have:i=l.length:=by omega
    subst this
    right
    exact ⟨_,(bn (decide_eq_false (by omega))).trans rfl,left,right,rfl,hp,hC⟩
   left
   obtain ⟨⟨u,v⟩,h⟩:∃ p,l[i]? = some p:=⟨_,List.getElem?_eq_getElem hlt⟩
   rw [getD_at h]
   cases hu:gI left u with
   | some o =>
    refine ⟨(((i+1:Nat):Int),left,right,l),?_,⟨i+1,left,right,hlt,rfl,hp,hC.skip fun u' z hz=>?_⟩,dec.resolve_right fun h=>h hlt⟩
    ·refine (bA (decide_eq_true (by omega))).trans ?_
     refine (aM (bQ hlt)).trans ?_
     refine (aM jG).trans ?_
     refine (bn (by rw [show getM (.int .i64) (.int .i64) left u=some o from hu]; rfl)).trans ?_
     rw [di i (by omega)]; rfl
    ·rw [h] at hz; cases hz
     exact fun e=>by rw [Br.1 e] at hu; cases hu
   | none =>
    obtain ⟨b,seen',left',right',k1,k2⟩:=ZQ hl u hp hC.val
    refine ⟨(((i+1:Nat):Int),left',right',l),?_,⟨i+1,left',right',hlt,rfl,k2.pl,?_⟩,dec.resolve_right fun h=>h hlt⟩
    ·refine (bA (decide_eq_true (by omega))).trans ?_
     refine (aM (bQ hlt)).trans ?_
     refine (aM jG).trans ?_
     refine (bA (by rw [show getM (.int .i64) (.int .i64) left u=none from hu]; rfl)).trans ?_
     refine (aM jG).trans ?_
     refine (aN k1).trans ?_
     rw [di i (by omega)]; rfl
    ·cases b with
     | true =>
      have ha:=k2.on rfl
      rw [Rn] at ha
      exact (hC.ZT h (Br.2 hu) ha).1
     | false =>
      obtain ⟨rfl,rfl,q3⟩:=k2.off rfl
      rw [Rn] at q3
      exact hC.fail h q3)
  (0,[],[],l) ⟨0,[],[],Nat.zero_le _,rfl,.nil l,.zero l⟩
 refine ⟨left,right,(aN h1).trans ?_,h2,h3⟩
 rfl
theorem ZU (left:IM) (u:Int):u∈left.map (·.1)↔gZ left u≠none:=JW.trans ⟨fun h e=>h (Br.1 e),fun h e=>h (Br.2 e)⟩
theorem Ro {l:IM} (hl:l.length<=100):∃ n:Nat,(EK l).run=some (n:Int)/\rZ l n/\n<=l.length:=by
 obtain ⟨left,right,h1,h2,h3⟩:=ZR hl
 have hm:=ZV h3 h2.wl.once (ZU left)
 rw [List.length_map] at hm
 exact ⟨left.length,(aN h1).trans rfl,hm,J2 h2.wl⟩
theorem uK {α:Type} {t e:Tree α} {r:Option α} (h1:t.run=r) (h2:e.run=r):(Tree.both t e).run=r:=by
 simp only [Tree.run]
 rw [h1,h2,if_pos rfl]
theorem gD (n:Int) (h1 : -1000000<=n) (h2:n<=1000000):ay n=n:=by
 show IntKind.i64.wrap _=_
 rw [IntKind.wrap_i64]; omega
theorem Rp (a b:Int):ae.imax a b=max a b:=by
 show (if b > a then b else a)=_
 split <;> omega
theorem uL (a b:Int):ae.jh a b=min a b:=by
 show (if b<a then b else a)=_
 split <;> omega
theorem kv:aD 1 2=true:=rfl
def dF (A:List Int):IM:=A.map fun k=>(k,1)
theorem qO (A:List Int):(dF A).length=A.length:=List.length_map ..
theorem Rq {A:List Int} {j k:Int} (h:k≠j):dh (j::A) k=j::dh A k:=by
 unfold dh
 by_cases hk:k∈A
 ·rw [if_pos hk,if_pos (List.mem_cons_of_mem _ hk)]
 ·rw [if_neg hk,if_neg fun q=>(List.mem_cons.1 q).elim h hk]; rfl
theorem kQ {A:List Int} {k:Int} (h:k∈A):dh A k=A:=if_pos h
theorem nQ {A:List Int} {k:Int} (h:k ∉ A):dh A k=A++[k]:=if_neg h
theorem g1 (A:List Int) (q:Int):(getM (.dm .i64) (.int .i64) (dF A) q).getD (0:Int)=if q∈A then 1 else 0:=by
 induction A with
 | nil=>rfl
 | cons k A ih =>
  show ((bif decide (q=k) then some (1:Int) else getM (.dm .i64) (.int .i64) (dF A) q)).getD (0:Int)=_
  by_cases e:q=k
  ·rw [decide_eq_true e,if_pos (by rw [e]; exact List.mem_cons_self)]; rfl
  ·rw [decide_eq_false e]
   refine Eq.trans ih ?_
   by_cases h:q∈A
   ·rw [if_pos h,if_pos (List.mem_cons_of_mem _ h)]
   ·rw [if_neg h,if_neg fun w=>(List.mem_cons.1 w).elim e h]
theorem xK (A:List Int) (q:Int):decide ((getM (.dm .i64) (.int .i64) (dF A) q).getD (0:Int)=0)=!decide (q∈A):=by
 rw [g1]
 by_cases h:q∈A
 ·rw [if_pos h,decide_eq_true h]; rfl
 ·rw [if_neg h,decide_eq_false h]; rfl
theorem p1 (A:List Int) (k:Int):dn (.dm .i64) (.int .i64) (dF A) k (1:Int)=dF (dh A k):=by
 induction A with
 | nil=>rfl
 | cons j A ih =>
  show (bif decide (k=j) then (k,(1:Int))::dF A else (j,(1:Int))::dn (.dm .i64) (.int .i64) (dF A) k (1:Int))=_
  by_cases e:k=j
  ·subst e
   rw [decide_eq_true rfl,kQ List.mem_cons_self]; rfl
  ·rw [decide_eq_false e,Rq e]
   exact congrArg (fun l=>(j,(1:Int))::l) ih
theorem EL (A:List Int) (k:Int):dn (.int .i64) (.int .i64) (dF A) k (1:Int)=dF (dh A k):=by
 induction A with
 | nil=>rfl
 | cons j A ih =>
  show (bif decide (k=j) then (k,(1:Int))::dF A else (j,(1:Int))::dn (.int .i64) (.int .i64) (dF A) k (1:Int))=_
  by_cases e:k=j
  ·subst e
   rw [decide_eq_true rfl,kQ List.mem_cons_self]; rfl
  ·rw [decide_eq_false e,Rq e]
   exact congrArg (fun l=>(j,(1:Int))::l) ih
theorem d1 (A:List Int) (k:Int) (h:k ∉ A):iV (.dm .i64) (.int .i64) (dF (dh A k)) k=dF A:=by
 rw [nQ h]
 induction A with
 | nil =>
  show (bif decide (k=k) then ([]:IM) else _)=_
  rw [decide_eq_true rfl]; rfl
 | cons j A ih =>
  have e:k≠j:=fun q=>h (q▸List.mem_cons_self)
  show (bif decide (k=j) then dF (A++[k]) else (j,(1:Int))::iV (.dm .i64) (.int .i64) (dF (A++[k])) k)=_
  rw [decide_eq_false e]
  exact congrArg (fun l=>(j,(1:Int))::l) (ih fun q=>h (List.mem_cons_of_mem _ q))
theorem J4 {l:List Int}:∀ {A:List Int},(dM A l).length<=A.length+l.length:=by
 induction l with
 | nil=>intro A; exact Nat.le_refl _
 | cons x l ih=>intro A; have h1:=ih (A:=dh A x); have h2:=sj A x; rw [dM,List.length_cons]; split at h2 <;> omega
def nR (A l:List Int):List Int:=l.filter fun q=>!decide (q∈A)
theorem ZW (A l:List Int):(nR A l).length<=l.length:=List.length_filter_le _ _
theorem EM (A:List Int):∀ (l R:List Int),dM (A++R) l=A++dM R (nR A l)
 | [],R=>rfl
 | x::l,R=>by
  by_cases h:x∈A
  ·have e:nR A (x::l)=nR A l:=by unfold nR; rw [List.filter_cons,if_neg (by rw [decide_eq_true h]; decide)]
   rw [e,dM,kQ (List.mem_append_left _ h),EM A l R]
  ·have e:nR A (x::l)=x::nR A l:=by unfold nR; rw [List.filter_cons,if_pos (by rw [decide_eq_false h]; rfl)]
   have e2:dh (A++R) x=A++dh R x:=by
    by_cases hr:x∈R
    ·rw [kQ hr,kQ (List.mem_append_right _ hr)]
    ·rw [nQ hr,nQ fun q=>(List.mem_append.1 q).elim h hr,List.append_assoc]
   rw [e,dM,e2,EM A l (dh R x)]; rfl
def fV (A l:List Int):List Int:=dM [] (nR A l)
theorem ZX (A l:List Int):(fV A l).length<=l.length:=by
 have h1:=J4 (A:=[]) (l:=nR A l)
 have h2:=ZW A l
 unfold fV
 simp only [List.length_nil] at h1
 omega
theorem J5 (A:List Int) (L:PL):cl A L=A.length+(fV A (L.map (·.1))).length:=by
 have:=EM A (L.map (·.1)) []
 rw [List.append_nil] at this
 unfold cl fV
 rw [this,List.length_append]
theorem J6 (B:List Int) (L:PL):cr B L=B.length+(fV B (L.map (·.2))).length:=by
 have:=EM B (L.map (·.2)) []
 rw [List.append_nil] at this
 unfold cr fV
 rw [this,List.length_append]
theorem Rs (A l:List Int) (x:Int):fV A (l++[x])=if x∈A then fV A l else dh (fV A l) x:=by
 unfold fV nR
 rw [List.filter_append]
 by_cases h:x∈A
 ·rw [if_pos h,show [x].filter (fun q=>!decide (q∈A))=[] from by rw [List.filter_cons,if_neg (by rw [decide_eq_true h]; decide)]; rfl,List.append_nil]
 ·rw [if_neg h,show [x].filter (fun q=>!decide (q∈A))=[x] from by rw [List.filter_cons,if_pos (by rw [decide_eq_false h]; rfl)]; rfl,xL]; rfl
theorem take_at {L:PL} {i:Nat} {p:Int×Int} (h:L[i]? = some p):L.take (i+1)=L.take i++[p]:=by
 obtain ⟨hi,e⟩:=List.getElem?_eq_some_iff.1 h
 rw [List.take_succ_eq_append_getElem hi,e]
theorem Rt {A:List Int} {L:PL} {i:Nat} {u v:Int} (h:L[i]? = some (u,v)):fV A ((L.take (i+1)).map (·.1))=if u∈A then fV A ((L.take i).map (·.1)) else dh (fV A ((L.take i).map (·.1))) u:=by
 rw [take_at h,List.map_append]; exact Rs _ _ _
theorem Ru {A:List Int} {L:PL} {i:Nat} {u v:Int} (h:L[i]? = some (u,v)):fV A ((L.take (i+1)).map (·.2))=if v∈A then fV A ((L.take i).map (·.2)) else dh (fV A ((L.take i).map (·.2))) v:=by
 rw [take_at h,List.map_append]; exact Rs _ _ _
theorem Bt {A:List Int} {L:PL} (hl:L.length<=100) (f:Int×Int->Int) (i:Nat) (x:Int):decide ((dF (dh (fV A ((L.take i).map f)) x)).length<=9223372036854775807)=true:=by
 have h1:=ZX A ((L.take i).map f)
 have h2:=sj (fV A ((L.take i).map f)) x
 rw [List.length_map,List.length_take] at h1
 rw [qO]
 refine decide_eq_true ?_
 split at h2 <;> omega
theorem ZY {L:PL} (hl:L.length<=100) (A B:List Int):(EN L (dF A) (dF B)).run=some (((fV A (L.map (·.1))).length:Int),((fV B (L.map (·.2))).length:Int),()):=by
 unfold EN
 refine (aN (dI _ _ |>.trans (fw (a:=(dF (fV A (L.map (·.1))),dF (fV B (L.map (·.2))))) (S:=fun i=>((i:Int),dF (fV A ((L.take i).map (·.1))),dF (fV B ((L.take i).map (·.2))))) (n:=L.length) (fun i hi=>?_) ?_ rfl))).trans ?_
 ·obtain ⟨⟨u,v⟩,h⟩:∃ p,L[i]? = some p:=⟨_,List.getElem?_eq_getElem hi⟩
  unfold xM
  refine (bA (decide_eq_true (by omega))).trans ?_
  refine (aM (bQ hi)).trans ?_
  refine (aM jG).trans ?_
  rw [getD_at h]
  dsimp only
  rw [xK,xK,EL,EL,di i (by omega),Rt h,Ru h]
  by_cases hu:u∈A
  ·rw [decide_eq_true hu,if_pos hu]
   refine (bn rfl).trans ?_
   refine (aM kv).trans ?_
   by_cases hv:v∈B
   ·rw [decide_eq_true hv,if_pos hv]
    exact (bn rfl).trans rfl
   ·rw [decide_eq_false hv,if_neg hv]
    refine (bA rfl).trans ?_
    refine (aM kv).trans ?_
    exact (aM (Bt hl _ _ _)).trans rfl
  ·rw [decide_eq_false hu,if_neg hu]
   refine (bA rfl).trans ?_
   refine (aM jG).trans ?_
   refine (aM (Bt hl _ _ _)).trans ?_
   refine (aM kv).trans ?_
   by_cases hv:v∈B
   ·rw [decide_eq_true hv,if_pos hv]
    exact (bn rfl).trans rfl
   ·rw [decide_eq_false hv,if_neg hv]
    refine (bA rfl).trans ?_
    refine (aM kv).trans ?_
    exact (aM (Bt hl _ _ _)).trans rfl
 ·show (xM _ _ _ _ _ _ _).run=_
  unfold xM
  rw [List.take_of_length_le (Nat.le_refl _)]
  exact (bn (decide_eq_false (by omega))).trans rfl
 ·show some (((dF _).length:Int),((dF _).length:Int),())=_
  rw [qO,qO]
theorem Rv {L:PL} (hl:L.length<=100):(Bu L).run=some (((fV [] (L.map (·.1))).length:Int),((fV [] (L.map (·.2))).length:Int),()):=by
 unfold Bu
 refine (aN (dI _ _ |>.trans (fw (a:=(dF (fV [] (L.map (·.1))),dF (fV [] (L.map (·.2))))) (S:=fun i=>((i:Int),dF (fV [] ((L.take i).map (·.1))),dF (fV [] ((L.take i).map (·.2))))) (n:=L.length) (fun i hi=>?_) ?_ rfl))).trans ?_
 ·obtain ⟨⟨u,v⟩,h⟩:∃ p,L[i]? = some p:=⟨_,List.getElem?_eq_getElem hi⟩
  unfold xN
  refine (bA (decide_eq_true (by omega))).trans ?_
  refine (aM (bQ hi)).trans ?_
  refine (aM jG).trans ?_
  rw [getD_at h]
  dsimp only
  rw [EL,EL,di i (by omega),Rt h,Ru h,if_neg List.not_mem_nil,if_neg List.not_mem_nil]
  refine (bA rfl).trans ?_
  refine (aM jG).trans ?_
  refine (aM (Bt hl _ _ _)).trans ?_
  refine (aM kv).trans ?_
  refine (bA rfl).trans ?_
  refine (aM kv).trans ?_
  exact (aM (Bt hl _ _ _)).trans rfl
 ·show (xN _ _ _ _ _).run=_
  unfold xN
  rw [List.take_of_length_le (Nat.le_refl _)]
  exact (bn (decide_eq_false (by omega))).trans rfl
 ·show some (((dF _).length:Int),((dF _).length:Int),())=_
  rw [qO,qO]
theorem Rw (A B:List Int) (L:PL) (u v:Int):iW A B (L++[(u,v)])=iW A B L++(bif !decide (u∈A)&&!decide (v∈B) then [(u,v)] else []):=by
 unfold iW
 rw [List.filter_append,List.filter_cons]
 have e:(decide (u ∉ A)&&decide (v ∉ B))=(!decide (u∈A)&&!decide (v∈B)):=by
  by_cases h1:u∈A <;> by_cases h2:v∈B <;> simp [h1,h2]
 show _++(if (decide (u ∉ A)&&decide (v ∉ B))=true then _ else _)=_
 rw [e]
 cases (!decide (u∈A)&&!decide (v∈B)) <;> rfl
theorem Bv (A B:List Int) (L:PL):(iW A B L).length<=L.length:=List.length_filter_le _ _
theorem Rx {A B:List Int} {L:PL} (hl:L.length<=100) (i:Nat) (x:Int×Int):decide ((iW A B (L.take i)++[x]).length*16<=bD)=true:=by
 have h1:=Bv A B (L.take i)
 rw [List.length_take] at h1
 exact room_le _ _ (by rw [List.length_append]; simp only [List.length_cons,List.length_nil]; omega) (by omega)
theorem ZZ {L:PL} (hl:L.length<=100) (A B:List Int):(EO L (dF A) (dF B)).run=some (iW A B L):=by
 unfold EO
 refine (aN (dI _ _ |>.trans (fw (a:=iW A B L) (S:=fun i=>((i:Int),iW A B (L.take i))) (n:=L.length) (fun i hi=>?_) ?_ rfl))).trans rfl
 ·obtain ⟨⟨u,v⟩,h⟩:∃ p,L[i]? = some p:=⟨_,List.getElem?_eq_getElem hi⟩
  unfold xO
  refine (bA (decide_eq_true (by omega))).trans ?_
  refine (aM (bQ hi)).trans ?_
  refine (aM jG).trans ?_
  rw [getD_at h]
  dsimp only
  rw [xK,xK,di i (by omega),take_at h,Rw]
  refine (aM (by rw [kv,Bool.or_true])).trans ?_
  cases (!decide (u∈A)&&!decide (v∈B)) with
  | true=>refine (bA rfl).trans ?_; exact (aM (Rx hl _ _)).trans rfl
  | false=>refine (bn rfl).trans ?_; show some (Sum.inl (_,iW A B (L.take i)))=some (Sum.inl (_,iW A B (L.take i)++[])); rw [List.append_nil]
 ·show (xO _ _ _ _ _ _).run=_
  unfold xO
  rw [List.take_of_length_le (Nat.le_refl _)]
  exact (bn (decide_eq_false (by omega))).trans rfl
theorem Z0 {L:PL} (hl:L.length<=100):(EP L).run=some (iW [] [] L):=by
 unfold EP
 refine (aN (dI _ _ |>.trans (fw (a:=iW [] [] L) (S:=fun i=>((i:Int),iW [] [] (L.take i))) (n:=L.length) (fun i hi=>?_) ?_ rfl))).trans rfl
 ·obtain ⟨⟨u,v⟩,h⟩:∃ p,L[i]? = some p:=⟨_,List.getElem?_eq_getElem hi⟩
  unfold xP
  refine (bA (decide_eq_true (by omega))).trans ?_
  refine (aM (bQ hi)).trans ?_
  refine (aM jG).trans ?_
  rw [getD_at h,di i (by omega),take_at h,Rw]
  refine (aM (by rw [kv,Bool.or_true])).trans ?_
  refine (bA rfl).trans ?_
  exact (aM (Rx hl _ _)).trans rfl
 ·show (xP _ _ _ _).run=_
  unfold xP
  rw [List.take_of_length_le (Nat.le_refl _)]
  exact (bn (decide_eq_false (by omega))).trans rfl
theorem Ry {A B:List Int} (hA:A.Nodup) (hB:B.Nodup) {L:PL} {m a b:Nat} (hm:m<=1000) (ha:a<=1000) (hb:b<=1000) {n:Nat} (hn:rZ (iW A B L) n) (hn1:n<=1000)
  {x y:Nat} (hx:cl A L=A.length+x) (hy:cr B L=B.length+y) (hA1:A.length<=1000) (hB1:B.length<=1000) :
  ((((decide ((m:Int)<0))||(decide ((L.length:Int)<(m:Int))))||(decide ((x:Int)<(ae.imax ((a:Int)-A.length) 0))))||(decide ((y:Int)<(ae.imax ((b:Int)-B.length) 0))))=true/\(pk a b L m A B).isSome=false \/
  ((((decide ((m:Int)<0))||(decide ((L.length:Int)<(m:Int))))||(decide ((x:Int)<(ae.imax ((a:Int)-A.length) 0))))||(decide ((y:Int)<(ae.imax ((b:Int)-B.length) 0))))=false /\
   decide ((ay ((ae.imax ((a:Int)-A.length) 0)-(ae.jh (ae.jh (n:Int) (ae.imax ((a:Int)-A.length) 0)) (ae.imax ((b:Int)-B.length) 0))))<=(ay ((m:Int)-(ae.imax ((b:Int)-B.length) 0))))=(pk a b L m A B).isSome:=by
 have hf:=(Bw a b L m A B).trans (Rz hA hB hn)
 simp only [Rp,uL]
 rw [gD _ (by omega) (by omega),gD _ (by omega) (by omega)]
 by_cases hc:m<=L.length/\a<=cl A L/\b<=cr B L
 ·right
  refine ⟨?_,?_⟩
  ·simp only [Bool.or_eq_false_iff,decide_eq_false_iff_not]
   omega
  ·rw [Bool.eq_iff_iff,decide_eq_true_iff,hf]
   omega
 ·left
  refine ⟨?_,?_⟩
  ·simp only [Bool.or_eq_true,decide_eq_true_iff]
   omega
  ·rw [Bool.eq_false_iff]
   intro q
   have:=hf.1 q
   omega
theorem Z4 {A B:List Int} (hA:A.Nodup) (hB:B.Nodup) {L:PL} (hl:L.length<=100) {m a b:Nat} (hm:m<=1000) (ha:a<=1000) (hb:b<=1000) (hA1:A.length<=1000) (hB1:B.length<=1000) :
  (ER L (m:Int) ((a:Int)-A.length) ((b:Int)-B.length) (dF A) (dF B)).run=some (pk a b L m A B).isSome:=by
 obtain ⟨n,h1,h2,h3⟩:=Ro (l:=iW A B L) (Nat.le_trans (Bv A B L) hl)
 have h4:=Bv A B L
 unfold ER
 refine (aN (ZY hl A B)).trans ?_
 rcases Ry hA hB hm ha hb h2 (by omega) (J5 A L) (J6 B L) hA1 hB1 with ⟨k1,k2⟩ | ⟨k1,k2⟩
 ·rw [k2]; exact (bA k1).trans rfl
 ·refine (bn k1).trans ?_
  refine (aN (ZZ hl A B)).trans ?_
  refine (aN h1).trans ?_
  exact congrArg some k2
theorem Z5 {L:PL} (hl:L.length<=100) {m a b:Nat} (hm:m<=1000) (ha:a<=1000) (hb:b<=1000) :
  (ES L (m:Int) (a:Int) (b:Int)).run=some (pk a b L m [] []).isSome:=by
 obtain ⟨n,h1,h2,h3⟩:=Ro (l:=iW [] [] L) (Nat.le_trans (Bv [] [] L) hl)
 have h4:=Bv [] [] L
 unfold ES
 have e:∀ c:Nat,((c:Int)-(([]:List Int).length:Int))=(c:Int):=fun c=>by simp
 refine (aN (a:=(pk a b L m [] []).isSome) ?_).trans rfl
 unfold J7
 refine (aN (Rv hl)).trans ?_
 have hc:=Ry List.nodup_nil List.nodup_nil hm ha hb h2 (by omega) (J5 [] L) (J6 [] L) (Nat.zero_le _) (Nat.zero_le _)
 rw [e,e] at hc
 rcases hc with ⟨k1,k2⟩ | ⟨k1,k2⟩
 ·rw [k2]; exact (bA k1).trans rfl
 ·refine (bn k1).trans ?_
  refine (aN (Z0 hl)).trans ?_
  refine (aN h1).trans ?_
  exact congrArg some k2
theorem RA {L:PL} (hl:L.length<=100) {m:Nat} (hm:m<=L.length):∀ k:Nat,k<=1000->dP (fun v=>(pq L (m:Int) (eQ L m:Int) v).run) (k:Int)=some (nS L m k:Int)
 | 0,_=>by
  have:(pq L (m:Int) (eQ L m:Int) ((0:Nat):Int)).run=some (.inr ((0:Nat):Int)):=by
   unfold pq
   refine (ET rfl).trans ?_
   exact (bn rfl).trans rfl
  rw [ib,this]; rfl
 | k+1,hk=>by
  have hb:eQ L m<=1000:=by unfold eQ; omega
  have h:=Z5 hl (m:=m) (a:=eQ L m) (b:=k+1) (by omega) hb hk
  have hp:decide ((0:Int)<((k+1:Nat):Int))=true:=decide_eq_true (by omega)
  have hw:ay (((k+1:Nat):Int)-1)=(k:Int):=by rw [gD _ (by omega) (by omega)]; omega
  cases hq:(pk (eQ L m) (k+1) L m [] []).isSome with
  | true =>
   have:(pq L (m:Int) (eQ L m:Int) ((k+1:Nat):Int)).run=some (.inr ((k+1:Nat):Int)):=by
    unfold pq
    refine (gm h).trans ?_
    rw [hq,hp]
    exact (bn rfl).trans rfl
   rw [ib,this,nS,if_pos hq]; rfl
  | false =>
   have:(pq L (m:Int) (eQ L m:Int) ((k+1:Nat):Int)).run=some (.inl (k:Int)):=by
    unfold pq
    refine (gm h).trans ?_
    rw [hq,hp,hw]
    exact (bA rfl).trans rfl
   rw [ib,this,nS,if_neg (by rw [hq]; decide)]
   exact RA hl hm k (by omega)
theorem Z6 {L:PL} (hl:L.length<=100) {m:Nat} (hm:m<=L.length):(EU L (m:Int)).run=some ((eQ L m:Int),(ji L m:Int),()):=by
 have e1:=J5 [] L
 have e2:=J6 [] L
 rw [List.length_nil,Nat.zero_add] at e1 e2
 unfold EU
 refine (bn ?_).trans ?_
 ·simp only [Bool.or_eq_false_iff,decide_eq_false_iff_not]; omega
 ·refine (aN (Rv hl)).trans ?_
  dsimp only
  rw [<- e1,<- e2,uL,uL,show min ((cl [] L:Nat):Int) (m:Int)=(eQ L m:Int) from by unfold eQ; omega,show min ((cr [] L:Nat):Int) (m:Int)=((min (cr [] L) m:Nat):Int) from by omega]
  refine (aN ((dI _ _).trans (RA hl hm (min (cr [] L) m) (by omega)))).trans ?_
  rfl
theorem Z7 {A B:List Int} (hA:A.Nodup) (hB:B.Nodup) {L:PL} (hl:L.length<=100) {m a b i:Nat} (hm:m<=1000) (ha:a<=1000) (hb:b<=1000) (hA1:A.length<=1000) (hB1:B.length<=1000) (hi:i<L.length) {out:List Int} (ho:out.length<=m) :
  (EW (ay ((i:Int)+1)) L (m:Int) (a:Int) (b:Int) out (dF A) (dF B)).run=some ((pk a b (L.drop (i+1)) (m-out.length) A B).isSome,((L,()),(((m:Int),()),(((),()),(((a:Int),()),(((),()),(((b:Int),()),(((),()),(out,(dF A,(dF B,()))))))))))):=by
 have hd:(L.drop (i+1)).length<=100:=by rw [List.length_drop]; omega
 unfold EW
 rw [di i (by omega),Int.toNat_natCast,qO,qO]
 rw [show ay ((m:Int)-(out.length:Int))=((m-out.length:Nat):Int) from by rw [gD _ (by omega) (by omega)]; omega,gD ((a:Int)-(A.length:Int)) (by omega) (by omega),gD ((b:Int)-(B.length:Int)) (by omega) (by omega)]
 refine (aM (by rw [lJ]; exact decide_eq_true hi)).trans ?_
 exact (aN (Z4 hA hB hd (by omega) ha hb hA1 hB1)).trans rfl
theorem Z8 {A B:List Int} (hA:A.Nodup) (hB:B.Nodup) {L:PL} (hl:L.length<=100) {m a b i:Nat} (hm:m<=L.length) (ha:a<=1000) (hb:b<=1000) (hA1:A.length<=900) (hB1:B.length<=900) {out:List Int} (ho:out.length<m) {u v:Int} (h:L[i]? = some (u,v)) :
  (nT (i:Int) L (m:Int) (a:Int) (b:Int) out (dF A) (dF B)).run=some (.inl (((i+1:Nat):Int),L,(m:Int),(a:Int),(b:Int),
   if (pk a b (L.drop (i+1)) (m-(out.length+1)) (dh A u) (dh B v)).isSome then (out++[(i:Int)],dF (dh A u),dF (dh B v)) else (out,dF A,dF B))):=by
 obtain ⟨hi,_⟩:=List.getElem?_eq_some_iff.1 h
 have lA:(dh A u).length<=A.length+1:=by have:=sj A u; split at this <;> omega
 have lB:(dh B v).length<=B.length+1:=by have:=sj B v; split at this <;> omega
 have lo:(out++[(i:Int)]).length=out.length+1:=by simp
 have h1:=Z7 (xQ hA u) (xQ hB v) hl (m:=m) (a:=a) (b:=b) (by omega) ha hb (by omega) (by omega) hi (out:=out++[(i:Int)]) (by omega)
 rw [lo] at h1
 have s1:decide ((dF (dh A u)).length<=9223372036854775807)=true:=decide_eq_true (by rw [qO]; omega)
 have s2:decide ((dF (dh B v)).length<=9223372036854775807)=true:=decide_eq_true (by rw [qO]; omega)
 have s3:decide ((out++[(i:Int)]).length*8<=bD)=true:=room_le _ _ (by omega) (by omega)
 have s4:ay (((out++[(i:Int)]).length:Int)-1)=(out.length:Int):=by rw [lo,gD _ (by omega) (by omega)]; omega
 have s5:df (out.length:Int) (out++[(i:Int)]).length=true:=by rw [lJ,lo]; exact decide_eq_true (by omega)
 have s6:(out++[(i:Int)]).take (out.length:Int).toNat=out:=by rw [Int.toNat_natCast,List.take_left']; rfl
 generalize (pk a b (L.drop (i+1)) (m-(out.length+1)) (dh A u) (dh B v)).isSome=r at *
 unfold nT
 refine (bA (by rw [decide_eq_true (by omega:(i:Int)<(L.length:Int)),decide_eq_true (by omega:(m:Int)<=(L.length:Int)),decide_eq_true (by omega:(out.length:Int)<(m:Int))]; rfl)).trans ?_
 refine (aM (bQ hi)).trans ?_
 refine (aM jG).trans ?_
 refine (aM kv).trans ?_
 refine (aM jG).trans ?_
 refine (aM kv).trans ?_
 rw [getD_at h]
 dsimp only
 rw [p1,p1,xK,xK]
 have key:∀ t:Tree ((Int×(List (Int×Int))×Int×Int×Int×(List Int)×(List (Int×Int))×(List (Int×Int)))⊕(List Int)),t=t->True:=fun _ _=>trivial
 refine uK (uK ?_ ?_) ?_
 all_goals
  refine (aM s1).trans ?_
  refine (aM s2).trans ?_
  refine (aM s3).trans ?_
  refine (aN h1).trans ?_
  dsimp only
  cases r with
  | true =>
   refine (bA rfl).trans ?_
   rw [di i (by omega)]; rfl
  | false =>
   refine (bn rfl).trans ?_
   rw [s4,s6,di i (by omega)]
   refine (aM s5).trans ?_
   by_cases hu:u∈A
   ·rw [decide_eq_true hu,kQ hu]
    refine (bn rfl).trans ?_
    by_cases hv:v∈B
    ·rw [decide_eq_true hv,kQ hv]
     exact (bn rfl).trans rfl
    ·rw [decide_eq_false hv,d1 B v hv]
     refine (bA rfl).trans ?_
     exact (aM kv).trans rfl
   ·rw [decide_eq_false hu,d1 A u hu]
    refine (bA rfl).trans ?_
    refine (aM jG).trans ?_
    by_cases hv:v∈B
    ·rw [decide_eq_true hv,kQ hv]
     exact (bn rfl).trans rfl
    ·rw [decide_eq_false hv,d1 B v hv]
     refine (bA rfl).trans ?_
     exact (aM kv).trans rfl
abbrev RB:Type:=Int×(List (Int×Int))×Int×Int×Int×(List Int)×(List (Int×Int))×(List (Int×Int))
theorem Z9 {L:PL} (hl:L.length<=100) {m a b:Nat} (hm:m<=L.length) (ha:a<=1000) (hb:b<=1000):∀ (d i:Nat) (out:List Int) (A B:List Int) (c:List Nat),i+d=L.length->A.Nodup->B.Nodup->A.length<=i->B.length<=i->out.length<=m->pk a b (L.drop i) (m-out.length) A B=some c ->
  dP (fun v:RB=>(nT v.1 v.2.1 v.2.2.1 v.2.2.2.1 v.2.2.2.2.1 v.2.2.2.2.2.1 v.2.2.2.2.2.2.1 v.2.2.2.2.2.2.2).run) ((i:Int),L,(m:Int),(a:Int),(b:Int),out,dF A,dF B)=some (out++c.map fun j=>((j+i:Nat):Int)):=by
 have stop:∀ (i:Nat) (out:List Int) (A B:List Int),¬ (i<L.length/\out.length<m)->dP (fun v:RB=>(nT v.1 v.2.1 v.2.2.1 v.2.2.2.1 v.2.2.2.2.1 v.2.2.2.2.2.1 v.2.2.2.2.2.2.1 v.2.2.2.2.2.2.2).run) ((i:Int),L,(m:Int),(a:Int),(b:Int),out,dF A,dF B)=some out:=by
  intro i out A B hc
  have:(nT (i:Int) L (m:Int) (a:Int) (b:Int) out (dF A) (dF B)).run=some (.inr out):=by
   unfold nT
   refine (bn ?_).trans rfl
   rw [Bool.and_eq_false_iff,Bool.and_eq_false_iff,decide_eq_false_iff_not,decide_eq_false_iff_not,decide_eq_false_iff_not]
   omega
  rw [ib]
  show Option.bind (nT (i:Int) L (m:Int) (a:Int) (b:Int) out (dF A) (dF B)).run _=_
  rw [this]; rfl
 intro d
 induction d with
 | zero =>
  intro i out A B c hi hA hB hA1 hB1 ho hp
  rw [stop i out A B (by omega)]
  have e:L.drop i=[]:=List.drop_eq_nil_of_le (by omega)
  rw [e] at hp
  cases hk:m-out.length with
  | zero=>rw [hk] at hp; unfold pk at hp; split at hp <;> cases hp; rw [List.map_nil,List.append_nil]
  | succ k=>rw [hk] at hp; cases hp
 | succ d ih =>
  intro i out A B c hi hA hB hA1 hB1 ho hp
  by_cases hlt:out.length<m
  ·have hiL:i<L.length:=by omega
   obtain ⟨⟨u,v⟩,h⟩:∃ p,L[i]? = some p:=⟨_,List.getElem?_eq_getElem hiL⟩
   have hs:=Z8 hA hB hl hm ha hb (by omega) (by omega) hlt h
   have ed:L.drop i=(u,v)::L.drop (i+1):=by
    obtain ⟨q1,q2⟩:=List.getElem?_eq_some_iff.1 h
    rw [List.drop_eq_getElem_cons hiL,q2]
   obtain ⟨k,hk⟩:∃ k,m-out.length=k+1:=⟨m-out.length-1,by omega⟩
   have hk2:m-(out.length+1)=k:=by omega
   have lA:(dh A u).length<=A.length+1:=by have:=sj A u; split at this <;> omega
   have lB:(dh B v).length<=B.length+1:=by have:=sj B v; split at this <;> omega
   rw [ed,hk] at hp
   rw [hk2] at hs
   have hp:(match pk a b (L.drop (i+1)) k (dh A u) (dh B v) with
    | some c=>some (0::c.map (· + 1))
    | none=>(pk a b (L.drop (i+1)) (k+1) A B).map fun c=>c.map (· + 1))=some c:=hp
   rw [ib]
   show Option.bind (nT (i:Int) L (m:Int) (a:Int) (b:Int) out (dF A) (dF B)).run _=_
   rw [hs]
   cases hq:pk a b (L.drop (i+1)) k (dh A u) (dh B v) with
   | some c' =>
    rw [hq] at hp
    cases hp
    have hi2:=ih (i+1) (out++[(i:Int)]) (dh A u) (dh B v) c' (by omega) (xQ hA u) (xQ hB v) (by omega) (by omega) (by simp; omega) (by
     rw [show m-(out++[(i:Int)]).length=k from by simp; omega]; exact hq)
    refine Eq.trans hi2 ?_
    rw [List.append_assoc]
    refine congrArg (fun l=>some (out++l)) ?_
    show (i:Int)::_=((0+i:Nat):Int)::(c'.map (· + 1)).map _
    rw [Nat.zero_add,List.map_map]
    refine congrArg _ (List.map_congr_left fun j _=>?_)
    show ((j+(i+1):Nat):Int)=((j+1+i:Nat):Int)
    omega
   | none =>
    rw [hq] at hp
    obtain ⟨c',h1,rfl⟩:=Option.map_eq_some_iff.1 hp
    have hi2:=ih (i+1) out A B c' (by omega) hA hB (by omega) (by omega) ho (by rw [hk]; exact h1)
    refine Eq.trans hi2 ?_
    rw [List.map_map]
    refine congrArg (fun l=>some (out++l)) (List.map_congr_left fun j _=>?_)
    show ((j+(i+1):Nat):Int)=((j+1+i:Nat):Int)
    omega
  ·rw [stop i out A B (by omega)]
   rw [show m-out.length=0 from by omega] at hp
   have:c=[]:=by
    have e:pk a b (L.drop i) 0 A B=if decide (a<=A.length)&&decide (b<=B.length) then some [] else none:=by cases L.drop i <;> rfl
    rw [e] at hp
    split at hp <;> cases hp
    rfl
   rw [this,List.map_nil,List.append_nil]
theorem aaa {L:PL} (hl:L.length<=100) {m:Nat} (hm:m<=L.length):(EX L (m:Int)).run=some ((gK L m).map fun j:Nat=>(j:Int)):=by
 have ha:eQ L m<=1000:=by unfold eQ; omega
 have hb:ji L m<=1000:=by have:=RD (L:=L) (m:=m) (min (cr [] L) m); unfold ji; omega
 unfold EX
 refine (aN (Z6 hl hm)).trans ?_
 refine (aN ((dI _ _).trans (Z9 hl hm ha hb L.length 0 [] [] [] (gK L m) (by omega) List.nodup_nil List.nodup_nil (Nat.zero_le _) (Nat.zero_le _) (Nat.zero_le _) (qP hm)))).trans ?_
 rfl
def nU (n m:Nat):List (List Int):=(bV n m).map fun c=>c.map fun j:Nat=>(j:Int)
theorem J8 (n:Nat):bV n 0=[[]]:=by cases n <;> rfl
theorem uM:∀ {n m:Nat},n<m->bV n m=[]
 | 0,m+1,_=>rfl
 | n+1,m+1,h=>by
  rw [bV,uM (n:=n) (m:=m) (by omega),uM (n:=n) (m:=m+1) (by omega)]; rfl
theorem J9:∀ (n m:Nat),(bV n m).length<=2 ^ n
 | n,0=>by rw [J8]; exact Nat.one_le_two_pow
 | 0,m+1=>Nat.zero_le _
 | n+1,m+1=>by
  have h1:=J9 n m
  have h2:=J9 n (m+1)
  rw [bV,List.length_append,List.length_map,List.length_map,Nat.pow_succ]
  omega
theorem EY {n:Nat} (h:n<=10) (m:Nat):(bV n m).length<=1024:=Nat.le_trans (J9 n m) (Nat.pow_le_pow_right (n:=2) (by omega) h)
theorem EZ:∀ {n m:Nat} {c:List Nat},c∈bV n m->∀ i∈c,i<n
 | n,0,c,h=>by
  rw [J8,List.mem_singleton] at h
  subst h; intro i hi; cases hi
 | 0,m+1,c,h=>by cases h
 | n+1,m+1,c,h=>by
  rw [bV,List.mem_append] at h
  rcases h with h | h
  ·obtain ⟨c',h1,rfl⟩:=List.mem_map.1 h
   intro i hi
   rcases List.mem_cons.1 hi with e | hi
   ·omega
   ·obtain ⟨j,hj,rfl⟩:=List.mem_map.1 hi
    have:=EZ h1 j hj
    omega
  ·obtain ⟨c',h1,rfl⟩:=List.mem_map.1 h
   intro i hi
   obtain ⟨j,hj,rfl⟩:=List.mem_map.1 hi
   have:=EZ h1 j hj
   omega
theorem RF {n m:Nat} {c:List Nat} (h:c∈bV n m):c.length=m:=(RG h).1
def l9 (j:Nat) (c:List Nat):List Nat:=j::c.map (· + (j+1))
def su (n m f:Nat):List (List Nat):=(List.range f).flatMap fun j=>(bV (n-j-1) m).map (l9 j)
theorem RH (n m f:Nat):su n m (f+1)=su n m f++(bV (n-f-1) m).map (l9 f):=by
 unfold su
 rw [List.range_succ,List.flatMap_append,List.flatMap_cons,List.flatMap_nil,List.append_nil]
theorem RI:∀ (n m:Nat),su n m (n-m)=bV n (m+1)
 | 0,m=>by rw [Nat.zero_sub]; rfl
 | n+1,m=>by
  by_cases h:m<=n
  ·have e:n+1-m=(n-m)+1:=by omega
   rw [e,bV,<- RI n m]
   unfold su
   rw [List.range_succ_eq_map,List.flatMap_cons,List.flatMap_map,List.map_flatMap]
   refine congr (congrArg _ ?_) ?_
   ·rfl
   ·congr 1
    funext j
    rw [List.map_map,show n+1-j.succ-1=n-j-1 from by omega]
    refine List.map_congr_left fun c _=>?_
    show (j+1)::c.map (· + (j+1+1))=(j+1)::(c.map (· + (j+1))).map (· + 1)
    rw [List.map_map]; rfl
  ·rw [show n+1-m=0 from by omega,bV,uM (n:=n) (m:=m) (by omega),uM (n:=n) (m:=m+1) (by omega)]; rfl
theorem RJ {n:Nat} (h:n<=10) (m:Nat):∀ f:Nat,(su n m f).length<=f*1024
 | 0=>Nat.zero_le _
 | f+1=>by
  have h1:=RJ h m f
  have h2:=EY (n:=n-f-1) (by omega) m
  rw [RH,List.length_append,List.length_map]
  omega
abbrev gL (c:List Nat):List Int:=c.map fun j:Nat=>(j:Int)
theorem Ka {c:List Nat} {k:Nat} (h:k<c.length):(gL c).getD ((k:Int)).toNat (0:Int)=(c[k]:Int):=by
 rw [Int.toNat_natCast,getD_lt _ _ _ (by rw [List.length_map]; exact h),List.getElem_map]
theorem mf (n m:Nat):(nU n m).length=(bV n m).length:=List.length_map ..
theorem Kb {n m i:Nat} (h:i<(bV n m).length):(nU n m).getD ((i:Int)).toNat ([]:List Int)=gL (bV n m)[i]:=by
 rw [Int.toNat_natCast,getD_lt _ _ _ (by rw [mf]; exact h)]
 exact List.getElem_map ..
theorem aab (r:Int->Int->Tree (List (List Int))) (n0 m0:Int) {n m f i:Nat} (hn:n<=10) (hf:f<=10) (out:List (List Int)) (hi:i<(bV n m).length) :
  dP (fun v=>((sw r) n0 m0 (f:Int) (nU n m) (i:Int) out v.1 v.2).run) (0,[(f:Int)])=some (gL (l9 f (bV n m)[i])):=by
 have hm:=List.getElem_mem hi
 have hlen:(bV n m)[i].length<=10:=by
  have h1:=RF hm
  by_cases h:m<=n
  ·omega
  ·rw [uM (by omega)] at hi; cases hi
 have hlt:=EZ hm
 have hr:=Kb hi
 have hl:(gL (bV n m)[i]).length=(bV n m)[i].length:=List.length_map ..
 refine fw (S:=fun k=>((k:Int),gL (l9 f ((bV n m)[i].take k)))) (n:=(bV n m)[i].length) (fun k hk=>?_) ?_ rfl
 ·unfold sw
  refine (aM (bQ (by rw [mf]; exact hi))).trans ?_
  rw [hr,Ka hk]
  refine (bA (decide_eq_true (by rw [hl]; omega))).trans ?_
  refine (aM (bQ (by rw [mf]; exact hi))).trans ?_
  refine (aM (bQ (by rw [hl]; exact hk))).trans ?_
  have hx:=hlt _ (List.getElem_mem hk)
  have e:ay (ay (((bV n m)[i][k]:Int)+(f:Int))+1)=(((bV n m)[i][k]+(f+1):Nat):Int):=by
   rw [gD (((bV n m)[i][k]:Int)+(f:Int)) (by omega) (by omega),gD _ (by omega) (by omega)]; omega
  have e2:gL (l9 f ((bV n m)[i].take k))++[(((bV n m)[i][k]+(f+1):Nat):Int)]=gL (l9 f ((bV n m)[i].take (k+1))):=by
   rw [List.take_succ_eq_append_getElem hk]
   simp only [l9,gL,List.map_append,List.map_cons,List.map_nil,List.cons_append]
  rw [e,e2]
  refine (aM (room_le _ _ (by unfold l9 gL; simp only [List.length_map,List.length_cons,List.length_take]; omega) (by omega))).trans ?_
  rw [di k (by omega)]; rfl
 ·show (sw _ _ _ _ _ _ _ _ _).run=_
  unfold sw
  refine (aM (bQ (by rw [mf]; exact hi))).trans ?_
  rw [hr,List.take_of_length_le (Nat.le_refl _)]
  exact (bn (decide_eq_false (by rw [hl]; omega))).trans rfl
theorem aac (r:Int->Int->Tree (List (List Int))) (n0 m0:Int) {n m f:Nat} (hn:n<=10) (hf:f<=10) (out:List (List Nat)) (ho:out.length<=100000) :
  dP (fun v=>((sD r) n0 m0 (f:Int) (nU n m) v.1 v.2).run) (0,out.map gL)=some ((out++(bV n m).map (l9 f)).map gL):=by
 have hc:=EY hn m
 refine fw (S:=fun i=>((i:Int),(out++((bV n m).take i).map (l9 f)).map gL)) (n:=(bV n m).length) (fun i hi=>?_) ?_ (by simp)
 ·unfold sD
  refine (bA (decide_eq_true (by rw [mf]; omega))).trans ?_
  refine (aN ((dI _ _).trans (aab r n0 m0 hn hf _ hi))).trans ?_
  have e:(out++((bV n m).take i).map (l9 f)).map gL++[gL (l9 f (bV n m)[i])]=(out++((bV n m).take (i+1)).map (l9 f)).map gL:=by
   rw [List.take_succ_eq_append_getElem hi]
   simp only [List.map_append,List.map_cons,List.map_nil,List.append_assoc]
  rw [e]
  refine (aM (room_le _ _ (by simp only [List.length_map,List.length_append,List.length_take]; omega) (by omega))).trans ?_
  rw [di i (by omega)]; rfl
 ·show (sD _ _ _ _ _ _ _).run=_
  unfold sD
  rw [List.take_of_length_le (Nat.le_refl _)]
  exact (bn (decide_eq_false (by rw [mf]; omega))).trans rfl
theorem RL:∀ (m n:Nat),n<=10->(pz (m+1) (n:Int) (m:Int)).run=some (nU n m)
 | m,n,hn=>by
  show (uN (pz m) (n:Int) (m:Int)).run=_
  unfold uN
  by_cases hnm:n<m
  ·refine (bA ?_).trans ?_
   ·rw [Bool.or_eq_true,decide_eq_true_iff,decide_eq_true_iff]; omega
   ·unfold nU; rw [uM hnm]; rfl
  refine (bn ?_).trans ?_
  ·rw [Bool.or_eq_false_iff,decide_eq_false_iff_not,decide_eq_false_iff_not]; omega
  cases m with
  | zero =>
   refine (bA (decide_eq_true (by omega))).trans ?_
   unfold nU; rw [J8]; rfl
  | succ m =>
   refine (bn (decide_eq_false (by omega))).trans ?_
   refine (aN (a:=(bV n (m+1)).map gL) ((dI _ _).trans (fw (S:=fun f=>((f:Int),(su n m f).map gL)) (n:=n-m) (fun f hf=>?_) ?_ rfl))).trans rfl
   ·have ih:=RL m (n-f-1) (by omega)
    have hF:=RJ hn m f
    unfold uO
    rw [gD ((f:Int)+((m+1:Nat):Int)) (by omega) (by omega)]
    refine (bA (decide_eq_true (by omega))).trans ?_
    rw [show ay (ay ((n:Int)-(f:Int))-1)=((n-f-1:Nat):Int) from by rw [gD ((n:Int)-(f:Int)) (by omega) (by omega),gD _ (by omega) (by omega)]; omega,show ay (((m+1:Nat):Int)-1)=(m:Int) from by rw [gD _ (by omega) (by omega)]; omega]
    refine (aN ih).trans ?_
    refine (aN ((dI _ _).trans (aac _ _ _ (by omega) (by omega) (su n m f) (by omega)))).trans ?_
    rw [di f (by omega),<- RH]; rfl
   ·show (uO _ _ _ _ _).run=_
    unfold uO
    rw [gD (((n-m:Nat):Int)+((m+1:Nat):Int)) (by omega) (by omega),RI]
    exact (bn (decide_eq_false (by omega))).trans rfl
theorem aad {r r':Int->Int->Tree (List (List Int))} (h:∀ a b,dE (r a b) (r' a b)) (a b:Int):dE (uN r a b) (uN r' a b):=by
 unfold uN
 refine dE.ite (dE.rfl _) (dE.ite (dE.rfl _) (dE.bnd (dE.loop fun s=>?_) fun _=>dE.rfl _))
 unfold uO
 refine dE.ite (dE.bnd (h _ _) fun y=>dE.bnd (dE.loop fun s=>?_) fun _=>dE.rfl _) (dE.rfl _)
 unfold sD
 refine dE.ite (dE.bnd (dE.loop fun s=>?_) fun _=>dE.rfl _) (dE.rfl _)
 unfold sw
 exact dE.rfl _
theorem RN:∀ (n:Nat) (a b:Int),dE (pz n a b) (pz (n+1) a b)
 | 0,_,_=>dE.fail _
 | n+1,a,b=>aad (RN n) a b
theorem RO {n:Nat} (hn:n<=10) (m:Nat):(Bz (n:Int) (m:Int)).run=some (nU n m):=by
 unfold Bz
 exact Re (F:=fun k=>pz k (n:Int) (m:Int)) (fun k=>RN k _ _) (RL m n hn)
theorem Kc {a:List Int} (hl:a.length<=1000) (n:Int):(xR a n).run=some (decide (n∈a)):=by
 unfold xR
 have h:=Ke a (fun x=>decide (x=n)) (fun v=>xS a n v) (Sum.inl true:Bool⊕Unit) (.inr ()) (by omega) (fun i hi=>by
  unfold xS
  refine (bA (decide_eq_true (by omega))).trans ?_
  refine (aM (bQ hi)).trans ?_
  rw [Int.toNat_natCast,getD_lt _ _ _ hi]
  cases hd:decide (a[i]=n) with
  | true=>exact (bA rfl).trans rfl
  | false=>exact (bn rfl).trans rfl) (by
  unfold xS
  exact (bn (decide_eq_false (by omega))).trans rfl)
 refine (aN ((dI _ _).trans h)).trans ?_
 have e:a.any (fun x=>decide (x=n))=decide (n∈a):=by
  rw [Bool.eq_iff_iff,List.any_eq_true,decide_eq_true_iff]
  exact ⟨fun ⟨x,hx,e⟩=>by rw [<- decide_eq_true_iff.1 e]; exact hx,fun h=>⟨n,h,decide_eq_true rfl⟩⟩
 rw [<- e]
 cases a.any (fun x=>decide (x=n)) <;> rfl
theorem aae (L:PL) (c:List Nat) {i:Nat} (hi:i<c.length):bP L (c.take (i+1))=bP L (c.take i)++[L.getD c[i] (0,0)]:=by
 unfold bP
 rw [List.take_succ_eq_append_getElem hi,List.map_append]; rfl
theorem aaf {L:PL} (hl:L.length<=100) {c:List Nat} (hc:c.length<=100) (h:∀ i∈c,i<L.length):(xU L (gL c)).run=some ((cl [] (bP L c):Int),(cr [] (bP L c):Int),()):=by
 have hlen:(gL c).length=c.length:=List.length_map ..
 unfold xU
 refine (aN ((dI _ _).trans (fw (a:=(dM [] ((bP L c).map (·.1)),dM [] ((bP L c).map (·.2)))) (S:=fun i=>((i:Int),dM [] ((bP L (c.take i)).map (·.1)),dM [] ((bP L (c.take i)).map (·.2)))) (n:=c.length) (fun i hi=>?_) ?_ rfl))).trans rfl
 ·have hlt:=h _ (List.getElem_mem hi)
  obtain ⟨⟨u,v⟩,hp⟩:∃ p,L[c[i]]? = some p:=⟨_,List.getElem?_eq_getElem hlt⟩
  have hp2:L.getD c[i] (0,0)=(u,v):=by rw [List.getD_eq_getElem?_getD,hp]; rfl
  have h1:=J4 (A:=[]) (l:=(bP L (c.take i)).map (·.1))
  have h2:=J4 (A:=[]) (l:=(bP L (c.take i)).map (·.2))
  have h3:(bP L (c.take i)).length<=100:=by unfold bP; rw [List.length_map,List.length_take]; omega
  rw [List.length_map] at h1 h2
  simp only [List.length_nil] at h1 h2
  rw [aae L c hi,hp2,List.map_append,List.map_append,xL,xL]
  show (uP _ _ _ _ _).run=some (.inl (_,dh _ u,dh _ v))
  generalize dM [] ((bP L (c.take i)).map (·.1))=a at *
  generalize dM [] ((bP L (c.take i)).map (·.2))=b at *
  unfold uP
  refine (bA (decide_eq_true (by rw [hlen]; omega))).trans ?_
  refine (aM (bQ (by rw [hlen]; exact hi))).trans ?_
  rw [Ka hi]
  refine (aM (bQ hlt)).trans ?_
  refine (aM jG).trans ?_
  rw [getD_at hp]
  dsimp only
  refine (aN (Kc (by omega) u)).trans ?_
  rw [di i (by omega)]
  by_cases hu:u∈a
  ·rw [decide_eq_true hu,kQ hu]
   refine (bn rfl).trans ?_
   refine (aM kv).trans ?_
   refine (aN (Kc (by omega) v)).trans ?_
   by_cases hv:v∈b
   ·rw [decide_eq_true hv,kQ hv]
    exact (bn rfl).trans rfl
   ·rw [decide_eq_false hv,nQ hv]
    refine (bA rfl).trans ?_
    refine (aM kv).trans ?_
    exact (aM (room_le _ _ (by simp only [List.length_append,List.length_cons,List.length_nil]; omega) (by omega))).trans rfl
  ·rw [decide_eq_false hu,nQ hu]
   refine (bA rfl).trans ?_
   refine (aM jG).trans ?_
   refine (aM (room_le _ _ (by simp only [List.length_append,List.length_cons,List.length_nil]; omega) (by omega))).trans ?_
   refine (aM kv).trans ?_
   refine (aN (Kc (by omega) v)).trans ?_
   by_cases hv:v∈b
   ·rw [decide_eq_true hv,kQ hv]
    exact (bn rfl).trans rfl
   ·rw [decide_eq_false hv,nQ hv]
    refine (bA rfl).trans ?_
    refine (aM kv).trans ?_
    exact (aM (room_le _ _ (by simp only [List.length_append,List.length_cons,List.length_nil]; omega) (by omega))).trans rfl
 ·show (uP _ _ _ _ _).run=_
  unfold uP
  rw [List.take_of_length_le (Nat.le_refl _)]
  exact (bn (decide_eq_false (by rw [hlen]; omega))).trans rfl
def iG (L:PL) (s:Nat×Nat) (c:List Nat):Nat×Nat:=if s.1<cl [] (bP L c)\/cl [] (bP L c)=s.1/\s.2<cr [] (bP L c) then (cl [] (bP L c),cr [] (bP L c)) else s
theorem aag (L:PL) (l:List (List Nat)):∀ s:Nat×Nat,(l.foldl (iG L) s=s\/∃ c∈l,l.foldl (iG L) s=(cl [] (bP L c),cr [] (bP L c))) /\
  (s.1<(l.foldl (iG L) s).1\/s.1=(l.foldl (iG L) s).1/\s.2<=(l.foldl (iG L) s).2) /\
  ∀ c∈l,cl [] (bP L c)<(l.foldl (iG L) s).1\/cl [] (bP L c)=(l.foldl (iG L) s).1/\cr [] (bP L c)<=(l.foldl (iG L) s).2:=by
 induction l with
 | nil=>intro s; exact ⟨.inl rfl,.inr ⟨rfl,Nat.le_refl _⟩,fun c h=>by cases h⟩
 | cons x l ih =>
  intro s
  rw [List.foldl_cons]
  obtain ⟨h1,h2,h3⟩:=ih (iG L s x)
  have hb:iG L s x=s/\(cl [] (bP L x)<s.1\/cl [] (bP L x)=s.1/\cr [] (bP L x)<=s.2)\/iG L s x=(cl [] (bP L x),cr [] (bP L x))/\(s.1<cl [] (bP L x)\/cl [] (bP L x)=s.1/\s.2<cr [] (bP L x)):=by
   unfold iG
   by_cases h:s.1<cl [] (bP L x)\/cl [] (bP L x)=s.1/\s.2<cr [] (bP L x)
   ·rw [if_pos h]; exact .inr ⟨rfl,h⟩
   ·rw [if_neg h]; exact .inl ⟨rfl,by omega⟩
  generalize l.foldl (iG L) (iG L s x)=t at *
  rcases hb with ⟨e,hb⟩ | ⟨e,hb⟩ <;> rw [e] at h1 h2
  ·refine ⟨h1.imp id fun ⟨c,hc,q⟩=>⟨c,List.mem_cons_of_mem _ hc,q⟩,h2,fun c hc=>?_⟩
   rcases List.mem_cons.1 hc with q | hc
   ·subst q; omega
   ·exact h3 c hc
  ·refine ⟨.inr (h1.elim (fun q=>⟨x,List.mem_cons_self,q⟩) fun ⟨c,hc,q⟩=>⟨c,List.mem_cons_of_mem _ hc,q⟩),by simp only at h2; omega,fun c hc=>?_⟩
   rcases List.mem_cons.1 hc with q | hc
   ·subst q; exact h2
   ·exact h3 c hc
theorem aah {L:PL} {m:Nat} (h:m<=L.length):(bV L.length m).foldl (iG L) (0,0)=(eQ L m,ji L m):=by
 obtain ⟨h1,_,h3⟩:=aag L (bV L.length m) (0,0)
 obtain ⟨k1,k2,k3⟩:=RP h
 have h4:=h3 _ k1
 rw [k2,k3] at h4
 generalize (bV L.length m).foldl (iG L) (0,0)=t at *
 obtain ⟨t1,t2⟩:=t
 simp only at h4
 rcases h1 with e | ⟨c,hc,e⟩
 ·rw [Prod.mk.injEq] at e ⊢; omega
 ·obtain ⟨q1,q2⟩:=Kg hc
  rw [Prod.mk.injEq] at e ⊢
  omega
theorem RQ {L:PL} (hl:L.length<=10) {m i:Nat} (hi:i<(bV L.length m).length):(xU L ((nU L.length m).getD ((i:Int)).toNat ([]:List Int))).run=some ((cl [] (bP L (bV L.length m)[i]):Int),(cr [] (bP L (bV L.length m)[i]):Int),()):=by
 have hm:=List.getElem_mem hi
 rw [Kb hi]
 refine aaf (by omega) ?_ (EZ hm)
 have h1:=RF hm
 by_cases h:m<=L.length
 ·omega
 ·rw [uM (by omega)] at hi; cases hi
theorem aai {L:PL} (hl:L.length<=10) {m:Nat} (h:m<=L.length):(E5 L (m:Int)).run=some ((eQ L m:Int),(ji L m:Int),()):=by
 have hc:=EY hl m
 unfold E5
 refine (aN (RO hl m)).trans ?_
 refine (aN ((dI _ _).trans (fw (a:=((eQ L m:Int),(ji L m:Int))) (S:=fun i=>(((((bV L.length m).take i).foldl (iG L) (0,0)).1:Int),((((bV L.length m).take i).foldl (iG L) (0,0)).2:Int),(i:Int))) (n:=(bV L.length m).length) (fun i hi=>?_) ?_ rfl))).trans rfl
 ·rw [List.take_succ_eq_append_getElem hi,List.foldl_append]
  show (uQ _ _ _ _ _).run=some (.inl (((iG L _ (bV L.length m)[i]).1:Int),((iG L _ (bV L.length m)[i]).2:Int),_))
  generalize ((bV L.length m).take i).foldl (iG L) (0,0)=s
  dsimp only
  unfold uQ
  refine (bA (decide_eq_true (by rw [mf]; omega))).trans ?_
  refine (aM (bQ (by rw [mf]; exact hi))).trans ?_
  refine (aN (RQ hl hi)).trans ?_
  rw [di i (by omega)]
  unfold iG
  generalize cl [] (bP L (bV L.length m)[i])=x
  generalize cr [] (bP L (bV L.length m)[i])=y
  by_cases hb:s.1<x\/x=s.1/\s.2<y
  ·rw [if_pos hb]
   refine (bA ?_).trans rfl
   simp only [Bool.or_eq_true,Bool.and_eq_true,decide_eq_true_iff]
   omega
  ·rw [if_neg hb]
   refine (bn ?_).trans rfl
   rw [Bool.eq_false_iff]
   simp only [ne_eq,Bool.or_eq_true,Bool.and_eq_true,decide_eq_true_iff]
   omega
 ·show (uQ _ _ _ _ _).run=_
  unfold uQ
  rw [List.take_of_length_le (Nat.le_refl _),aah h]
  dsimp only
  exact (bn (decide_eq_false (by rw [mf]; omega))).trans rfl
theorem aaj {L:PL} (hl:L.length<=10) {m:Nat} (h:m<=L.length):(E8 L (m:Int)).run=some (gL (gK L m)):=by
 have hc:=EY hl m
 have hp:=aak h
 unfold E8
 refine (aN (RO hl m)).trans ?_
 refine (aN (aai hl h)).trans ?_
 have hf:=BA (st:=fun v=>(xV L (nU L.length m) (eQ L m:Int) (ji L m:Int) v).run) (bV L.length m) (fun c=>decide (cl [] (bP L c)=eQ L m)&&decide (cr [] (bP L c)=ji L m)) (fun i=>(i:Int)) (fun i=>(Sum.inl ((nU L.length m).getD ((i:Int)).toNat ([]:List Int)):List Int⊕Unit)) (.inr ())
  (fun i hi=>by
   unfold xV
   refine (bA (decide_eq_true (by rw [mf]; omega))).trans ?_
   refine (aM (bQ (by rw [mf]; exact hi))).trans ?_
   refine (aN (RQ hl hi)).trans ?_
   rw [di i (by omega)]
   have e:∀ x y:Nat,decide ((x:Int)=(y:Int))=decide (x=y):=fun x y=>by
    by_cases h:x=y
    ·rw [h,decide_eq_true rfl,decide_eq_true rfl]
    ·rw [decide_eq_false h,decide_eq_false (by omega)]
   dsimp only
   rw [e,e]
   cases (decide (cl [] (bP L (bV L.length m)[i])=eQ L m)&&decide (cr [] (bP L (bV L.length m)[i])=ji L m)) with
   | true=>refine (bA rfl).trans ?_; exact (aM (bQ (by rw [mf]; exact hi))).trans rfl
   | false=>exact (bn rfl).trans rfl)
  (by
   unfold xV
   exact (bn (decide_eq_false (by rw [mf]; omega))).trans rfl) (s0:=(0:Int)) rfl
 rcases hf with ⟨_,k⟩ | ⟨i,hi,k1,k2,_,k3⟩
 ·have:=List.any_eq_false.1 k _ (List.mem_of_find?_eq_some hp)
  exact absurd (List.find?_some hp) this
 ·have:(bV L.length m).find? (fun c=>decide (cl [] (bP L c)=eQ L m)&&decide (cr [] (bP L c)=ji L m))=some (bV L.length m)[i]:=by
   rw [List.find?_eq_some_iff_getElem]
   exact ⟨k2,i,hi,rfl,fun j hj=>by rw [k3 j hj]; rfl⟩
  rw [hp] at this
  injection this with this
  refine (aN ((dI _ _).trans k1)).trans ?_
  rw [Kb hi,<- this]; rfl
end Go.aT
