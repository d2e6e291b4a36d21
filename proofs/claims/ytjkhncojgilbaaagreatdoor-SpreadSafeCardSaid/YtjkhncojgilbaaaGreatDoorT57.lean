/- Laws in plain Lean: mt16 mu16 t17 u17 o57. -/
import Derived.Test.YtjkhncojgilbaaaGreatDoorTrI
namespace Go.aT
open Go Go.Proofs Go.RowKit
abbrev Pf:Type:=Int->Option Nat
def upd (f:Pf) (k:Int) (a:Nat):Pf:=fun q=>if q=k then some a else f q
theorem upd_same (f:Pf) (k:Int) (a:Nat):upd f k a k=some a:=if_pos rfl
theorem kL (f:Pf) {k q:Int} (a:Nat) (h:q≠k):upd f k a q=f q:=if_neg h
structure Valid (l:List (Int×Int)) (L R:Pf):Prop where
 lr:∀ u a,L u=some a->∃ v,l[a]? = some (u,v)/\R v=some a
 rl:∀ v a,R v=some a->∃ u,l[a]? = some (u,v)/\L u=some a
inductive l8 (l:List (Int×Int)) (L R:Pf):(Int->Prop)->Int->Pf->Pf->Prop where
 |base {S:Int->Prop} {u:Int} {a:Nat} {v:Int} (h:l[a]? = some (u,v)) (hs:¬ S v) (hr:R v=none):l8 l L R S u (upd L u a) (upd R v a)
 |step {S S1:Int->Prop} {u:Int} {a:Nat} {v:Int} {o:Nat} {w v':Int} {L1 R1:Pf} (h:l[a]? = some (u,v)) (hs:¬ S v) (hr:R v=some o) (ho:l[o]? = some (w,v')) (h1:∀ x,S x->S1 x) (hv:S1 v)
   (ih:l8 l L R S1 w L1 R1):l8 l L R S u (upd L1 u a) (upd R1 v a)
structure ahA (l:List (Int×Int)) (L R:Pf) (S:Int->Prop) (u:Int) (L' R':Pf):Prop where
 lr:∀ (q:Int) (a:Nat),L' q=some a->∃ v:Int,l[a]? = some (q,v)/\R' v=some a
 rl:∀ (v:Int) (a:Nat),R' v=some a->(∀ (o:Nat) (z:Int),L u=some o->l[o]? = some (u,z)->v≠z)->∃ q:Int,l[a]? = some (q,v)/\L' q=some a
 seen:∀ v,S v->R' v=R v
 dom:∀ q,L' q=none↔(q≠u/\L q=none)
 far:∀ w a z,L w=some a->l[a]? = some (w,z)->S z->w≠u->L' w=L w
 new:∃ a z,L' u=some a/\l[a]? = some (u,z)/\¬ S z
theorem l8.ok {l:List (Int×Int)} {L R:Pf} (hV:Valid l L R) {S:Int->Prop} {u:Int} {L' R':Pf} (h:l8 l L R S u L' R'):(∀ o z,L u=some o->l[o]? = some (u,z)->S z)->ahA l L R S u L' R':=by
 induction h with
 | @base S u a v h hs hr =>
  intro hu
  refine ⟨fun q b hq=>?_,fun z b hz hne=>?_,fun z hz=>kL _ _ (fun e=>hs (e▸hz)),fun q=>?_,fun w b z hw hb hz hwu=>kL _ _ hwu,⟨a,v,upd_same _ _ _,h,hs⟩⟩
  ·by_cases e:q=u
   ·subst e; rw [upd_same] at hq; cases hq; exact ⟨v,h,upd_same _ _ _⟩
   ·rw [kL _ _ e] at hq
    obtain ⟨z,h1,h2⟩:=hV.lr q b hq
    refine ⟨z,h1,?_⟩
    rw [kL _ _ (fun e=>by rw [e,hr] at h2; cases h2)]; exact h2
  ·by_cases e:z=v
   ·subst e; rw [upd_same] at hz; cases hz; exact ⟨u,h,upd_same _ _ _⟩
   ·rw [kL _ _ e] at hz
    obtain ⟨q,h1,h2⟩:=hV.rl z b hz
    refine ⟨q,h1,?_⟩
    rw [kL _ _ (fun e=>by subst e; exact hne b z h2 h1 rfl)]; exact h2
  ·by_cases e:q=u
   ·subst e; rw [upd_same]; exact ⟨fun h=>(by cases h),fun h=>absurd rfl h.1⟩
   ·rw [kL _ _ e]; exact ⟨fun h=>⟨e,h⟩,fun h=>h.2⟩
 | @step S S1 u a v o w v' L1 R1 h hs hr ho h1 hv ih0 ih =>
  intro hu
  obtain ⟨w2,k1,k2⟩:=hV.rl v o hr
  rw [ho] at k1
  cases k1
  have hI:=ih fun o' z hL hl=>by
   rw [k2] at hL; cases hL; rw [ho] at hl; cases hl; exact hv
  have huw:u≠w:=fun e=>by
   subst e; exact hs (hu o v k2 ho)
  refine ⟨fun q b hq=>?_,fun z b hz hne=>?_,fun z hz=>?_,fun q=>?_,fun w1 b z hw hb hz hwu=>?_,⟨a,v,upd_same _ _ _,h,hs⟩⟩
  ·by_cases e:q=u
   ·subst e; rw [upd_same] at hq; cases hq; exact ⟨v,h,upd_same _ _ _⟩
   ·rw [kL _ _ e] at hq
    obtain ⟨z,q1,q2⟩:=hI.lr q b hq
    refine ⟨z,q1,?_⟩
    by_cases ez:z=v
    ·exfalso
     subst ez
     rw [hI.seen z hv,hr] at q2
     cases q2
     rw [ho] at q1
     cases q1
     obtain ⟨a2,z2,n1,n2,n3⟩:=hI.new
     rw [hq] at n1
     cases n1
     rw [ho] at n2
     cases n2
     exact n3 hv
    ·rw [kL _ _ ez]; exact q2
  ·by_cases e:z=v
   ·subst e; rw [upd_same] at hz; cases hz; exact ⟨u,h,upd_same _ _ _⟩
   ·rw [kL _ _ e] at hz
    obtain ⟨q,q1,q2⟩:=hI.rl z b hz fun o' z' hL hl=>by
     rw [k2] at hL; cases hL; rw [ho] at hl; cases hl; exact e
    refine ⟨q,q1,?_⟩
    by_cases eq:q=u
    ·exfalso
     subst eq
     cases hq:L q with
     | none =>
      have:=(hI.dom q).2 ⟨huw,hq⟩
      rw [q2] at this; cases this
     | some o' =>
      obtain ⟨z2,r1,r2⟩:=hV.lr q o' hq
      have:=hI.far q o' z2 hq r1 (h1 z2 (hu o' z2 hq r1)) huw
      rw [q2,hq] at this
      cases this
      rw [q1] at r1
      cases r1
      exact hne b z hq q1 rfl
    ·rw [kL _ _ eq]; exact q2
  ·rw [kL R1 a (show z≠v from fun e=>hs (e▸hz))]; exact hI.seen z (h1 z hz)
  ·by_cases e:q=u
   ·subst e; rw [upd_same]; exact ⟨fun h=>(by cases h),fun h=>absurd rfl h.1⟩
   ·rw [kL _ _ e]
    rw [hI.dom q]
    refine ⟨fun h=>⟨e,h.2⟩,fun h=>⟨fun ew=>?_,h.2⟩⟩
    rw [ew,k2] at h; cases h.2
  ·rw [kL _ _ hwu]
   refine hI.far w1 b z hw hb (h1 z hz) fun ew=>?_
   subst ew
   rw [k2] at hw
   cases hw
   rw [ho] at hb
   cases hb
   exact hs hz
theorem l8.valid {l:List (Int×Int)} {L R:Pf} (hV:Valid l L R) {S:Int->Prop} {u:Int} {L' R':Pf} (h:l8 l L R S u L' R') (hu:L u=none):Valid l L' R'/\∀ q,L' q=none↔(q≠u/\L q=none):=by
 have hI:=h.ok hV fun o z hL _=>by rw [hu] at hL; cases hL
 exact ⟨⟨hI.lr,fun v a hv=>hI.rl v a hv fun o z hL _=>by rw [hu] at hL; cases hL⟩,hI.dom⟩
def xh (l:List (Int×Int)) (R:Pf) (E:Int->Prop):Prop:=∀ v,E v->∃ (o:Nat) (w:Int),R v=some o/\l[o]? = some (w,v)/\∀ (a:Nat) (z:Int),l[a]? = some (w,z)->E z
theorem l8.no {l:List (Int×Int)} {L R:Pf} {E:Int->Prop} (hE:xh l R E) {S:Int->Prop} {u:Int} {L' R':Pf} (h:l8 l L R S u L' R'):(∀ (a:Nat) (z:Int),l[a]? = some (u,z)->E z)->False:=by
 induction h with
 | base h hs hr =>
  intro hn
  obtain ⟨o,w,h1,_⟩:=hE _ (hn _ _ h)
  rw [hr] at h1; cases h1
 | step h hs hr ho h1 hv ih0 ih =>
  intro hn
  obtain ⟨o,w,h1,h2,h3⟩:=hE _ (hn _ _ h)
  rw [hr] at h1; cases h1
  rw [ho] at h2; cases h2
  exact ih h3
theorem l8.keep {l:List (Int×Int)} {L R:Pf} {E:Int->Prop} (hE:xh l R E) {S:Int->Prop} {u:Int} {L' R':Pf} (h:l8 l L R S u L' R'):∀ v,E v->R' v=R v:=by
 induction h with
 | base h hs hr =>
  intro z hz
  refine kL _ _ fun e=>?_
  subst e
  obtain ⟨o,w,h1,_⟩:=hE _ hz
  rw [hr] at h1; cases h1
 | step h hs hr ho h1 hv ih0 ih =>
  intro z hz
  rw [kL _ _ (fun e=>?_)]
  ·exact ih z hz
  ·subst e
   obtain ⟨o,w,q1,q2,q3⟩:=hE _ hz
   rw [hr] at q1; cases q1
   rw [ho] at q2; cases q2
   exact ih0.no hE q3
theorem xh.mono {l:List (Int×Int)} {R R':Pf} {E:Int->Prop} (hE:xh l R E) (h:∀ v,E v->R' v=R v):xh l R' E:=fun v hv=>by
 obtain ⟨o,w,h1,h2,h3⟩:=hE v hv
 exact ⟨o,w,(h v hv).trans h1,h2,h3⟩
structure mW (l:List (Int×Int)) (R:Pf) (S:Int->Prop) (u:Int) (i:Nat) (S':Int->Prop):Prop where
 mono:∀ x,S x->S' x
 all:∀ (a:Nat) (z:Int),a<i->l[a]? = some (u,z)->S' z
 eU:∀ v,S' v->¬ S v->∃ (o:Nat) (w:Int),R v=some o/\l[o]? = some (w,v)/\∀ (a:Nat) (z:Int),l[a]? = some (w,z)->S' z
theorem mW.zero (l:List (Int×Int)) (R:Pf) (S:Int->Prop) (u:Int):mW l R S u 0 S:=⟨fun _ h=>h,fun _ _ h=>absurd h (Nat.not_lt_zero _),fun _ h k=>absurd h k⟩
theorem mW.skip {l:List (Int×Int)} {R:Pf} {S:Int->Prop} {u:Int} {i:Nat} {S':Int->Prop} (h:mW l R S u i S') (hn:∀ z,l[i]? = some (u,z)->S' z):mW l R S u (i+1) S' :=
 ⟨h.mono,fun a z ha hl=>by
  by_cases e:a=i
  ·subst e; exact hn z hl
  ·exact h.all a z (by omega) hl,h.eU⟩
theorem mW.more {l:List (Int×Int)} {R:Pf} {S:Int->Prop} {u:Int} {i:Nat} {S' S2:Int->Prop} {v w:Int} {o:Nat} (h:mW l R S u i S') (hl:l[i]? = some (u,v)) (hr:R v=some o) (ho:l[o]? = some (w,v))
  (h2:mW l R (fun x=>S' x\/x=v) w l.length S2):mW l R S u (i+1) S2:=by
 have hw:∀ (a:Nat) (z:Int),l[a]? = some (w,z)->S2 z:=fun a z ha=>h2.all a z (List.getElem?_eq_some_iff.1 ha).1 ha
 refine ⟨fun x hx=>h2.mono x (.inl (h.mono x hx)),fun a z ha hz=>?_,fun z hz hn=>?_⟩
 ·by_cases e:a=i
  ·subst e; rw [hl] at hz; cases hz; exact h2.mono _ (.inr rfl)
  ·exact h2.mono _ (.inl (h.all a z (by omega) hz))
 ·by_cases e:S' z\/z=v
  ·rcases e with e | e
   ·obtain ⟨o1,w1,q1,q2,q3⟩:=h.eU z e hn
    exact ⟨o1,w1,q1,q2,fun a y ha=>h2.mono _ (.inl (q3 a y ha))⟩
   ·subst e; exact ⟨o,w,hr,ho,hw⟩
  ·exact h2.eU z hz e
structure kr (l:List (Int×Int)) (k:Nat) (L R:Pf):Prop where
 val:Valid l L R
 eU:∃ E:Int->Prop,xh l R E/\∀ (a:Nat) (u z:Int),a<k->l[a]? = some (u,z)->L u=none->∀ (b:Nat) (y:Int),l[b]? = some (u,y)->E y
theorem kr.zero (l:List (Int×Int)):kr l 0 (fun _=>none) (fun _=>none) :=
 ⟨⟨fun _ _ h=>(by cases h),fun _ _ h=>(by cases h)⟩,fun _=>False,fun _ h=>h.elim,fun _ _ _ h=>absurd h (Nat.not_lt_zero _)⟩
theorem kr.skip {l:List (Int×Int)} {k:Nat} {L R:Pf} (h:kr l k L R) (hn:∀ u z,l[k]? = some (u,z)->L u≠none):kr l (k+1) L R:=by
 obtain ⟨E,h1,h2⟩:=h.eU
 refine ⟨h.val,E,h1,fun a u z ha hl hu=>?_⟩
 by_cases e:a=k
 ·subst e; exact absurd hu (hn u z hl)
 ·exact h2 a u z (by omega) hl hu
theorem kr.fail {l:List (Int×Int)} {k:Nat} {L R:Pf} (h:kr l k L R) {u v:Int} (hk:l[k]? = some (u,v)) {S':Int->Prop} (hf:mW l R (fun _=>False) u l.length S'):kr l (k+1) L R:=by
 obtain ⟨E,h1,h2⟩:=h.eU
 refine ⟨h.val,fun x=>E x\/S' x,fun z hz=>?_,fun a q z ha hl hu b y hb=>?_⟩
 ·rcases hz with hz | hz
  ·obtain ⟨o,w,q1,q2,q3⟩:=h1 z hz
   exact ⟨o,w,q1,q2,fun a y ha=>.inl (q3 a y ha)⟩
  ·obtain ⟨o,w,q1,q2,q3⟩:=hf.eU z hz id
   exact ⟨o,w,q1,q2,fun a y ha=>.inr (q3 a y ha)⟩
 ·by_cases e:a=k
  ·subst e
   rw [hk] at hl; cases hl
   exact .inr (hf.all b y (List.getElem?_eq_some_iff.1 hb).1 hb)
  ·exact .inl (h2 a q z (by omega) hl hu b y hb)
theorem kr.ZT {l:List (Int×Int)} {k:Nat} {L R L' R':Pf} (h:kr l k L R) {u v:Int} (hk:l[k]? = some (u,v)) (hu:L u=none) (ha:l8 l L R (fun _=>False) u L' R'):kr l (k+1) L' R'/\∀ q,L' q=none↔(q≠u/\L q=none):=by
 obtain ⟨hv,hd⟩:=ha.valid h.val hu
 obtain ⟨E,h1,h2⟩:=h.eU
 refine ⟨⟨hv,E,h1.mono (ha.keep h1),fun a q z hlt hl hq b y hb=>?_⟩,hd⟩
 obtain ⟨hne,hq⟩:=(hd q).1 hq
 by_cases e:a=k
 ·subst e; rw [hk] at hl; cases hl; exact absurd rfl hne
 ·exact h2 a q z (by omega) hl hq b y hb
theorem ko {α:Type} [DecidableEq α]:∀ {a b:List α},a.Nodup->(∀ x,x∈a->x∈b)->a.length<=b.length
 | [],_,_,_=>Nat.zero_le _
 | x::a,b,hn,hs=>by
  obtain ⟨h1,h2⟩:=List.nodup_cons.1 hn
  have hx:=hs x List.mem_cons_self
  have:=ko (a:=a) (b:=b.erase x) h2 fun y hy=>(List.mem_erase_of_ne (show y≠x from fun e=>h1 (by rw [<- e]; exact hy))).2 (hs y (List.mem_cons_of_mem _ hy))
  rw [List.length_erase_of_mem hx] at this
  have hp:=List.length_pos_of_mem hx
  rw [List.length_cons]; omega
def j4 (l:List (Int×Int)) (I:List Nat):Prop:=(∀ i∈I,i<l.length)/\I.Pairwise fun i j=>∀ p q,l[i]? = some p->l[j]? = some q->p.1≠q.1/\p.2≠q.2
theorem Jb {α β:Type} {r:α->α->Prop} {f:α->β}:∀ {I:List α},I.Pairwise r->(∀ i∈I,∀ j∈I,r i j->f i≠f j)->(I.map f).Nodup
 | [],_,_=>List.nodup_nil
 | i::I,h,hf=>by
  obtain ⟨h1,h2⟩:=List.pairwise_cons.1 h
  rw [List.map_cons,List.nodup_cons]
  refine ⟨fun hm=>?_,Jb h2 fun a ha b hb=>hf a (List.mem_cons_of_mem _ ha) b (List.mem_cons_of_mem _ hb)⟩
  obtain ⟨j,hj,e⟩:=List.mem_map.1 hm
  exact hf i List.mem_cons_self j (List.mem_cons_of_mem _ hj) (h1 j hj) e.symm
open Classical in
theorem ahB {l:List (Int×Int)} {L R:Pf} (h:kr l l.length L R) {D:List Int} (hD:∀ u,L u≠none->u∈D) {I:List Nat} (hI:j4 l I):I.length<=D.length:=by
 obtain ⟨E,h1,h2⟩:=h.eU
 let f:Nat->Int:=fun i=>match l[i]? with
  | some (u,v)=>if E v then (match R v with | some o=>(match l[o]? with | some (w,_)=>w | none=>0) | none=>0) else u
  | none=>0
 have fE:∀ (i:Nat) (u v:Int),l[i]? = some (u,v)->E v->∃ (o:Nat) (w:Int),R v=some o/\l[o]? = some (w,v)/\(∀ (a:Nat) (z:Int),l[a]? = some (w,z)->E z)/\f i=w:=fun i u v hi hv=>by
  obtain ⟨o,w,q1,q2,q3⟩:=h1 v hv
  refine ⟨o,w,q1,q2,q3,?_⟩
  show (match l[i]? with
   | some (u,v)=>if E v then (match R v with | some o=>(match l[o]? with | some (w,_)=>w | none=>0) | none=>0) else u
   | none=>0)=w
  rw [hi]
  simp only [if_pos hv,q1,q2]
 have fN:∀ (i:Nat) (u v:Int),l[i]? = some (u,v)->¬ E v->f i=u:=fun i u v hi hv=>by
  show (match l[i]? with
   | some (u,v)=>if E v then (match R v with | some o=>(match l[o]? with | some (w,_)=>w | none=>0) | none=>0) else u
   | none=>0)=u
  rw [hi]
  simp only [if_neg hv]
 have hnd:(I.map f).Nodup:=Jb hI.2 fun i hi j hj hr e=>by
  have li:=hI.1 i hi
  have lj:=hI.1 j hj
  obtain ⟨⟨u,v⟩,hp⟩:∃ p,l[i]? = some p:=⟨_,List.getElem?_eq_getElem li⟩
  obtain ⟨⟨u',v'⟩,hq⟩:∃ p,l[j]? = some p:=⟨_,List.getElem?_eq_getElem lj⟩
  obtain ⟨n1,n2⟩:=hr _ _ hp hq
  by_cases ev:E v
  ·obtain ⟨o,w,q1,q2,q3,q4⟩:=fE i u v hp ev
   by_cases ev':E v'
   ·obtain ⟨o',w',r1,r2,r3,r4⟩:=fE j u' v' hq ev'
    rw [q4,r4] at e
    subst e
    obtain ⟨_,s1,s2⟩:=h.val.rl v o q1
    obtain ⟨_,t1,t2⟩:=h.val.rl v' o' r1
    rw [q2] at s1; cases s1
    rw [r2] at t1; cases t1
    rw [s2] at t2; cases t2
    rw [q2] at r2; cases r2
    exact n2 rfl
   ·rw [q4,fN j u' v' hq ev'] at e
    subst e
    exact ev' (q3 j v' hq)
  ·by_cases ev':E v'
   ·obtain ⟨o',w',r1,r2,r3,r4⟩:=fE j u' v' hq ev'
    rw [r4,fN i u v hp ev] at e
    subst e
    exact ev (r3 i v hp)
   ·rw [fN i u v hp ev,fN j u' v' hq ev'] at e
    exact n1 e
 have hsub:∀ x,x∈I.map f->x∈D:=fun x hx=>by
  obtain ⟨i,hi,rfl⟩:=List.mem_map.1 hx
  have li:=hI.1 i hi
  obtain ⟨⟨u,v⟩,hp⟩:∃ p,l[i]? = some p:=⟨_,List.getElem?_eq_getElem li⟩
  by_cases ev:E v
  ·obtain ⟨o,w,q1,q2,q3,q4⟩:=fE i u v hp ev
   obtain ⟨_,s1,s2⟩:=h.val.rl v o q1
   rw [q2] at s1; cases s1
   rw [q4]
   exact hD w (by rw [s2]; exact fun e=>by cases e)
  ·rw [fN i u v hp ev]
   exact hD u fun e=>ev (h2 i u v li hp e i v hp)
 have:=ko hnd hsub
 rwa [List.length_map] at this
theorem ahC {l:List (Int×Int)} {L R:Pf} (h:Valid l L R) {D:List Int} (hn:D.Nodup) (hD:∀ u,u∈D->L u≠none):j4 l (D.map fun u=>(L u).getD 0):=by
 refine ⟨fun i hi=>?_,?_⟩
 ·obtain ⟨u,hu,rfl⟩:=List.mem_map.1 hi
  cases hL:L u with
  | none=>exact absurd hL (hD u hu)
  | some a =>
   obtain ⟨v,h1,_⟩:=h.lr u a hL
   exact (List.getElem?_eq_some_iff.1 h1).1
 ·rw [List.pairwise_map]
  refine List.Pairwise.imp_of_mem (fun {u w} hu hw hne p q hp hq=>?_) hn
  cases hL:L u with
  | none=>exact absurd hL (hD u hu)
  | some a =>
   cases hL':L w with
   | none=>exact absurd hL' (hD w hw)
   | some b =>
    rw [hL] at hp
    rw [hL'] at hq
    obtain ⟨v,h1,h2⟩:=h.lr u a hL
    obtain ⟨v',h3,h4⟩:=h.lr w b hL'
    have hp:l[a]? = some p:=hp
    have hq:l[b]? = some q:=hq
    rw [h1] at hp; cases hp
    rw [h3] at hq; cases hq
    refine ⟨hne,fun e=>?_⟩
    have e:v=v':=e
    subst e
    rw [h2] at h4; cases h4
    rw [h1] at h3; cases h3
    exact hne rfl
def rZ (l:List (Int×Int)) (n:Nat):Prop:=(∃ I,j4 l I/\I.length=n)/\∀ I,j4 l I->I.length<=n
theorem rZ.uniq {l:List (Int×Int)} {n m:Nat} (h:rZ l n) (k:rZ l m):n=m:=by
 obtain ⟨⟨I,h1,h2⟩,h3⟩:=h
 obtain ⟨⟨J,k1,k2⟩,k3⟩:=k
 have:=k3 I h1
 have:=h3 J k1
 omega
theorem ZV {l:List (Int×Int)} {L R:Pf} (h:kr l l.length L R) {D:List Int} (hn:D.Nodup) (hD:∀ u,u∈D↔L u≠none):rZ l D.length :=
 ⟨⟨_,ahC h.val hn fun u hu=>(hD u).1 hu,List.length_map _⟩,fun _ hI=>ahB h (fun u hu=>(hD u).2 hu) hI⟩
theorem j4.nodup {l:List (Int×Int)} {I:List Nat} (h:j4 l I):I.Nodup:=by
 refine List.Pairwise.imp_of_mem (fun {i j} hi hj hr e=>?_) h.2
 subst e
 exact (hr _ _ (List.getElem?_eq_getElem (h.1 i hi)) (List.getElem?_eq_getElem (h.1 i hi))).1 rfl
def meets (l:List (Int×Int)) (i j:Nat):Bool:=match l[i]?,l[j]? with
 | some p,some q=>p.1==q.1||p.2==q.2
 | _,_=>false
def P5 (l:List (Int×Int)) (places:List Nat) (at_:Nat):Bool:=places.all fun i=>!meets l i at_
def qF (l:List (Int×Int)):Nat->Nat->List Nat->Nat
 | 0,_,_=>0
 | r+1,i,places=>if P5 l places i then max (qF l r (i+1) places) (1+qF l r (i+1) (places++[i])) else qF l r (i+1) places
theorem Xl {l:List (Int×Int)} {i j:Nat} (hi:i<l.length) (hj:j<l.length):meets l i j=false↔∀ p q,l[i]? = some p->l[j]? = some q->p.1≠q.1/\p.2≠q.2:=by
 unfold meets
 rw [List.getElem?_eq_getElem hi,List.getElem?_eq_getElem hj]
 simp only [Bool.or_eq_false_iff,beq_eq_false_iff_ne]
 exact ⟨fun h p q hp hq=>by cases hp; cases hq; exact h,fun h=>h _ _ rfl rfl⟩
theorem Xm {l:List (Int×Int)} {I:List Nat} {i:Nat} (hI:j4 l I) (hi:i<l.length):P5 l I i=true↔j4 l (I++[i]):=by
 unfold P5
 rw [List.all_eq_true]
 constructor
 ·intro h
  refine ⟨fun j hj=>?_,List.pairwise_append.2 ⟨hI.2,List.pairwise_singleton _ _,fun a ha b hb=>?_⟩⟩
  ·rcases List.mem_append.1 hj with hj | hj
   ·exact hI.1 j hj
   ·rw [List.mem_singleton.1 hj]; exact hi
  ·rw [List.mem_singleton.1 hb]
   exact (Xl (hI.1 a ha) hi).1 (by have:=h a ha; simpa using this)
 ·intro h a ha
  have:=(List.pairwise_append.1 h.2).2.2 a ha i (List.mem_singleton.2 rfl)
  rw [(Xl (hI.1 a ha) hi).2 this]; rfl
theorem P6 {l:List (Int×Int)}:∀ (r i:Nat) (P J:List Nat),i+r=l.length->(∀ j∈J,i<=j)->J.Pairwise (· < ·)->j4 l (P++J)->J.length<=qF l r i P
 | 0,i,P,J,hr,hj,_,hI=>by
  cases J with
  | nil=>exact Nat.le_refl _
  | cons j J =>
   have h1:=hj j List.mem_cons_self
   have h2:=hI.1 j (List.mem_append_right _ List.mem_cons_self)
   omega
 | r+1,i,P,J,hr,hj,hs,hI=>by
  have hP:j4 l P:=⟨fun a ha=>hI.1 a (List.mem_append_left _ ha),(List.pairwise_append.1 hI.2).1⟩
  unfold qF
  cases J with
  | nil=>exact Nat.zero_le _
  | cons j J =>
   obtain ⟨h1,h2⟩:=List.pairwise_cons.1 hs
   by_cases e:j=i
   ·subst e
    have hI2:j4 l (P++[j]++J):=by rw [List.append_assoc]; exact hI
    have hI1:j4 l (P++[j]):=⟨fun a ha=>hI2.1 a (List.mem_append_left _ ha),(List.pairwise_append.1 hI2.2).1⟩
    rw [if_pos ((Xm hP (by omega)).2 hI1)]
    have:=P6 r (j+1) (P++[j]) J (by omega) (fun k hk=>h1 k hk) h2 hI2
    rw [List.length_cons]; omega
   ·have hj0:=hj j List.mem_cons_self
    have:=P6 r (i+1) P (j::J) (by omega) (fun k hk=>by
     rcases List.mem_cons.1 hk with rfl | hk
     ·omega
     ·have:=h1 k hk; omega) hs hI
    split <;> omega
theorem P7 {l:List (Int×Int)}:∀ (r i:Nat) (P:List Nat),i+r=l.length->j4 l P->∃ J,j4 l (P++J)/\J.length=qF l r i P
 | 0,i,P,_,hP=>⟨[],by rw [List.append_nil]; exact hP,rfl⟩
 | r+1,i,P,hr,hP=>by
  obtain ⟨J,h1,h2⟩:=P7 r (i+1) P (by omega) hP
  unfold qF
  split
  ·rename_i hf
   obtain ⟨K,k1,k2⟩:=P7 r (i+1) (P++[i]) (by omega) ((Xm hP (by omega)).1 hf)
   by_cases hm:qF l r (i+1) P<=1+qF l r (i+1) (P++[i])
   ·exact ⟨i::K,by rw [List.append_assoc] at k1; exact k1,by rw [List.length_cons,k2]; omega⟩
   ·exact ⟨J,h1,by omega⟩
  ·exact ⟨J,h1,h2⟩
theorem ahD (l:List (Int×Int)):rZ l (qF l l.length 0 []):=by
 refine ⟨?_,fun I hI=>?_⟩
 ·obtain ⟨J,h1,h2⟩:=P7 (l:=l) l.length 0 [] (by omega) ⟨fun _ h=>(by cases h),List.Pairwise.nil⟩
  exact ⟨J,h1,h2⟩
 ·let J:=(List.range l.length).filter fun i=>I.contains i
  have hJ:∀ i,i∈J↔i∈I:=fun i=>by
   rw [List.mem_filter,List.mem_range,List.contains_iff_mem]
   exact ⟨fun h=>h.2,fun h=>⟨hI.1 i h,h⟩⟩
  have hs:J.Pairwise (· < ·):=List.pairwise_lt_range.filter _
  have hl:I.length<=J.length:=ko hI.nodup fun i hi=>(hJ i).2 hi
  have hsym:∀ i j,i∈I->j∈I->i≠j->∀ p q,l[i]? = some p->l[j]? = some q->p.1≠q.1/\p.2≠q.2:=by
   have key:∀ {I:List Nat},(I.Pairwise fun i j=>∀ p q,l[i]? = some p->l[j]? = some q->p.1≠q.1/\p.2≠q.2)->∀ i j,i∈I->j∈I->i≠j->∀ p q,l[i]? = some p->l[j]? = some q->p.1≠q.1/\p.2≠q.2:=by
    intro I h
    induction h with
    | nil=>intro i j hi; cases hi
    | cons h1 _ ih =>
     intro i j hi hj hne p q hp hq
     rcases List.mem_cons.1 hi with e | hi'
     ·rcases List.mem_cons.1 hj with e' | hj'
      ·exact absurd (e.trans e'.symm) hne
      ·subst e; exact h1 j hj' p q hp hq
     ·rcases List.mem_cons.1 hj with e' | hj'
      ·subst e'
       have:=h1 i hi' q p hq hp
       exact ⟨Ne.symm this.1,Ne.symm this.2⟩
      ·exact ih i j hi' hj' hne p q hp hq
   exact key hI.2
  have hIJ:j4 l ([]++J):=⟨fun i hi=>hI.1 i ((hJ i).1 hi),List.Pairwise.imp_of_mem (fun {i j} hi hj hlt=>hsym i j ((hJ i).1 hi) ((hJ j).1 hj) (Nat.ne_of_lt hlt)) hs⟩
  exact Nat.le_trans hl (P6 l.length 0 [] J (by omega) (fun _ _=>Nat.zero_le _) hs hIJ)
structure Came (l:List (Int×Int)) (L R:Pf) (X Y:Int->Prop):Prop where
 free:∀ (a:Nat) (u z:Int),l[a]? = some (u,z)->L u=none->X u
 over:∀ (a:Nat) (u v:Int),X u->l[a]? = some (u,v)->Y v
 back:∀ (v:Int) (o:Nat) (w:Int),Y v->R v=some o->l[o]? = some (w,v)->X w
 only:∀ E:Int->Prop,xh l R E->(∀ (a:Nat) (u z:Int),l[a]? = some (u,z)->L u=none->∀ (b:Nat) (y:Int),l[b]? = some (u,y)->E y)->∀ v,Y v->E v
open Classical in
abbrev PL:Type:=List (Int×Int)
def dh (A:List Int) (x:Int):List Int:=if x∈A then A else A++[x]
def dM:List Int->List Int->List Int
 | A,[]=>A
 | A,x::l=>dM (dh A x) l
theorem Ee {A:List Int} {x y:Int}:y∈dh A x↔y∈A\/y=x:=by
 unfold dh
 split
 ·rename_i h
  exact ⟨.inl,fun q=>q.elim id fun e=>e▸h⟩
 ·rw [List.mem_append,List.mem_singleton]
theorem xQ {A:List Int} (h:A.Nodup) (x:Int):(dh A x).Nodup:=by
 unfold dh
 split
 ·exact h
 ·rename_i hx
  rw [List.nodup_append]
  exact ⟨h,List.nodup_cons.2 ⟨List.not_mem_nil,List.nodup_nil⟩,fun a ha b hb e=>hx (by rw [List.mem_singleton.1 hb] at e; exact e▸ha)⟩
theorem jJ {l:List Int}:∀ {A:List Int} {y:Int},y∈dM A l↔y∈A\/y∈l:=by
 induction l with
 | nil=>intro A y; simp [dM]
 | cons x l ih =>
  intro A y
  rw [dM,ih,Ee,List.mem_cons,or_assoc]
theorem AO {l:List Int}:∀ {A:List Int},A.Nodup->(dM A l).Nodup:=by
 induction l with
 | nil=>intro A h; exact h
 | cons x l ih=>intro A h; exact ih (xQ h x)
theorem xL (A l k:List Int):dM A (l++k)=dM (dM A l) k:=by
 induction l generalizing A with
 | nil=>rfl
 | cons x l ih=>exact ih _
theorem ahE {a b:List Int} (ha:a.Nodup) (hb:b.Nodup) (h:∀ x,x∈a↔x∈b):a.length=b.length :=
 Nat.le_antisymm (ko ha fun x hx=>(h x).1 hx) (ko hb fun x hx=>(h x).2 hx)
theorem Xn {A l k:List Int} (hA:A.Nodup) (h:∀ x,x∈l->x∈k):(dM A l).length<=(dM A k).length :=
 ko (AO hA) fun x hx=>jJ.2 ((jJ.1 hx).imp id (h x))
theorem Jc {A l:List Int} (hA:A.Nodup):A.length<=(dM A l).length:=ko hA fun x hx=>jJ.2 (.inl hx)
def cl (A:List Int) (c:PL):Nat:=(dM A (c.map (·.1))).length
def cr (B:List Int) (c:PL):Nat:=(dM B (c.map (·.2))).length
theorem AP {A:List Int} {c d:PL} (hA:A.Nodup) (h:∀ x,x∈c->x∈d):cl A c<=cl A d:=Xn hA fun x hx=>by
 obtain ⟨p,hp,e⟩:=List.mem_map.1 hx
 exact List.mem_map.2 ⟨p,h p hp,e⟩
theorem xk {B:List Int} {c d:PL} (hB:B.Nodup) (h:∀ x,x∈c->x∈d):cr B c<=cr B d:=Xn hB fun x hx=>by
 obtain ⟨p,hp,e⟩:=List.mem_map.1 hx
 exact List.mem_map.2 ⟨p,h p hp,e⟩
theorem P8 {A:List Int} {c d:PL} (hA:A.Nodup) (h:∀ x,x∈c↔x∈d):cl A c=cl A d:=Nat.le_antisymm (AP hA fun x=>(h x).1) (AP hA fun x=>(h x).2)
theorem P9 {B:List Int} {c d:PL} (hB:B.Nodup) (h:∀ x,x∈c↔x∈d):cr B c=cr B d:=Nat.le_antisymm (xk hB fun x=>(h x).1) (xk hB fun x=>(h x).2)
theorem sj (A:List Int) (x:Int):(dh A x).length=if x∈A then A.length else A.length+1:=by
 unfold dh
 split <;> simp
theorem Qa (A:List Int) (c:PL) (p:Int×Int):cl A (c++[p])=if p.1∈dM A (c.map (·.1)) then cl A c else cl A c+1:=by
 unfold cl
 rw [List.map_append,xL]
 exact sj _ _
theorem Qb (B:List Int) (c:PL) (p:Int×Int):cr B (c++[p])=if p.2∈dM B (c.map (·.2)) then cr B c else cr B c+1:=by
 unfold cr
 rw [List.map_append,xL]
 exact sj _ _
theorem Xo {A:List Int} (hA:A.Nodup) (c:PL) (p:Int×Int):cl A (p::c)=if p.1∈dM A (c.map (·.1)) then cl A c else cl A c+1:=by
 rw [<- Qa]
 exact P8 hA fun x=>by simp [or_comm]
theorem Xp {B:List Int} (hB:B.Nodup) (c:PL) (p:Int×Int):cr B (p::c)=if p.2∈dM B (c.map (·.2)) then cr B c else cr B c+1:=by
 rw [<- Qb]
 exact P9 hB fun x=>by simp [or_comm]
def oP (T:PL):Prop:=T.Pairwise fun p q=>p.1≠q.1/\p.2≠q.2
def iW (A B:List Int) (l:PL):PL:=l.filter fun p=>decide (p.1 ∉ A)&&decide (p.2 ∉ B)
theorem Xq {A B:List Int} {l:PL} {p:Int×Int}:p∈iW A B l↔p∈l/\p.1 ∉ A/\p.2 ∉ B:=by
 unfold iW
 rw [List.mem_filter,Bool.and_eq_true,decide_eq_true_iff,decide_eq_true_iff]
theorem ahF (A B:List Int) (c:PL):∃ T:PL,oP T/\(∀ p,p∈T->p∈c/\p.1 ∉ A/\p.2 ∉ B)/\cl A c+cr B c<=c.length+T.length+A.length+B.length:=by
 suffices h:∀ (d:PL) ,∃ T:PL,oP T/\(∀ p,p∈T->p∈d.reverse/\p.1 ∉ A/\p.2 ∉ B)/\cl A d.reverse+cr B d.reverse<=d.length+T.length+A.length+B.length by
  have:=h c.reverse
  simpa using this
 intro d
 induction d with
 | nil=>exact ⟨[],List.Pairwise.nil,(fun p h=>by cases h),(by simp [cl,cr,dM])⟩
 | cons x d ih =>
  obtain ⟨T,h1,h2,h3⟩:=ih
  rw [List.reverse_cons,Qa,Qb]
  by_cases hl:x.1∈dM A (d.reverse.map (·.1))
  ·refine ⟨T,h1,fun p hp=>⟨List.mem_append_left _ (h2 p hp).1,(h2 p hp).2⟩,?_⟩
   rw [if_pos hl]
   split <;> simp only [List.length_cons] <;> omega
  ·by_cases hr:x.2∈dM B (d.reverse.map (·.2))
   ·refine ⟨T,h1,fun p hp=>⟨List.mem_append_left _ (h2 p hp).1,(h2 p hp).2⟩,?_⟩
    rw [if_pos hr]
    split <;> simp only [List.length_cons] <;> omega
   ·have hl':x.1 ∉ A/\∀ p∈d.reverse,p.1≠x.1:=⟨fun q=>hl (jJ.2 (.inl q)),fun p hp e=>hl (jJ.2 (.inr (List.mem_map.2 ⟨p,hp,e⟩)))⟩
    have hr':x.2 ∉ B/\∀ p∈d.reverse,p.2≠x.2:=⟨fun q=>hr (jJ.2 (.inl q)),fun p hp e=>hr (jJ.2 (.inr (List.mem_map.2 ⟨p,hp,e⟩)))⟩
    refine ⟨x::T,List.pairwise_cons.2 ⟨fun p hp=>⟨fun e=>hl'.2 p (h2 p hp).1 e.symm,fun e=>hr'.2 p (h2 p hp).1 e.symm⟩,h1⟩,fun p hp=>?_,?_⟩
    ·rcases List.mem_cons.1 hp with e | hp
     ·subst e; exact ⟨List.mem_append_right _ (List.mem_singleton.2 rfl),hl'.1,hr'.1⟩
     ·exact ⟨List.mem_append_left _ (h2 p hp).1,(h2 p hp).2⟩
    ·rw [if_neg hl,if_neg hr]
     simp only [List.length_cons]
     omega
theorem Qc {c L:PL} (h:c.Sublist L) {x:Int×Int} (hx:x∈L) (hn:x ∉ c):∃ c':PL,c'.Sublist L/\c'.Perm (x::c):=by
 induction h with
 | slnil=>cases hx
 | @cons c L y hc ih =>
  by_cases e:x=y
  ·subst e; exact ⟨x::c,.cons_cons _ hc,.refl _⟩
  ·obtain ⟨c',h1,h2⟩:=ih ((List.mem_cons.1 hx).resolve_left e) hn
   exact ⟨c',.cons _ h1,h2⟩
 | @cons_cons c L y hc ih =>
  have hxy:x≠y:=fun e=>hn (e▸List.mem_cons_self)
  obtain ⟨c',h1,h2⟩:=ih ((List.mem_cons.1 hx).resolve_left hxy) (fun q=>hn (List.mem_cons_of_mem _ q))
  exact ⟨y::c',.cons_cons _ h1,(h2.cons y).trans (.swap x y c)⟩
theorem ahG {c L:PL} (h:c.Sublist L) (hlt:c.length<L.length):∃ c':PL,c'.Sublist L/\c'.length=c.length+1/\∀ p,p∈c->p∈c':=by
 induction h with
 | slnil=>simp at hlt
 | @cons c L y hc ih=>exact ⟨y::c,.cons_cons _ hc,rfl,fun p hp=>List.mem_cons_of_mem _ hp⟩
 | @cons_cons c L y hc ih =>
  obtain ⟨c',h1,h2,h3⟩:=ih (by simpa using hlt)
  exact ⟨y::c',.cons_cons _ h1,by simp [h2],fun p hp=>(List.mem_cons.1 hp).elim (fun e=>e▸List.mem_cons_self) fun q=>List.mem_cons_of_mem _ (h3 p q)⟩
theorem Xr {L:PL}:∀ (k:Nat) {c:PL},c.Sublist L->c.length+k<=L.length->∃ c':PL,c'.Sublist L/\c'.length=c.length+k/\∀ p,p∈c->p∈c'
 | 0,c,h,_=>⟨c,h,rfl,fun _ h=>h⟩
 | k+1,c,h,hk=>by
  obtain ⟨c1,h1,h2,h3⟩:=ahG h (by omega)
  obtain ⟨c2,k1,k2,k3⟩:=Xr k h1 (by omega)
  exact ⟨c2,k1,by omega,fun p hp=>k3 p (h3 p hp)⟩
theorem Xt {A l k:List Int} (hA:A.Nodup) (h:(dM A l).length<(dM A k).length):∃ x,x∈k/\x ∉ dM A l:=by
 refine Classical.byContradiction fun hn=>?_
 have:(dM A k).length<=(dM A l).length:=ko (AO hA) fun x hx=>by
  rcases jJ.1 hx with q | q
  ·exact jJ.2 (.inl q)
  ·exact Classical.byContradiction fun w=>hn ⟨x,q,w⟩
 omega
theorem Xu {A B:List Int} (hA:A.Nodup) (hB:B.Nodup) {L:PL}:∀ (k:Nat) {c:PL},c.Sublist L->cl A c+k<=cl A L->∃ c':PL,c'.Sublist L/\c'.length=c.length+k/\cl A c'=cl A c+k/\cr B c<=cr B c'
 | 0,c,h,_=>⟨c,h,rfl,rfl,Nat.le_refl _⟩
 | k+1,c,h,hk=>by
  obtain ⟨x,hx,hn⟩:=Xt (A:=A) (l:=c.map (·.1)) (k:=L.map (·.1)) hA (by unfold cl at hk; omega)
  obtain ⟨p,hp,e⟩:=List.mem_map.1 hx
  obtain ⟨c1,h1,h2⟩:=Qc h hp (fun q=>hn (jJ.2 (.inr (List.mem_map.2 ⟨p,q,e⟩))))
  have e1:cl A c1=cl A c+1:=by
   rw [P8 hA (fun x=>h2.mem_iff),Xo hA,if_neg (by rw [e]; exact hn)]
  obtain ⟨c2,k1,k2,k3,k4⟩:=Xu hA hB k h1 (by omega)
  refine ⟨c2,k1,by have:=h2.length_eq; simp at this; omega,by omega,Nat.le_trans (xk hB fun p hp=>h2.mem_iff.2 (List.mem_cons_of_mem _ hp)) k4⟩
theorem Xv {A B:List Int} (hA:A.Nodup) (hB:B.Nodup) {L:PL}:∀ (k:Nat) {c:PL},c.Sublist L->cr B c+k<=cr B L->∃ c':PL,c'.Sublist L/\c'.length=c.length+k/\cr B c'=cr B c+k/\cl A c<=cl A c'
 | 0,c,h,_=>⟨c,h,rfl,rfl,Nat.le_refl _⟩
 | k+1,c,h,hk=>by
  obtain ⟨x,hx,hn⟩:=Xt (A:=B) (l:=c.map (·.2)) (k:=L.map (·.2)) hB (by unfold cr at hk; omega)
  obtain ⟨p,hp,e⟩:=List.mem_map.1 hx
  obtain ⟨c1,h1,h2⟩:=Qc h hp (fun q=>hn (jJ.2 (.inr (List.mem_map.2 ⟨p,q,e⟩))))
  have e1:cr B c1=cr B c+1:=by
   rw [P9 hB (fun x=>h2.mem_iff),Xp hB,if_neg (by rw [e]; exact hn)]
  obtain ⟨c2,k1,k2,k3,k4⟩:=Xv hA hB k h1 (by omega)
  refine ⟨c2,k1,by have:=h2.length_eq; simp at this; omega,by omega,Nat.le_trans (AP hA fun p hp=>h2.mem_iff.2 (List.mem_cons_of_mem _ hp)) k4⟩
theorem Xw (A:List Int) (c:PL):cl A c<=A.length+c.length:=by
 suffices h:∀ d:PL,cl A d.reverse<=A.length+d.length by have:=h c.reverse; simpa using this
 intro d
 induction d with
 | nil=>simp [cl,dM]
 | cons x d ih=>rw [List.reverse_cons,Qa]; split <;> simp only [List.length_cons] <;> omega
theorem Xx (B:List Int) (c:PL):cr B c<=B.length+c.length:=by
 suffices h:∀ d:PL,cr B d.reverse<=B.length+d.length by have:=h c.reverse; simpa using this
 intro d
 induction d with
 | nil=>simp [cr,dM]
 | cons x d ih=>rw [List.reverse_cons,Qb]; split <;> simp only [List.length_cons] <;> omega
theorem ahH {F T:PL} (hT:oP T) (h:∀ p,p∈T->p∈F):∃ I,j4 F I/\I.length=T.length:=by
 have key:∀ {p:Int×Int},p∈F->F[F.idxOf p]? = some p:=fun {p} hp=>by
  have hlt:=List.idxOf_lt_length_iff.2 hp
  rw [List.getElem?_eq_getElem hlt,List.getElem_idxOf hlt]
 refine ⟨T.map fun p=>F.idxOf p,⟨fun i hi=>?_,?_⟩,by rw [List.length_map]⟩
 ·obtain ⟨p,hp,rfl⟩:=List.mem_map.1 hi
  exact List.idxOf_lt_length_iff.2 (h p hp)
 ·rw [List.pairwise_map]
  refine hT.imp_of_mem fun {p q} hp hq hpq=>?_
  intro p' q' h1 h2
  rw [key (h p hp)] at h1
  rw [key (h q hq)] at h2
  cases h1; cases h2
  exact hpq
theorem ahI {F:PL} {I:List Nat} (hI:j4 F I):∃ T:PL,oP T/\(∀ p,p∈T->p∈F)/\T.length=I.length:=by
 have key:∀ i∈I,F[i]? = some (F.getD i (0,0)):=fun i hi=>by
  have:=hI.1 i hi
  rw [List.getD_eq_getElem?_getD,List.getElem?_eq_getElem this]; rfl
 refine ⟨I.map fun i=>F.getD i (0,0),?_,fun p hp=>?_,by rw [List.length_map]⟩
 ·unfold oP
  rw [List.pairwise_map]
  exact hI.2.imp_of_mem fun {i j} hi hj h=>h _ _ (key i hi) (key j hj)
 ·obtain ⟨i,hi,rfl⟩:=List.mem_map.1 hp
  exact List.mem_of_getElem? (key i hi)
theorem ahJ {T:PL} (h:oP T):T.Nodup:=List.Pairwise.imp (fun h e=>h.1 (by rw [e])) h
theorem Xy {L:PL}:∀ {T:PL},T.Nodup->(∀ p,p∈T->p∈L)->∃ c:PL,c.Sublist L/\c.Perm T
 | [],_,_=>⟨[],List.nil_sublist _,.refl _⟩
 | x::T,hn,h=>by
  obtain ⟨hx,hn⟩:=List.nodup_cons.1 hn
  obtain ⟨c,h1,h2⟩:=Xy hn fun p hp=>h p (List.mem_cons_of_mem _ hp)
  obtain ⟨c',k1,k2⟩:=Qc h1 (h x List.mem_cons_self) fun q=>hx (h2.mem_iff.1 q)
  exact ⟨c',k1,k2.trans (h2.cons x)⟩
theorem Xz {A B:List Int} (hA:A.Nodup):∀ {T:PL},oP T->(∀ p,p∈T->p.1 ∉ A/\p.2 ∉ B)->cl A T=A.length+T.length
 | [],_,_=>rfl
 | x::T,hm,h=>by
  obtain ⟨h1,h2⟩:=List.pairwise_cons.1 hm
  rw [Xo hA,if_neg,Xz hA h2 fun p hp=>h p (List.mem_cons_of_mem _ hp)]
  ·rfl
  ·intro q
   rcases jJ.1 q with q | q
   ·exact (h x List.mem_cons_self).1 q
   ·obtain ⟨p,hp,e⟩:=List.mem_map.1 q
    exact (h1 p hp).1 e.symm
theorem XA {A B:List Int} (hB:B.Nodup):∀ {T:PL},oP T->(∀ p,p∈T->p.1 ∉ A/\p.2 ∉ B)->cr B T=B.length+T.length
 | [],_,_=>rfl
 | x::T,hm,h=>by
  obtain ⟨h1,h2⟩:=List.pairwise_cons.1 hm
  rw [Xp hB,if_neg,XA hB h2 fun p hp=>h p (List.mem_cons_of_mem _ hp)]
  ·rfl
  ·intro q
   rcases jJ.1 q with q | q
   ·exact (h x List.mem_cons_self).2 q
   ·obtain ⟨p,hp,e⟩:=List.mem_map.1 q
    exact (h1 p hp).2 e.symm
theorem ahK {T:PL} (h:oP T) (k:Nat):oP (T.take k):=h.sublist (List.take_sublist _ _)
def Qd (A B:List Int) (a b:Nat) (L:PL) (m:Nat):Prop:=∃ c:PL,c.Sublist L/\c.length=m/\a<=cl A c/\b<=cr B c
theorem Rz {A B:List Int} (hA:A.Nodup) (hB:B.Nodup) {a b:Nat} {L:PL} {m n:Nat} (hn:rZ (iW A B L) n) :
  Qd A B a b L m↔m<=L.length/\a<=cl A L/\b<=cr B L/\(a-A.length)+(b-B.length)<=m+min (min n (a-A.length)) (b-B.length):=by
 constructor
 ·rintro ⟨c,h1,h2,h3,h4⟩
  have hsub:∀ x,x∈c->x∈L:=fun x hx=>h1.subset hx
  refine ⟨h2▸h1.length_le,Nat.le_trans h3 (AP hA hsub),Nat.le_trans h4 (xk hB hsub),?_⟩
  obtain ⟨T,t1,t2,t3⟩:=ahF A B c
  obtain ⟨I,i1,i2⟩:=ahH (F:=iW A B L) t1 fun p hp=>Xq.2 ⟨hsub p (t2 p hp).1,(t2 p hp).2⟩
  have:=hn.2 I i1
  have e1:=Xw A c
  have e2:=Xx B c
  have e3:A.length<=cl A c:=Jc hA
  have e4:B.length<=cr B c:=Jc hB
  omega
 ·rintro ⟨h1,h2,h3,h4⟩
  obtain ⟨⟨I,i1,i2⟩,_⟩:=hn
  obtain ⟨T,t1,t2,t3⟩:=ahI i1
  let k:=min (min n (a-A.length)) (b-B.length)
  have hk:k<=T.length:=by omega
  have u1:oP (T.take k):=ahK t1 k
  have u2:∀ p,p∈T.take k->p∈L/\p.1 ∉ A/\p.2 ∉ B:=fun p hp=>Xq.1 (t2 p (List.mem_of_mem_take hp))
  have u3:(T.take k).length=k:=by rw [List.length_take]; omega
  obtain ⟨c0,v1,v2⟩:=Xy (L:=L) (ahJ u1) fun p hp=>(u2 p hp).1
  have w1:cl A c0=A.length+k:=by rw [P8 hA (fun x=>v2.mem_iff),Xz hA u1 (fun p hp=>(u2 p hp).2),u3]
  have w2:cr B c0=B.length+k:=by rw [P9 hB (fun x=>v2.mem_iff),XA hB u1 (fun p hp=>(u2 p hp).2),u3]
  have w3:c0.length=k:=by rw [v2.length_eq,u3]
  have hkdef:k=min (min n (a-A.length)) (b-B.length):=rfl
  have g1:A.length<=cl A L:=Jc hA
  have g2:B.length<=cr B L:=Jc hB
  obtain ⟨c1,x1,x2,x3,x4⟩:=Xu hA hB ((a-A.length)-k) v1 (by omega)
  have hc1:cr B c1<=cr B L:=xk hB fun x hx=>x1.subset hx
  obtain ⟨c2,y1,y2,y3,y4⟩:=Xv hA hB ((b-B.length)-k-(cr B c1-cr B c0)) x1 (by omega)
  obtain ⟨c3,z1,z2,z3⟩:=Xr (m-c2.length) y1 (by omega)
  have hm:c2.length<=m:=by omega
  refine ⟨c3,z1,by omega,?_,?_⟩
  ·have:=AP hA z3; omega
  ·have:=xk hB z3; omega
def bV:Nat->Nat->List (List Nat)
 | _,0=>[[]]
 | 0,_+1=>[]
 | n+1,m+1=>(bV n m).map (fun c=>0::c.map (· + 1))++(bV n (m+1)).map (fun c=>c.map (· + 1))
def bP (L:PL) (c:List Nat):PL:=c.map fun i=>L.getD i (0,0)
def lv (A B:List Int) (a b:Nat) (L:PL) (c:List Nat):Bool:=decide (a<=cl A (bP L c))&&decide (b<=cr B (bP L c))
def pk (a b:Nat):PL->Nat->List Int->List Int->Option (List Nat)
 | _,0,A,B=>if decide (a<=A.length)&&decide (b<=B.length) then some [] else none
 | [],_+1,_,_=>none
 | x::L,m+1,A,B=>match pk a b L m (dh A x.1) (dh B x.2) with
  | some c=>some (0::c.map (· + 1))
  | none=>(pk a b L (m+1) A B).map fun c=>c.map (· + 1)
theorem Jd (x:Int×Int) (L:PL) (c:List Nat):bP (x::L) (c.map (· + 1))=bP L c:=by
 unfold bP
 rw [List.map_map]
 rfl
theorem Ef (a b:Nat):∀ (L:PL) (m:Nat) (A B:List Int),pk a b L m A B=(bV L.length m).find? (lv A B a b L)
 | L,0,A,B=>by
  rw [show bV L.length 0=[[]] from by cases L.length <;> rfl]
  unfold pk
  rw [List.find?_cons]
  show (if decide (a<=A.length)&&decide (b<=B.length) then some [] else none)=match (decide (a<=A.length)&&decide (b<=B.length)) with | true=>some [] | false=>none
  cases (decide (a<=A.length)&&decide (b<=B.length)) <;> rfl
 | [],m+1,A,B=>rfl
 | x::L,m+1,A,B=>by
  show (match pk a b L m (dh A x.1) (dh B x.2) with
   | some c=>some (0::List.map (· + 1) c)
   | none=>(pk a b L (m+1) A B).map fun c:List Nat=>c.map (· + 1))=((bV L.length m).map (fun c:List Nat=>0::c.map (· + 1))++(bV L.length (m+1)).map (fun c:List Nat=>c.map (· + 1))).find? (lv A B a b (x::L))
  rw [List.find?_append,List.find?_map,List.find?_map,Ef a b L m,Ef a b L (m+1)]
  have e1:(lv A B a b (x::L)∘fun c:List Nat=>0::c.map (· + 1))=lv (dh A x.1) (dh B x.2) a b L:=funext fun (c:List Nat)=>by
   show lv A B a b (x::L) (0::c.map (· + 1))=_
   unfold lv
   rw [show bP (x::L) (0::c.map (· + 1))=x::bP L c from by rw [<- Jd x L c]; rfl]
   rfl
  have e2:(lv A B a b (x::L)∘fun c:List Nat=>c.map (· + 1))=lv A B a b L:=funext fun (c:List Nat)=>by
   show lv A B a b (x::L) (c.map (· + 1))=_
   unfold lv
   rw [Jd]
  rw [e1,e2]
  cases (bV L.length m).find? (lv (dh A x.1) (dh B x.2) a b L) <;> simp
theorem Bw (a b:Nat):∀ (L:PL) (m:Nat) (A B:List Int),(pk a b L m A B).isSome=true↔Qd A B a b L m
 | L,0,A,B=>by
  unfold pk
  constructor
  ·intro h
   split at h
   ·rename_i h1
    rw [Bool.and_eq_true,decide_eq_true_iff,decide_eq_true_iff] at h1
    exact ⟨[],List.nil_sublist _,rfl,h1.1,h1.2⟩
   ·cases h
  ·rintro ⟨c,h1,h2,h3,h4⟩
   cases c with
   | nil =>
    rw [if_pos (by rw [Bool.and_eq_true,decide_eq_true_iff,decide_eq_true_iff]; exact ⟨h3,h4⟩)]
    rfl
   | cons _ _=>cases h2
 | [],m+1,A,B=>by
  constructor
  ·intro h; cases h
  ·rintro ⟨c,h1,h2,_⟩
   rw [List.sublist_nil.1 h1] at h2
   cases h2
 | x::L,m+1,A,B=>by
  have ih1:=Bw a b L m (dh A x.1) (dh B x.2)
  have ih2:=Bw a b L (m+1) A B
  constructor
  ·intro h
   unfold pk at h
   cases hp:pk a b L m (dh A x.1) (dh B x.2) with
   | some c =>
    obtain ⟨c,h1,h2,h3,h4⟩:=ih1.1 (by rw [hp]; rfl)
    exact ⟨x::c,.cons_cons _ h1,by simp [h2],h3,h4⟩
   | none =>
    rw [hp] at h
    obtain ⟨c,h1,h2,h3,h4⟩:=ih2.1 (by simpa using h)
    exact ⟨c,.cons _ h1,h2,h3,h4⟩
  ·rintro ⟨c,h1,h2,h3,h4⟩
   unfold pk
   cases hp:pk a b L m (dh A x.1) (dh B x.2) with
   | some c=>rfl
   | none =>
    cases h1 with
    | cons _ h1 =>
     have:=ih2.2 ⟨c,h1,h2,h3,h4⟩
     simpa using this
    | @cons_cons c' _ _ h1 =>
     have:=ih1.2 ⟨c',h1,by simpa using h2,h3,h4⟩
     rw [hp] at this; cases this
theorem Qe (a b:Nat):∀ (L:PL) (m:Nat) (A B:List Int) (c:List Nat),pk a b L m A B=some c->c.length=m
 | L,0,A,B,c,h=>by
  unfold pk at h
  split at h
  ·cases h; rfl
  ·cases h
 | [],m+1,A,B,c,h=>by cases h
 | x::L,m+1,A,B,c,h=>by
  unfold pk at h
  split at h
  ·rename_i c' h1
   cases h
   simp [Qe a b L m _ _ c' h1]
  ·obtain ⟨c',h1,rfl⟩:=Option.map_eq_some_iff.1 h
   simp [Qe a b L (m+1) _ _ c' h1]
theorem AQ (a b:Nat):∀ (L:PL) (m:Nat) (A B:List Int) (c:List Nat),pk a b L m A B=some c->∀ i∈c,i<L.length
 | L,0,A,B,c,h=>by
  unfold pk at h
  split at h
  ·cases h; intro i hi; cases hi
  ·cases h
 | [],m+1,A,B,c,h=>by cases h
 | x::L,m+1,A,B,c,h=>by
  unfold pk at h
  split at h
  ·rename_i c' h1
   cases h
   intro i hi
   rcases List.mem_cons.1 hi with e | hi
   ·subst e; simp
   ·obtain ⟨j,hj,rfl⟩:=List.mem_map.1 hi
    have:=AQ a b L m _ _ c' h1 j hj
    simpa using this
  ·obtain ⟨c',h1,rfl⟩:=Option.map_eq_some_iff.1 h
   intro i hi
   obtain ⟨j,hj,rfl⟩:=List.mem_map.1 hi
   have:=AQ a b L (m+1) _ _ c' h1 j hj
   simpa using this
theorem Qf (a b:Nat):∀ (L:PL) (m:Nat) (A B:List Int) (c:List Nat),pk a b L m A B=some c->c.Pairwise (· < ·)
 | L,0,A,B,c,h=>by
  unfold pk at h
  split at h
  ·cases h; exact .nil
  ·cases h
 | [],m+1,A,B,c,h=>by cases h
 | x::L,m+1,A,B,c,h=>by
  unfold pk at h
  split at h
  ·rename_i c' h1
   cases h
   refine List.pairwise_cons.2 ⟨fun i hi=>?_,?_⟩
   ·obtain ⟨j,_,rfl⟩:=List.mem_map.1 hi
    omega
   ·rw [List.pairwise_map]
    exact (Qf a b L m _ _ c' h1).imp fun h=>Nat.succ_lt_succ h
  ·obtain ⟨c',h1,rfl⟩:=Option.map_eq_some_iff.1 h
   rw [List.pairwise_map]
   exact (Qf a b L (m+1) _ _ c' h1).imp fun h=>Nat.succ_lt_succ h
theorem ahL {a b:Nat} {L:PL} {m:Nat} {A B:List Int} {c:List Nat} (h:pk a b L m A B=some c):a<=cl A (bP L c)/\b<=cr B (bP L c):=by
 rw [Ef] at h
 have:=List.find?_some h
 unfold lv at this
 rw [Bool.and_eq_true,decide_eq_true_iff,decide_eq_true_iff] at this
 exact this
def eQ (L:PL) (m:Nat):Nat:=min (cl [] L) m
def nS (L:PL) (m:Nat):Nat->Nat
 | 0=>0
 | k+1=>if (pk (eQ L m) (k+1) L m [] []).isSome then k+1 else nS L m k
def ji (L:PL) (m:Nat):Nat:=nS L m (min (cr [] L) m)
def gK (L:PL) (m:Nat):List Nat:=(pk (eQ L m) (ji L m) L m [] []).getD []
theorem ahM {L:PL} {m:Nat} (h:m<=L.length):Qd [] [] (eQ L m) 0 L m:=by
 have hm:=ahD (iW [] [] L)
 refine (Rz List.nodup_nil List.nodup_nil hm).2 ⟨h,?_,Nat.zero_le _,?_⟩
 ·unfold eQ; omega
 ·unfold eQ
  simp only [List.length_nil]
  omega
theorem XB {L:PL} {m:Nat} (h:m<=L.length):∀ k,(pk (eQ L m) (nS L m k) L m [] []).isSome=true
 | 0=>(Bw _ _ _ _ _ _).2 (ahM h)
 | k+1=>by
  unfold nS
  split
  ·assumption
  ·exact XB h k
theorem XC {L:PL} {m:Nat}:∀ {k b:Nat},b<=k->(pk (eQ L m) b L m [] []).isSome=true->b<=nS L m k
 | 0,b,hb,_=>hb
 | k+1,b,hb,h=>by
  unfold nS
  split
  ·exact hb
  ·rename_i hn
   refine XC (Nat.lt_succ_iff.1 (Nat.lt_of_le_of_ne hb fun e=>?_)) h
   subst e
   exact hn h
theorem RD {L:PL} {m:Nat}:∀ k,nS L m k<=k
 | 0=>Nat.le_refl _
 | k+1=>by
  unfold nS
  split
  ·exact Nat.le_refl _
  ·exact Nat.le_succ_of_le (RD k)
theorem qP {L:PL} {m:Nat} (h:m<=L.length):pk (eQ L m) (ji L m) L m [] []=some (gK L m):=by
 unfold gK ji
 obtain ⟨c,hc⟩:=Option.isSome_iff_exists.1 (XB (L:=L) (m:=m) h (min (cr [] L) m))
 rw [hc]; rfl
theorem Je {L:PL} {m:Nat} (h:m<=L.length):(gK L m).length=m:=Qe _ _ _ _ _ _ _ (qP h)
theorem RG {n m:Nat}:∀ {c:List Nat},c∈bV n m->c.length=m/\∀ L:PL,L.length=n->(bP L c).Sublist L:=by
 induction n generalizing m with
 | zero =>
  intro c h
  cases m with
  | zero =>
   rw [show bV 0 0=[[]] from rfl,List.mem_singleton] at h
   subst h
   exact ⟨rfl,fun L _=>List.nil_sublist _⟩
  | succ m=>cases h
 | succ n ih =>
  intro c h
  cases m with
  | zero =>
   rw [show bV (n+1) 0=[[]] from rfl,List.mem_singleton] at h
   subst h
   exact ⟨rfl,fun L _=>List.nil_sublist _⟩
  | succ m =>
   rw [bV,List.mem_append] at h
   rcases h with h | h
   ·obtain ⟨c',h1,rfl⟩:=List.mem_map.1 h
    obtain ⟨k1,k2⟩:=ih h1
    refine ⟨by simp [k1],fun L hL=>?_⟩
    cases L with
    | nil=>cases hL
    | cons x L =>
     rw [show bP (x::L) (0::c'.map (· + 1))=x::bP L c' from by rw [<- Jd x L c']; rfl]
     exact .cons_cons _ (k2 L (by simpa using hL))
   ·obtain ⟨c',h1,rfl⟩:=List.mem_map.1 h
    obtain ⟨k1,k2⟩:=ih h1
    refine ⟨by simp [k1],fun L hL=>?_⟩
    cases L with
    | nil=>cases hL
    | cons x L =>
     rw [Jd]
     exact .cons _ (k2 L (by simpa using hL))
theorem Kg {L:PL} {m:Nat} {c:List Nat} (hc:c∈bV L.length m):cl [] (bP L c)<=eQ L m/\(cl [] (bP L c)=eQ L m->cr [] (bP L c)<=ji L m):=by
 obtain ⟨h1,h2⟩:=RG hc
 have hs:=h2 L rfl
 have hlen:(bP L c).length=m:=by unfold bP; rw [List.length_map,h1]
 have e1:cl [] (bP L c)<=cl [] L:=AP List.nodup_nil fun x hx=>hs.subset hx
 have e2:=Xw [] (bP L c)
 have e3:cr [] (bP L c)<=cr [] L:=xk List.nodup_nil fun x hx=>hs.subset hx
 have e4:=Xx [] (bP L c)
 rw [hlen] at e2 e4
 simp only [List.length_nil,Nat.zero_add] at e2 e4
 refine ⟨by unfold eQ; omega,fun e=>?_⟩
 exact XC (by omega) ((Bw _ _ _ _ _ _).2 ⟨bP L c,hs,hlen,by omega,Nat.le_refl _⟩)
theorem RP {L:PL} {m:Nat} (h:m<=L.length):gK L m∈bV L.length m/\cl [] (bP L (gK L m))=eQ L m/\cr [] (bP L (gK L m))=ji L m:=by
 have h1:=qP h
 obtain ⟨h2,h3⟩:=ahL h1
 rw [Ef] at h1
 have hm:=List.mem_of_find?_eq_some h1
 obtain ⟨k1,k2⟩:=Kg hm
 have e:cl [] (bP L (gK L m))=eQ L m:=by omega
 exact ⟨hm,e,Nat.le_antisymm (k2 e) h3⟩
theorem aak {L:PL} {m:Nat} (h:m<=L.length):(bV L.length m).find? (fun c=>decide (cl [] (bP L c)=eQ L m)&&decide (cr [] (bP L c)=ji L m))=some (gK L m):=by
 rw [<- qP h,Ef]
 have key:∀ l:List (List Nat),(∀ c∈l,c∈bV L.length m)->l.find? (fun c=>decide (cl [] (bP L c)=eQ L m)&&decide (cr [] (bP L c)=ji L m))=l.find? (lv [] [] (eQ L m) (ji L m) L):=by
  intro l
  induction l with
  | nil=>intro _; rfl
  | cons c l ih =>
   intro hl
   have hc:(decide (cl [] (bP L c)=eQ L m)&&decide (cr [] (bP L c)=ji L m))=lv [] [] (eQ L m) (ji L m) L c:=by
    obtain ⟨k1,k2⟩:=Kg (hl c List.mem_cons_self)
    unfold lv
    rw [Bool.eq_iff_iff,Bool.and_eq_true,Bool.and_eq_true,decide_eq_true_iff,decide_eq_true_iff,decide_eq_true_iff,decide_eq_true_iff]
    constructor
    ·rintro ⟨q1,q2⟩; omega
    ·rintro ⟨q1,q2⟩
     have e:cl [] (bP L c)=eQ L m:=by omega
     exact ⟨e,Nat.le_antisymm (k2 e) q2⟩
   rw [List.find?_cons,List.find?_cons,hc,ih fun c hc=>hl c (List.mem_cons_of_mem _ hc)]
 exact key _ fun _ h=>h
def gX (A:List Str) (x:Str):List Str:=if x∈A then A else A++[x]
def gG:List Str->List Str->List Str
 | A,[]=>A
 | A,x::l=>gG (gX A x) l
theorem Qg {A:List Str} {x y:Str}:y∈gX A x↔y∈A\/y=x:=by
 unfold gX
 split
 ·rename_i h
  exact ⟨.inl,fun q=>q.elim id fun e=>e▸h⟩
 ·rw [List.mem_append,List.mem_singleton]
theorem ahN {l:List Str}:∀ {A:List Str} {y:Str},y∈gG A l↔y∈A\/y∈l:=by
 induction l with
 | nil=>intro A y; simp [gG]
 | cons x l ih =>
  intro A y
  rw [gG,ih,Qg,List.mem_cons,or_assoc]
theorem XD (A l k:List Str):gG A (l++k)=gG (gG A l) k:=by
 induction l generalizing A with
 | nil=>rfl
 | cons x l ih=>exact ih _
theorem ahO {A:List Str} {x y:Str} (h:y∈A):(gX A x).idxOf y=A.idxOf y:=by
 unfold gX
 split
 ·rfl
 ·rw [List.idxOf_append,if_pos h]
theorem ahP {l:List Str}:∀ {A:List Str} {y:Str},y∈A->(gG A l).idxOf y=A.idxOf y:=by
 induction l with
 | nil=>intro A y _; rfl
 | cons x l ih=>intro A y h; rw [gG,ih (Qg.2 (.inl h)),ahO h]
theorem ahQ (A:List Str) (x:Str):(gX A x).length<=A.length+1:=by
 unfold gX; split
 ·omega
 ·simp
theorem ahR {l:List Str}:∀ {A:List Str},(gG A l).length<=A.length+l.length:=by
 induction l with
 | nil=>intro A; exact Nat.le_refl _
 | cons x l ih=>intro A; have h1:=ih (A:=gX A x); have h2:=ahQ A x; rw [gG,List.length_cons]; omega
theorem ahS {R:List Str} {x y:Str} (hx:x∈R) (h:R.idxOf x=R.idxOf y):x=y:=by
 have h1:=List.idxOf_lt_length_iff.2 hx
 have h2:R.idxOf y<R.length:=h▸h1
 have e1:=List.getElem_idxOf h1
 have e2:=List.getElem_idxOf h2
 rw [<- e1,<- e2]
 congr 1
def j5 (l:List Str) (s:Str):Int:=(((gG [] l).idxOf s:Nat):Int)
theorem ahT {l:List Str} {x y:Str} (hx:x∈l):j5 l x=j5 l y↔x=y:=by
 constructor
 ·intro h
  exact ahS (R:=gG [] l) (ahN.2 (.inr hx)) (by unfold j5 at h; omega)
 ·intro h; rw [h]
theorem XE (l:List Str) {i:Nat} (hi:i<l.length):j5 l l[i]=(((gX (gG [] (l.take i)) l[i]).idxOf l[i]:Nat):Int):=by
 have e:gG [] l=gG (gX (gG [] (l.take i)) l[i]) (l.drop (i+1)):=by
  conv=>lhs; rw [<- List.take_append_drop i l]
  rw [XD,List.drop_eq_getElem_cons hi]; rfl
 unfold j5
 rw [e,ahP (Qg.2 (.inr rfl))]
theorem ahU (l:List Str) {i:Nat} (hi:i<l.length):gG [] (l.take (i+1))=gX (gG [] (l.take i)) l[i]:=by
 rw [List.take_succ_eq_append_getElem hi,XD]; rfl
def upto (n:Nat):List Int:=(List.range n).map fun i:Nat=>(i:Int)
theorem Eg {n:Nat} {k:Int}:k∈upto n↔0<=k/\k<(n:Int):=by
 unfold upto
 rw [List.mem_map]
 constructor
 ·rintro ⟨i,hi,rfl⟩
  have:=List.mem_range.1 hi
  omega
 ·rintro ⟨h1,h2⟩
  exact ⟨k.toNat,List.mem_range.2 (by omega),by omega⟩
theorem Eh (n:Nat):(upto n).length=n:=by unfold upto; rw [List.length_map,List.length_range]
theorem ahV (n:Nat):(upto n).Nodup:=by
 unfold upto
 rw [List.nodup_iff_pairwise_ne,List.pairwise_map]
 exact List.nodup_range.imp fun h e=>h (by omega)
def Ei (K:List Int) (n:Nat):List Int:=dM K (upto n)
theorem XF {K:List Int} (h:K.Nodup) (n:Nat):(Ei K n).Nodup:=AO h
theorem XG {K:List Int} {n:Nat} (h:∀ k∈K,0<=k/\k<(n:Int)) {k:Int}:k∈Ei K n↔0<=k/\k<(n:Int):=by
 unfold Ei
 rw [jJ,Eg]
 constructor
 ·rintro (q | q)
  ·exact h k q
  ·exact q
 ·exact .inr
theorem ahW {K:List Int} {n:Nat} (hn:K.Nodup) (h:∀ k∈K,0<=k/\k<(n:Int)):(Ei K n).length=n:=by
 refine Eq.trans ?_ (Eh n)
 exact ahE (XF hn _) (ahV n) fun k=>by rw [XG h,Eg]
def lY (rs zs:List Str):PL:=(rs.zip zs).map fun q=>(j5 rs q.1,j5 zs q.2)
theorem Qh {rs zs:List Str} (h:rs.length=zs.length):(lY rs zs).length=rs.length:=by unfold lY; rw [List.length_map,List.length_zip]; omega
theorem Qi {rs zs:List Str} (h:rs.length=zs.length) {i:Nat} (hi:i<rs.length):(lY rs zs).getD i (0,0)=(j5 rs rs[i],j5 zs (zs[i]'(h▸hi))):=by
 have h1:i<(lY rs zs).length:=by rw [Qh h]; exact hi
 rw [getD_lt _ _ _ h1]
 refine (List.getElem_map (fun q:Str×Str=>(j5 rs q.1,j5 zs q.2)) (l:=rs.zip zs) (h:=h1)).trans ?_
 rw [List.getElem_zip]
theorem ahX {rs zs:List Str} (h:rs.length=zs.length) {m:Nat} (h2:2<=m) (hm:m<=rs.length) {i j:Nat} (hi:i<rs.length) (hj:j<rs.length) (hne:rs[i]≠rs[j]) (r:Str) :
  ∃ k∈gK (lY rs zs) m,∃ hk:k<rs.length,rs[k]≠r:=by
 have hL:=Qh h
 have hmL:m<=(lY rs zs).length:=by rw [hL]; exact hm
 obtain ⟨h3,h4,_⟩:=RP hmL
 have hlt:=AQ _ _ _ _ _ _ _ (qP hmL)
 have hbest:2<=eQ (lY rs zs) m:=by
  have hc:2<=cl [] (lY rs zs):=by
   have hm1:∀ k (hk:k<rs.length),j5 rs rs[k]∈dM [] ((lY rs zs).map (·.1)):=fun k hk=>jJ.2 (.inr (List.mem_map.2 ⟨(j5 rs rs[k],j5 zs (zs[k]'(h▸hk))),by
    have:=Qi h hk
    rw [getD_lt _ _ _ (by rw [hL]; exact hk)] at this
    rw [<- this]; exact List.getElem_mem _,rfl⟩))
   have:([j5 rs rs[i],j5 rs rs[j]]:List Int).length<=cl [] (lY rs zs):=ko (by
    rw [List.nodup_cons]
    refine ⟨fun q=>hne ((ahT (List.getElem_mem hi)).1 (List.mem_singleton.1 q)),List.nodup_cons.2 ⟨List.not_mem_nil,List.nodup_nil⟩⟩) fun x hx=>by
     rcases List.mem_cons.1 hx with e | hx
     ·subst e; exact hm1 i hi
     ·rw [List.mem_singleton.1 hx]; exact hm1 j hj
   exact this
  unfold eQ; omega
 refine Classical.byContradiction fun hn=>?_
 have hall:∀ k∈gK (lY rs zs) m,∀ hk:k<rs.length,rs[k]=r:=fun k hk hk'=>Classical.byContradiction fun q=>hn ⟨k,hk,hk',q⟩
 have:cl [] (bP (lY rs zs) (gK (lY rs zs) m))<=([j5 rs r]:List Int).length:=ko (AO List.nodup_nil) fun x hx=>by
  rcases jJ.1 hx with q | q
  ·cases q
  ·obtain ⟨p,hp,rfl⟩:=List.mem_map.1 q
   obtain ⟨k,hk,rfl⟩:=List.mem_map.1 hp
   have hk':k<rs.length:=by have:=hlt k hk; omega
   rw [Qi h hk',hall k hk hk']
   exact List.mem_singleton.2 rfl
 rw [h4] at this
 simp only [List.length_cons,List.length_nil] at this
 omega
def xm (p:Str->Bool) (l:List Str):Nat:=(l.filter p).length
theorem ahY (p:Str->Bool) (x:Str) (l:List Str):xm p (x::l)=(if p x then 1 else 0)+xm p l:=by
 unfold xm
 rw [List.filter_cons]
 split
 ·rw [List.length_cons]; omega
 ·omega
theorem ahZ {names L:List Str} (hn:names.Nodup) (hL:L.Nodup) (h:∀ s∈L,s∈names):xm (fun s=>L.any fun y=>s==y) names=L.length:=by
 unfold xm
 have hm:∀ x,x∈names.filter (fun s=>L.any fun y=>s==y)↔x∈L:=fun x=>by
  rw [List.mem_filter,List.any_eq_true]
  constructor
  ·rintro ⟨_,y,hy,e⟩
   rw [beq_iff_eq.1 e]; exact hy
  ·intro hx
   exact ⟨h x hx,x,hx,beq_self_eq_true x⟩
 exact Nat.le_antisymm (ko (hn.filter _) fun x hx=>(hm x).1 hx) (ko hL fun x hx=>(hm x).2 hx)
def lC (lists:List (List Str)) (s:Str):Nat:=(lists.filter fun L=>L.any fun y=>s==y).length
def je (f:Str->Nat) (names:List Str):Nat:=(names.map f).sum
theorem XH (f g:Str->Nat) (names:List Str):je (fun s=>f s+g s) names=je f names+je g names:=by
 unfold je
 induction names with
 | nil=>rfl
 | cons s names ih=>simp only [List.map_cons,List.sum_cons,ih]; omega
theorem XI (p:Str->Bool) (names:List Str):je (fun s=>if p s then 1 else 0) names=xm p names:=by
 unfold je
 induction names with
 | nil=>rfl
 | cons s names ih=>rw [List.map_cons,List.sum_cons,ih,ahY]
theorem XJ (names:List Str):je (fun _=>0) names=0:=by
 unfold je
 induction names with
 | nil=>rfl
 | cons s names ih=>rw [List.map_cons,List.sum_cons,ih]
theorem XK {names:List Str} (hn:names.Nodup) (each:Nat):∀ lists:List (List Str),(∀ L∈lists,L.Nodup/\(∀ s∈L,s∈names)/\L.length=each)->je (lC lists) names=each*lists.length
 | [],_=>by
  show je (fun _=>0) names=_
  rw [XJ]; simp
 | L::lists,h=>by
  have e:lC (L::lists)=fun s=>(if (L.any fun y=>s==y) then 1 else 0)+lC lists s:=funext fun s=>by
   unfold lC
   rw [List.filter_cons]
   split
   ·rw [List.length_cons]; omega
   ·omega
  obtain ⟨h1,h2,h3⟩:=h L List.mem_cons_self
  rw [e,XH,XI,ahZ hn h1 h2,h3,XK hn each lists fun L hL=>h L (List.mem_cons_of_mem _ hL),List.length_cons,Nat.mul_add]
  omega
def gV (owners:List Str) (s:Str):Nat:=(owners.filter fun o=>o==s).length
theorem XL {names:List Str} (hn:names.Nodup):∀ owners:List Str,je (gV owners) names<=owners.length
 | []=>by
  show je (fun _=>0) names<=_
  rw [XJ]; simp
 | o::owners=>by
  have e:gV (o::owners)=fun s=>(if (o==s) then 1 else 0)+gV owners s:=funext fun s=>by
   unfold gV
   rw [List.filter_cons]
   split
   ·rw [List.length_cons]; omega
   ·omega
  have h1:xm (BEq.beq o) names<=([o]:List Str).length:=ko (hn.filter _) fun x hx=>by
   rw [List.mem_singleton]
   exact (beq_iff_eq.1 (List.mem_filter.1 hx).2).symm
  have h2:=XL hn owners
  rw [e,XH,XI,List.length_cons]
  simp only [List.length_cons,List.length_nil] at h1
  omega
end Go.aT
