/- Go's library over lists, as plain functions: what the lifted loops come to. -/
import Derived.Test.YtjkhncojgilbaaaGreatDoorTrH
namespace Go.aT
open Go
theorem di (i:Nat) (h:i<=1000000):ay ((i:Int)+1)=((i+1:Nat):Int):=zg i (by omega)
theorem room_le (n k:Nat) (h:n<=1000000) (hk:k<=100000):decide (n*k<=bD)=true:=by
 rw [decide_eq_true_eq]; unfold bD
 calc n*k<=1000000*100000:=Nat.mul_le_mul h hk
  _<=_:=by omega
def lX {α:Type} (p:α->Bool) (l:List α):Int:=match l.findIdx? p with
 | some i=>(i:Int)
 | none => -1
theorem agP {α:Type} (p:α->Bool) (l:List α):decide (0<=lX p l)=l.any p:=by
 unfold lX
 cases h:l.findIdx? p with
 | some i =>
  have:l.any p=true:=by
   obtain ⟨hi,h1,_⟩:=List.findIdx?_eq_some_iff_getElem.1 h
   exact List.any_eq_true.2 ⟨_,List.getElem_mem hi,h1⟩
  rw [this]; simp
 | none =>
  have:l.any p=false:=by
   rw [List.any_eq_false]; intro x hx
   have:=List.findIdx?_eq_none_iff.1 h x hx
   simp [this]
  rw [this]; decide
theorem YL {α:Type} {p:α->Bool} {l:List α} {i:Nat} (hi:i<l.length) (h:p l[i]=true) (hk:∀ k (hk:k<i),p (l[k]'(by omega))=false):lX p l=(i:Int):=by
 unfold lX
 rw [List.findIdx?_eq_some_iff_getElem.2 ⟨hi,h,fun j hj=>by rw [hk j hj]; exact Bool.false_ne_true⟩]
theorem YM {α:Type} {p:α->Bool} {l:List α} (h:l.any p=false):lX p l = -1:=by
 unfold lX
 rw [List.findIdx?_eq_none_iff.2 fun x hx=>by have:=List.any_eq_false.1 h x hx; simpa using this]
theorem U2 {α:Type} (p:α->Bool) (l:List α):(lX p l = -1/\l.any p=false)\/∃ i,∃ hi:i<l.length,lX p l=(i:Int)/\p l[i]=true/\l.any p=true/\∀ k (hk:k<i),p (l[k]'(by omega))=false:=by
 cases h:l.any p with
 | false=>exact .inl ⟨YM h,rfl⟩
 | true =>
  cases hf:l.findIdx? p with
  | none =>
   obtain ⟨x,hx,hp⟩:=List.any_eq_true.1 h
   rw [List.findIdx?_eq_none_iff.1 hf x hx] at hp; cases hp
  | some i =>
   obtain ⟨hi,h1,h2⟩:=List.findIdx?_eq_some_iff_getElem.1 hf
   have h2:∀ k (hk:k<i),p (l[k]'(by omega))=false:=fun k hk=>by have:=h2 k hk; simpa using this
   exact .inr ⟨i,hi,YL hi h1 h2,h1,rfl,h2⟩
theorem D7 {α:Type} (l:List α) (p:α->Bool) (st:Int->Tree (Int⊕(Int⊕Unit))) (hl:l.length<=1000000)
  (h:∀ i (hi:i<l.length),(st (i:Int)).run=some (bif p l[i] then .inr (.inl (i:Int)) else .inl (ay ((i:Int)+1)))) (h0:(st (l.length:Int)).run=some (.inr (.inr ()))) :
  (Tree.bnd (.loop st 0) fun r1=>.sum r1 (fun r2=>.ret r2) fun _=>.ret (-1)).run=some (lX p l):=by
 have hf:=BA (st:=fun v=>(st v).run) l p (fun i=>(i:Int)) (fun i=>(Sum.inl (i:Int):Int⊕Unit)) (.inr ()) (fun i hi=>by
  rw [h i hi,di i (by omega)]) h0 (s0:=(0:Int)) rfl
 simp only [Tree.run]
 rcases hf with ⟨h1,h2⟩ | ⟨i,hi,h1,h2,h3,h4⟩
 ·rw [h1,YM h2]; rfl
 ·rw [h1,YL hi h2 h4]; rfl
theorem Ke {α β:Type} (l:List α) (p:α->Bool) (st:Int->Tree (Int⊕β)) (y z:β) (hl:l.length<=1000000)
  (h:∀ i (hi:i<l.length),(st (i:Int)).run=some (bif p l[i] then .inr y else .inl (ay ((i:Int)+1)))) (h0:(st (l.length:Int)).run=some (.inr z)) :
  dP (fun v=>(st v).run) 0=some (bif l.any p then y else z) :=
 LJ (st:=fun v=>(st v).run) l p (fun i=>(i:Int)) y z (fun i hi=>by rw [h i hi,zg i (by omega)]) h0 rfl
def mH {α:Type} (q:α->Bool) (most:Nat) (l:List α):Bool:=!(l.take most).any q&&decide (l.length<=most)
theorem LU {α:Type} {q:α->Bool} {most:Nat} {l:List α} (h:mH q most l=true):l.length<=most:=by
 unfold mH at h; simp only [Bool.and_eq_true,decide_eq_true_eq] at h; exact h.2
theorem aef {α:Type} {q:α->Bool} {most:Nat} {l:List α} (h:mH q most l=true) {x:α} (hx:x∈l):q x=false:=by
 have hl:=LU h
 unfold mH at h
 simp only [Bool.and_eq_true,Bool.not_eq_true'] at h
 have:=List.any_eq_false.1 h.1 x (by rw [List.take_of_length_le hl]; exact hx)
 simpa using this
theorem U4 {α:Type} (l:List α) (most:Nat) (q:α->Bool) (st:Int->Tree (Int⊕(Bool⊕Unit))) (hm:most<=1000000) (m':Int) (hm':m'=(most:Int))
  (h:∀ i (hi:i<l.length),i<most->(st (i:Int)).run=some (bif q l[i] then .inr (.inl false) else .inl (ay ((i:Int)+1))))
  (h0:∀ i:Nat,¬ (i<l.length/\i<most)->(st (i:Int)).run=some (.inr (.inr ()))) :
  (Tree.bnd (.loop st 0) fun r1=>.sum r1 (fun r2=>.ret r2) fun _=>.ret (decide ((l.length:Int)<=m'))).run=some (mH q most l):=by
 subst hm'
 have hlen:(l.take most).length=min most l.length:=List.length_take
 have hf:=LJ (st:=fun v=>(st v).run) (l.take most) q (fun i=>(i:Int)) (Sum.inl false:Bool⊕Unit) (.inr ()) (fun i hi=>by
  have h1:i<l.length:=by omega
  rw [h i h1 (by omega),di i (by omega),List.getElem_take]) (h0 _ (by omega)) (s0:=(0:Int)) rfl
 simp only [Tree.run]
 rw [hf]
 unfold mH
 cases (l.take most).any q with
 | true=>rfl
 | false=>simp only [cond_false,Option.bind_some,Bool.not_false,Bool.true_and,Int.ofNat_le]; rfl
theorem AA {β:Type} (n:Nat) (st:Int->Tree (Int⊕β)) (r:β) (hn:n<=9223372036854775807) (h:∀ i:Nat,i<n->(st (i:Int)).run=some (.inl (ay ((i:Int)+1)))) (h0:(st (n:Int)).run=some (.inr r)) :
  dP (fun v=>(st v).run) 0=some r :=
 fw (st:=fun v=>(st v).run) (S:=fun i=>((i:Nat):Int)) (n:=n) (fun i hi=>by rw [h i hi,zg i (by omega)]) h0 rfl
theorem aiZ {α:Type} {p:α->Bool} {st:(Int×Int×List α)->Option ((Int×Int×List α)⊕(Int×List α))} (l:List α)
  (h1:∀ (i j:Nat) (s:List α) (hj:j<s.length),i<j->s.length=l.length->s[j]∈l->st ((i:Int),(j:Int),s)=some (.inl (match p s[j] with | true=>((i:Int),((j+1:Nat):Int),s) | false=>(((i+1:Nat):Int),((j+1:Nat):Int),s.set i s[j]))))
  (h0:∀ (i j:Nat) (s:List α),s.length=l.length->j=s.length->st ((i:Int),(j:Int),s)=some (.inr ((i:Int),s)))
  {i0:Nat} (hi:i0<l.length) (hx:∀ k (hk:k<i0),p (l[k]'(by omega))=false) (hp:p l[i0]=true) {s0:Int×Int×List α} (hs:s0=((i0:Int),((i0+1:Nat):Int),l)) :
  ∃ (k:Nat) (s:List α),dP st s0=some ((k:Int),s)/\s.length=l.length/\k<=l.length/\s.take k=l.filter fun x=>!p x:=by
 subst hs
 have key:∀ (d i j:Nat) (s:List α),j+d=l.length->i<j->s.length=l.length->s.drop j=l.drop j->s.take i=(l.take j).filter (fun x=>!p x) ->
   ∃ (k:Nat) (s':List α),dP st ((i:Int),(j:Int),s)=some ((k:Int),s')/\s'.length=l.length/\k<=l.length/\s'.take k=l.filter fun x=>!p x:=by
  intro d
  induction d with
  | zero =>
   intro i j s hj hij hs hd ht
   refine ⟨i,s,?_,hs,by omega,?_⟩
   ·rw [ib,h0 i j s hs (by omega)]; rfl
   ·rw [ht,List.take_of_length_le (by omega)]
  | succ d ih =>
   intro i j s hj hij hs hd ht
   have hjs:j<s.length:=by omega
   have hjl:j<l.length:=by omega
   have hsj:s[j]=l[j]:=by
    have:=congrArg (fun k=>k[0]?) hd
    simpa [List.getElem?_drop,hjs,hjl] using this
   have hdrop:s.drop (j+1)=l.drop (j+1):=by
    have:=congrArg (List.drop 1) hd
    simpa [List.drop_drop] using this
   have htk:l.take (j+1)=l.take j++[l[j]]:=by rw [List.take_add_one]; simp [hjl]
   rw [ib,h1 i j s hjs hij hs (by rw [hsj]; exact List.getElem_mem hjl)]
   cases hpj:p s[j] with
   | true =>
    refine ih i (j+1) s (by omega) (by omega) hs hdrop ?_
    rw [ht,htk,List.filter_append,<- hsj]
    simp [hpj]
   | false =>
    refine ih (i+1) (j+1) (s.set i s[j]) (by omega) (by omega) (by rw [List.length_set]; exact hs) ?_ ?_
    ·rw [List.drop_set_of_lt (by omega)]; exact hdrop
    ·rw [htk,List.filter_append,<- ht,<- hsj]
     have hlt:i<s.length:=by omega
     rw [List.take_add_one,List.take_set_of_le (by omega)]
     simp [hlt,hpj]
 refine key (l.length-(i0+1)) i0 (i0+1) l (by omega) (by omega) rfl rfl ?_
 have htk:l.take (i0+1)=l.take i0++[l[i0]]:=by rw [List.take_add_one]; simp [hi]
 rw [htk,List.filter_append]
 have h2:(l.take i0).filter (fun x=>!p x)=l.take i0:=by
  rw [List.filter_eq_self]
  intro a ha
  obtain ⟨k,hk,rfl⟩:=List.mem_iff_getElem.1 ha
  have hk':k<i0:=by rw [List.length_take] at hk; omega
  simp [hx k hk']
 rw [h2]
 simp [hp]
theorem WY {α γ:Type} (l:List α) (p:α->Bool) (t:Tree Int) (st:(Int×Int×List α)->Tree ((Int×Int×List α)⊕(Int×List α))) (z:α) (g:γ) (hl:l.length<=1000000) (ht:t.run=some (lX p l))
  (h1:∀ (i j:Nat) (s:List α) (hj:j<s.length),i<j->s.length=l.length->s[j]∈l->(st ((i:Int),(j:Int),s)).run=some (.inl (match p s[j] with | true=>((i:Int),((j+1:Nat):Int),s) | false=>(((i+1:Nat):Int),((j+1:Nat):Int),s.set i s[j]))))
  (h0:∀ (i j:Nat) (s:List α),s.length=l.length->j=s.length->(st ((i:Int),(j:Int),s)).run=some (.inr ((i:Int),s))) :
  (Tree.bnd t fun y1=>.ite (decide (y1=(-1))) (.ret (l,g)) (.bnd (.loop st (y1,(ay (y1+1)),l)) fun r2=>ask (df r2.1 r2.2.length)<|ask (df r2.1 (lK r2.1.toNat (r2.2.length-r2.1.toNat) z r2.2).length)<|.ret (((lK r2.1.toNat (r2.2.length-r2.1.toNat) z r2.2).take r2.1.toNat),g))).run=some (l.filter (fun x=>!p x),g):=by
 simp only [Tree.run,ht,Option.bind_some]
 rcases U2 p l with ⟨e,k⟩ | ⟨i0,hi,e,k1,_,k2⟩
 ·have e2:l.filter (fun x=>!p x)=l:=by
   rw [List.filter_eq_self]
   intro a ha
   have:=List.any_eq_false.1 k a ha
   simpa using this
  rw [e,e2]; rfl
 ·have hne:¬ ((i0:Int) = -1):=by omega
  obtain ⟨j,s,q1,q2,q3,q4⟩:=aiZ (st:=fun v=>(st v).run) l h1 h0 hi k2 k1 (s0:=((i0:Int),ay ((i0:Int)+1),l)) (by rw [di i0 (by omega)])
  have h5:j<=s.length:=by omega
  rw [e]
  simp only [hne,decide_false,cond_false,q1,Option.bind_some,lJ,aiY,Int.toNat_natCast,h5,decide_true,cond_true,aiX,q4]
theorem aed {α:Type} (l:List α) (p:α->Bool) (st:(Int×List α)->Tree ((Int×List α)⊕List α)) (hl:l.length<=1000000)
  (h:∀ i (c:List α) (hi:i<l.length),c.length<=i->(st ((i:Int),c)).run=some (.inl (ay ((i:Int)+1),bif p l[i] then c++[l[i]] else c))) (h0:∀ c,(st ((l.length:Int),c)).run=some (.inr c)) :
  dP (fun v=>(st v).run) (0,[])=some (l.filter p):=by
 rw [QV (st:=fun v=>(st v).run) l (fun i c=>((i:Int),c)) (fun _ x c=>.inl (bif p x then c++[x] else c)) id (fun i c=>c.length<=i) (fun i c hi hc=>by
   rw [h i c hi hc,di i (by omega)]
   refine ⟨rfl,fun c' h=>?_⟩
   injection h with h; subst h
   cases p l[i]
   ·show c.length<=_; omega
   ·simp; omega) (fun c _=>h0 c) [] (Nat.le_refl _) (s0:=((0:Int),([]:List α))) rfl]
 have key:∀ (l:List α) (i:Nat) (c:List α),qI (α:=List α) (fun _ x c=>.inl (bif p x then c++[x] else c)) id i l c=c++l.filter p:=by
  intro l
  induction l with
  | nil=>intro i c; simp [qI]
  | cons x l ih =>
   intro i c
   simp only [qI]
   rw [ih]
   cases h:p x <;> simp [h]
 rw [key]; rfl
def chain {α γ:Type} (good:γ->α->Bool) (next:γ->α->γ):γ->List α->Bool
 | _,[]=>true
 | c,x::l=>good c x&&chain good next (next c x) l
theorem adZ {α γ σ β:Type} {st:σ->Option (σ⊕β)} (l:List α) (good:γ->α->Bool) (next:γ->α->γ) (S:Nat->γ->σ) (I:Nat->γ->Prop) (bad done:β)
  (h1:∀ i c (hi:i<l.length),I i c->st (S i c)=some (bif good c l[i] then .inl (S (i+1) (next c l[i])) else .inr bad)/\(good c l[i]=true->I (i+1) (next c l[i])))
  (h0:∀ c,I l.length c->st (S l.length c)=some (.inr done)) (c0:γ) (hc:I 0 c0) {s0:σ} (hs:s0=S 0 c0):dP st s0=some (bif chain good next c0 l then done else bad):=by
 rw [QV l S (fun _ x c=>bif good c x then .inl (next c x) else .inr bad) (fun _=>done) I (fun i c hi hI=>by
  obtain ⟨k1,k2⟩:=h1 i c hi hI
  rw [k1]
  cases hg:good c l[i] with
  | false=>exact ⟨rfl,fun c' h=>by cases h⟩
  | true=>exact ⟨rfl,fun c' h=>by injection h with h; subst h; exact k2 hg⟩) h0 c0 hc hs]
 have key:∀ (l:List α) (i:Nat) (c:γ),qI (β:=α) (fun _ x c=>bif good c x then .inl (next c x) else .inr bad) (fun _=>done) i l c=bif chain good next c l then done else bad:=by
  intro l
  induction l with
  | nil=>intro i c; rfl
  | cons x l ih =>
   intro i c
   simp only [qI,chain]
   cases good c x with
   | false=>rfl
   | true=>exact ih (i+1) _
 rw [key]
theorem PY {α γ σ β:Type} {st:σ->Option (σ⊕β)} (l:List α) (f:γ->α->γ) (e:γ->β) (S:Nat->γ->σ) (I:Nat->γ->Prop)
  (h1:∀ i c (hi:i<l.length),I i c->st (S i c)=some (.inl (S (i+1) (f c l[i])))/\I (i+1) (f c l[i])) (h0:∀ c,I l.length c->st (S l.length c)=some (.inr (e c))) (c0:γ) (hc:I 0 c0) {s0:σ} (hs:s0=S 0 c0) :
  dP st s0=some (e (l.foldl f c0)):=by
 rw [QV l S (fun _ x c=>.inl (f c x)) e I (fun i c hi hI=>by
  obtain ⟨k1,k2⟩:=h1 i c hi hI
  exact ⟨k1,fun c' h=>by injection h with h; subst h; exact k2⟩) h0 c0 hc hs]
 have key:∀ (l:List α) (i:Nat) (c:γ),qI (β:=α) (fun _ x c=>.inl (f c x)) e i l c=e (l.foldl f c):=by
  intro l
  induction l with
  | nil=>intro i c; rfl
  | cons x l ih=>intro i c; exact ih (i+1) _
 rw [key]
end Go.aT
