/- Contracts out of trees: functions and loops. -/
import Derived.Test.YtjkhncojgilbaaaGreatDoorTrCa
namespace Go.aT
open Go Go.RowKit
variable {P:Program} {T:aX}
theorem bL.Yk {c:Code} {Q:Exit->AS->Prop} {A B:AS} (h:dO A B) (hB:bL P c Q B):bL P c Q A:=by
 refine ⟨fun base w S m a hM hA=>?_⟩
 obtain ⟨S',m',h1,h2,h3,h4⟩:=h base w S m a hM hA
 exact Code.wp_mono (fun e a w' hl=>mq.step (bX.refl _ _) h1 h2 hl) (hB.jI base w S' m' a h3 h4)
theorem bL.Yl {c:Code} {Q:Exit->AS->Prop} {A:AS} (h:bL P c (fun e A'=>∃ B',dO A' B'/\Q e B') A):bL P c Q A:=by
 refine ⟨fun base w S m a hM hA=>Code.wp_mono ?_ (h.jI base w S m a hM hA)⟩
 rintro e a' w' ⟨A',S',m',⟨B',hle,hq⟩,h1,h2,h3,h4,h5⟩
 obtain ⟨S'',m'',k1,k2,k3,k4⟩:=hle base w' S' m' a' h4 h5
 exact ⟨B',S'',m'',hq,h1,fun b h=>k1 b (h2 b h),fun b h=>(k2 b h).elim (h3 b) .inr,k3,k4⟩
def gQ (l k:List AV):Prop:=au l=au k/\∀ i,Le (nth l i) (nth k i)
theorem gQ.refl (l:List AV):gQ l l:=⟨rfl,fun _=>Le.refl _⟩
theorem gQ.one {a b:AV} (h:Le a b):gQ [a] [b]:=⟨rfl,fun i=>by cases i with | zero=>exact h | succ i=>exact Le.refl _⟩
theorem gQ.cat {a b c d:List AV} (h:gQ a b) (k:gQ c d):gQ (bK a c) (bK b d):=by
 refine ⟨by rw [kY,kY,h.1,k.1],fun i=>?_⟩
 rw [lS,lS,h.1]
 split
 ·exact h.2 i
 ·exact k.2 _
theorem jL {α:Type} {f:AV->Option α} {e:α->AV} (hf:∀ v x,f v=some x->Le v (e x)) {l r:List AV} {x:α} (h:gH f l=some (x,r)):∃ pre,l=bK pre r/\gQ pre [e x]:=by
 cases l with
 | nil=>cases h
 | cons v l =>
  simp only [gH] at h
  split at h
  ·rename_i y hy; cases h; exact ⟨[v],rfl,gQ.one (hf _ _ hy)⟩
  ·cases h
theorem QO {g:Bool} {t:Ty} {v:AV} {x:El t} (h:Ba g t v=some x):Le v (encS g t x):=by
 cases g with
 | true =>
  simp only [Ba] at h
  split at h
  ·obtain ⟨h1,h2⟩:=qc h
   refine Le.agg (h1.trans (ny _ _).symm) fun i hi=>h2 i (by rw [ny] at hi; exact hi)
  ·cases h
 | false =>
  simp only [Ba] at h
  obtain ⟨h1,h2⟩:=qc h
  exact h2 0 (KJ t)
theorem Le.bS {n k:Nat} {c d:Nat->AV} (hk:k<=n) (h:∀ j,j<k->Le (c j) (d j)):Le (.bS n c) (.bS k d):=by
 intro w S m v hr
 cases hr with
 | bS _ b o _ _ f hs hc hr=>exact .bS _ _ _ _ _ f hs (fun j hj=>hc j (by omega)) (fun j hj=>h j hj _ _ _ _ (hr j (by omega)))
theorem Le.fn {f:Fn} {a b c d:List AV} (h:gQ a b) (k:gQ c d):Le (.fn f a c) (.fn f b d):=by
 intro w S m v hr
 cases hr with
 | fn _ _ fs cs _ _ hl hl' h1 h1' hr hr' =>
  exact .fn _ _ _ _ _ _ (hl.trans h.1) (hl'.trans k.1) (fun i hi=>h1 i (by rw [h.1]; exact hi)) (fun i hi=>h1' i (by rw [k.1]; exact hi))
   (fun i hi=>h.2 i _ _ _ _ (hr i (by rw [h.1]; exact hi))) (fun i hi=>k.2 i _ _ _ _ (hr' i (by rw [k.1]; exact hi)))
theorem Le.dN {k:Nat} {a b:List AV} (h:gQ a b):Le (.dN k a) (.dN k b):=by
 intro w S m v hr
 cases hr with
 | iq _ x o n _ f hs hn hl hc hr=>exact .iq _ _ _ _ _ f hs hn (hl.trans h.1) (fun j hj=>hc j (by rw [h.1]; exact hj)) fun j hj=>h.2 j _ _ _ _ (hr j (by rw [h.1]; exact hj))
 | iM _ x o i _ f hs hi hc hr=>exact .iM _ _ _ _ _ f hs (by rw [<- h.1]; exact hi) (fun j hj=>hc j (by rw [h.1]; exact hj)) fun j hj=>h.2 j _ _ _ _ (hr j (by rw [h.1]; exact hj))
theorem Le.undef' {b:AV} (h:b = .undef):Le .undef b:=by rw [h]; exact Le.refl _
theorem Le.ait (b:Nat):Le .dG (.dJ b):=fun _ _ _ _ h=>by cases h; exact .jR _ _
theorem Le.aiu (b:Nat):Le (.ref b 0) (.dJ b):=fun _ _ _ _ h=>by cases h with | ref _ _ _ l h=>exact .dJ _ _ l h
theorem oW {p:PS} {l r:List AV} {x:eD p} (h:gY p l=some (x,r)):∃ pre,l=bK pre r/\gQ pre (dX p x):=by
 induction p generalizing l r with
 | val g t=>exact jL (e:=encS g t) (fun v x=>QO) h
 | ptr t =>
  refine jL (e:=fun x=>.bS (aW t) (nth (dB t x))) (fun v x hv=>?_) h
  unfold Qw at hv
  split at hv
  ·split at hv
   ·rename_i n c _ hn
    obtain ⟨h1,h2⟩:=qc hv
    refine Le.bS (Nat.le_of_ble_eq_true hn) fun j hj=>?_
    have:=h2 j hj
    rw [sU _ _ _ _ hj,Nat.zero_add] at this
    exact this
   ·cases hv
  ·cases hv
 | mv t u =>
  refine jL (e:=fun x=>.mv t u x) (fun v x hv=>?_) h
  unfold Qx at hv
  split at hv
  ·obtain ⟨e1,rfl⟩:=jU hv
   cases e1
   exact Le.refl _
  ·cases hv
 | full t =>
  refine jL (e:=fun x=>.bF t x true) (fun v x hv=>?_) h
  unfold Qy at hv
  split at hv
  ·obtain ⟨e1,rfl⟩:=jU hv
   cases e1
   exact Le.refl _
  ·cases hv
 | jZ =>
  refine jL (e:=fun _=>.dZ) (fun v x hv=>?_) h
  unfold Qz at hv
  split at hv
  ·exact Le.refl _
  ·cases hv
 | flat t =>
  obtain ⟨pre,h1,h2,h3⟩:=KL h
  refine ⟨pre,h1,h2.trans (ny _ _).symm,fun i=>?_⟩
  by_cases hi:i<aW t
  ·exact h3 i hi
  ·rw [kW pre i (by omega)]; exact Le.undef' (kW _ i (by show au (dB t x)<=i; rw [ny]; omega))
 | cp a ih =>
  simp only [gY] at h
  split at h
  ·rename_i n c r'
   split at h
   ·rename_i x1 ha
    cases h
    obtain ⟨p1,q1,r1⟩:=ih ha
    rw [kF,List.append_nil] at q1
    subst q1
    refine ⟨[_],rfl,gQ.one (Le.bS ?_ fun j hj=>?_)⟩
    ·rw [<- r1.1,kV]; exact Nat.le_refl _
    ·rw [<- r1.1,kV] at hj
     have:=r1.2 j
     rw [sU _ _ _ _ hj,Nat.zero_add] at this
     exact this
   ·cases h
  ·cases h
 | xw =>
  refine jL (e:=fun _=>.dG) (fun v x hv=>?_) h
  unfold QA at hv
  split at hv
  ·exact Le.refl _
  ·cases hv
 | xx =>
  refine jL (e:=fun _=>.bR) (fun v x hv=>?_) h
  unfold QB at hv
  split at hv
  ·exact Le.refl _
  ·cases hv
 | ref b off =>
  refine jL (e:=fun _=>.ref b off) (fun v x hv=>?_) h
  unfold X3 at hv
  split at hv
  ·split at hv
   ·rename_i h1 h2
    rw [<- Nat.eq_of_beq_eq_true h1,<- Nat.eq_of_beq_eq_true h2]; exact Le.refl _
   ·cases hv
  ·cases hv
 | dJ b =>
  refine jL (e:=fun _=>.dJ b) (fun v x hv=>?_) h
  unfold QC at hv
  split at hv
  ·exact Le.ait b
  ·split at hv
   ·rename_i h1; rw [Nat.eq_of_beq_eq_true h1]; exact Le.refl _
   ·cases hv
  ·split at hv
   ·rename_i h1; rw [Nat.eq_of_beq_eq_true h1]; exact Le.aiu _
   ·cases hv
  ·cases hv
 | mp b =>
  refine jL (e:=fun _=>.mp b) (fun v x hv=>?_) h
  unfold QD at hv
  split at hv
  ·split at hv
   ·rename_i h1; rw [<- Nat.eq_of_beq_eq_true h1]; exact Le.refl _
   ·cases hv
  ·cases hv
 | own b =>
  refine jL (e:=fun _=>.bz b) (fun v x hv=>?_) h
  unfold X4 at hv
  split at hv
  ·split at hv
   ·rename_i h1; rw [<- Nat.eq_of_beq_eq_true h1]; exact Le.refl _
   ·cases hv
  ·cases hv
 | any=>exact jL (e:=fun _=>.undef) (fun v x _=>Le.undef _) h
 | fn id f c ihf ihc =>
  simp only [gY] at h
  split at h
  ·rename_i id' a b r'
   split at h
   ·rename_i x1 y1 hid ha hb
    cases h
    have hid:=Nat.eq_of_beq_eq_true hid
    subst hid
    obtain ⟨p1,q1,r1⟩:=ihf ha
    obtain ⟨p2,q2,r2⟩:=ihc hb
    rw [kF,List.append_nil] at q1 q2
    subst q1 q2
    exact ⟨[_],rfl,gQ.one (Le.fn r1 r2)⟩
   ·cases h
  ·cases h
 | dN a ih =>
  simp only [gY] at h
  split at h
  ·rename_i vs r'
   split at h
   ·rename_i x1 ha
    cases h
    obtain ⟨p1,q1,r1⟩:=ih ha
    rw [kF,List.append_nil] at q1
    subst q1
    exact ⟨[_],rfl,gQ.one (Le.dN r1)⟩
   ·cases h
  ·cases h
 | nil=>cases h; exact ⟨[],rfl,gQ.refl _⟩
 | cons a b iha ihb =>
  simp only [gY] at h
  split at h
  ·rename_i x1 r1 h1
   split at h
   ·rename_i y1 r2 h2
    cases h
    obtain ⟨p1,rfl,l1⟩:=iha h1
    obtain ⟨p2,rfl,l2⟩:=ihb h2
    exact ⟨bK p1 p2,by simp [kF],gQ.cat l1 l2⟩
   ·cases h
  ·cases h
theorem Bg {p:PS} {l:List AV} {x:eD p} (h:gY p l=some (x,[])):gQ l (dX p x):=by
 obtain ⟨pre,h1,h2⟩:=oW h
 rw [kF,List.append_nil] at h1
 rw [h1]; exact h2
def il (B C:bT):Prop:=(∀ w S m l,bZ w S m l B->bZ w S m l C)/\(isCells B=true->isCells C=true)
theorem il.refl (B:bT):il B B:=⟨fun _ _ _ _ h=>h,fun h=>h⟩
theorem il.cells {e:Nat} {cs ds:List AV} (h:gQ cs ds):il (.cells e cs) (.cells e ds):=by
 refine ⟨fun w S m l hb=>?_,fun h=>h⟩
 cases l with
 | none=>exact hb
 | some l =>
  obtain ⟨vs,h1,h2,h3,h4⟩:=hb
  exact ⟨vs,h1,h2.trans h.1,fun i hi=>h3 i (by rw [h.1]; exact hi),fun i hi=>h.2 i _ _ _ _ (h4 i (by rw [h.1]; exact hi))⟩
theorem uD {q:PM} {M r:Mem} {x:jK q} (h:fT q M=some (x,r)):aB (bM q x)+aB r=aB M/\∀ i,i<aB (bM q x)->il (blk M i) (blk (bM q x) i):=by
 induction q generalizing M r with
 | nil=>cases h; exact ⟨by simp [bM,aB],fun i hi=>absurd hi (Nat.not_lt_zero i)⟩
 | cells e p q ih =>
  simp only [fT] at h
  split at h
  ·cases h
  ·rename_i B l
   split at h
   ·rename_i y z r' hd hr
    cases h
    obtain ⟨h1,h2⟩:=ih hr
    refine ⟨by simp only [bM,aB]; omega,fun i hi=>?_⟩
    cases i with
    | zero =>
     show il B (.cells e (dX p y))
     unfold X5 at hd
     split at hd
     ·split at hd
      ·rename_i he hc
       injection hd with hd; subst hd
       have he:=Nat.eq_of_beq_eq_true he
       subst he
       exact il.cells (Bg hc)
      ·cases hd
     ·cases hd
    | succ i=>exact h2 i (by simp only [bM,aB] at hi; omega)
   ·cases h
 | rows e t q ih =>
  simp only [fT] at h
  split at h
  ·cases h
  ·rename_i B l
   split at h
   ·rename_i y z r' hd hr
    cases h
    obtain ⟨h1,h2⟩:=ih hr
    refine ⟨by simp only [bM,aB]; omega,fun i hi=>?_⟩
    cases i with
    | zero =>
     show il B (.bC e t y)
     unfold QE at hd
     split at hd
     ·split at hd
      ·rename_i he
       have he:=Nat.eq_of_beq_eq_true he
       obtain ⟨e1,rfl⟩:=jU hd
       subst e1 he
       exact il.refl _
      ·cases hd
     ·cases hd
    | succ i=>exact h2 i (by simp only [bM,aB] at hi; omega)
   ·cases h
 | map t u q ih =>
  simp only [fT] at h
  split at h
  ·cases h
  ·rename_i B l
   split at h
   ·rename_i y z r' hd hr
    cases h
    obtain ⟨h1,h2⟩:=ih hr
    refine ⟨by simp only [bM,aB]; omega,fun i hi=>?_⟩
    cases i with
    | zero =>
     show il B (.map t u y)
     unfold QG at hd
     split at hd
     ·obtain ⟨e1,rfl⟩:=jU hd
      cases e1
      exact il.refl _
     ·cases hd
    | succ i=>exact h2 i (by simp only [bM,aB] at hi; omega)
   ·cases h
 | arr e t q ih =>
  simp only [fT] at h
  split at h
  ·cases h
  ·rename_i B l
   split at h
   ·rename_i y z r' hd hr
    cases h
    obtain ⟨h1,h2⟩:=ih hr
    refine ⟨by simp only [bM,aB]; omega,fun i hi=>?_⟩
    cases i with
    | zero =>
     show il B (.arr e t y)
     unfold QF at hd
     split at hd
     ·split at hd
      ·rename_i he
       have he:=Nat.eq_of_beq_eq_true he
       obtain ⟨e1,rfl⟩:=jU hd
       subst e1 he
       exact il.refl _
      ·cases hd
     ·cases hd
    | succ i=>exact h2 i (by simp only [bM,aB] at hi; omega)
   ·cases h
 | dV e t q ih =>
  simp only [fT] at h
  split at h
  ·cases h
  ·rename_i B l
   split at h
   ·rename_i y z r' hd hr
    cases h
    obtain ⟨h1,h2⟩:=ih hr
    refine ⟨by simp only [bM,aB]; omega,fun i hi=>?_⟩
    cases i with
    | zero =>
     show il B (.dV e t y)
     unfold QH at hd
     split at hd
     ·split at hd
      ·rename_i he
       have he:=Nat.eq_of_beq_eq_true he
       obtain ⟨e1,rfl⟩:=jU hd
       subst e1 he
       exact il.refl _
      ·cases hd
     ·cases hd
    | succ i=>exact h2 i (by simp only [bM,aB] at hi; omega)
   ·cases h
 | dead q ih =>
  simp only [fT] at h
  split at h
  ·cases h
  ·rename_i B l
   split at h
   ·cases h
   ·rename_i hB
    obtain ⟨h1,h2⟩:=ih h
    refine ⟨by simp only [bM,aB]; omega,fun i hi=>?_⟩
    cases i with
    | zero=>exact ⟨fun _ _ _ l _=>by cases l <;> trivial,fun h=>by rw [show isCells (blk (B::l) 0)=isCells B from rfl,hB] at h; cases h⟩
    | succ i=>exact h2 i (by simp only [bM,aB] at hi; omega)
 | dW q ih =>
  simp only [fT] at h
  split at h
  ·cases h
  ·rename_i B l
   split at h
   ·rename_i y z r' hd hr
    cases h
    obtain ⟨h1,h2⟩:=ih hr
    refine ⟨by simp only [bM,aB]; omega,fun i hi=>?_⟩
    cases i with
    | zero =>
     show il B (.dW y.1 y.2)
     unfold QI at hd
     split at hd
     ·cases hd; exact il.refl _
     ·cases hd
    | succ i=>exact h2 i (by simp only [bM,aB] at hi; omega)
   ·cases h
 | dz q ih =>
  simp only [fT] at h
  split at h
  ·cases h
  ·rename_i B l
   split at h
   ·rename_i y z r' hd hr
    cases h
    obtain ⟨h1,h2⟩:=ih hr
    refine ⟨by simp only [bM,aB]; omega,fun i hi=>?_⟩
    cases i with
    | zero =>
     show il B (.dz y.1 y.2)
     unfold QJ at hd
     split at hd
     ·cases hd; exact il.refl _
     ·cases hd
    | succ i=>exact h2 i (by simp only [bM,aB] at hi; omega)
   ·cases h
theorem Jt {p:PS} {q:PM} {np:Nat} {A:AS} {z:jf p q} (h:Bc p q np A=some z):dO A (qH p q np z):=by
 unfold Bc at h
 split at h
 case h_2=>cases h
 rename_i x y l hnp hts hm
 have hnp:=Nat.eq_of_beq_eq_true hnp
 have hts:=Bg hts
 obtain ⟨hlen,hblk⟩:=uD hm
 intro base w S m a hM hA
 have key:(x,y)=z->(l=[]\/(Nat.ble np (aB (bM q y))=true/\qm (aB (bM q y)) (dX p x)=true/\oH (aB (bM q y)) (bM q y)=true))->∃ S' m',(∀ b,S b->S' b)/\(∀ b,S' b->S b\/¬ base.Z b)/\MA base w S' m' (qH p q np z)/\iP base.old w S' m' a (qH p q np z).ts:=by
  rintro rfl hl
  have hA1:iP base.old w S m a (dX p x):=⟨hA.1.trans hts.1,hA.2.1,fun t=>hts.2 t _ _ _ _ (hA.2.2 t)⟩
  rcases hl with rfl | ⟨c1,c2,c3⟩
  ·have hlen:aB (bM q y)=aB A.m:=by simpa [aB] using hlen
   refine ⟨S,m,fun _ h=>h,fun _ h=>.inl h,⟨hM.rel.to hlen (fun i l hi hb=>?_) (fun i hc=>?_),fun i l hi=>hnp▸hM.pins i l hi⟩,hA1⟩
   ·have hlt:i<aB (bM q y):=by rw [hlen,<- hM.rel.len]; exact (List.getElem?_eq_some_iff.1 hi).1
    exact (hblk i hlt).1 _ _ _ _ hb
   ·by_cases hlt:i<aB (bM q y)
    ·exact (hblk i hlt).2 hc
    ·have:blk A.m i = .dead:=by rw [qZ]; rw [oh] at hlen hlt; simp [List.getD,List.getElem?_eq_none (Nat.le_of_not_lt (by rw [oh] at hlen; omega:¬ i<A.m.length))]
     rw [this] at hc; cases hc
  ·have c1:=Nat.le_of_ble_eq_true c1
   have hle:aB (bM q y)<=aB A.m:=by omega
   have hp:∀ i l,base.pin i=some l->i<aB (bM q y):=fun i l hi=>Nat.lt_of_lt_of_le (hnp▸hM.pins i l hi) c1
   have hml:(m.take (aB (bM q y))).length=aB (bM q y):=by rw [List.length_take,hM.rel.len]; omega
   have hs':∀ {i:Nat} {l:Option Loc},(m.take (aB (bM q y)))[i]? = some l->i<aB (bM q y)/\m[i]? = some l:=fun {i l} h'=>by
    have hlt:i<aB (bM q y):=by have:=(List.getElem?_eq_some_iff.1 h').1; omega
    rw [List.getElem?_take_of_lt hlt] at h'; exact ⟨hlt,h'⟩
   refine ⟨S,m.take (aB (bM q y)),fun _ h=>h,fun _ h=>.inl h,⟨⟨hml,hM.rel.sb,fun i l hi=>?_,fun i l hi=>hM.rel.lt i l (hs' hi).2,fun i j l l' hi hj=>hM.rel.inj i j l l' (hs' hi).2 (hs' hj).2,hM.rel.fu,hM.rel.iO,fun i l hi=>?_,fun i l hi=>(hM.rel.ext i l (hs' hi).2).to (fun _ _ h=>h) (Nat.le_refl _) (fun _ _ h=>.inl h) fun j l' hj=>.inl ⟨l',(hs' hj).2,rfl,.inl rfl⟩⟩,fun i l hi=>hnp▸hM.pins i l hi⟩,⟨hA1.1,hA1.2.1,fun t=>?_⟩⟩
   ·obtain ⟨hlt,hi⟩:=hs' hi
    exact ((hblk i hlt).1 _ _ _ _ (hM.rel.bk i l hi)).take (fun e cs he=>Lu c3 he)
   ·obtain ⟨q1,q2⟩:=hM.rel.pin i l hi
    have hlt:=hp i l hi
    rw [List.getElem?_take_of_lt hlt]
    exact ⟨q1,(hblk i hlt).2 q2⟩
   ·show Rel w S _ _ (nth (dX p x) t)
    by_cases ht:t<au (dX p x)
    ·exact (hA1.2.2 t).take 4 (Lt c2 ht)
    ·rw [kW _ _ (by omega)]; exact .undef _ _
 split at h
 ·injection h with h; exact key h (.inl rfl)
 ·split at h
  ·rename_i c1 c2 c3; injection h with h; exact key h (.inr ⟨c1,c2,c3⟩)
  ·cases h
theorem Ym {x:Nat} {e:Exit} (h:Jo x e=true):e=QK x:=by
 cases e <;> cases x <;> simp [Jo] at h <;> first | rfl | (rename_i i j; have:=Nat.eq_of_beq_eq_true h; subst this; rfl) | (subst h; rfl)
theorem aiv {np:Nat} {e:Exit} {A:AS} {xs:XS} {z:oV xs} (h:Es np e A xs=some z):∃ B,(xz np xs z).run=some (e,B)/\dO A B:=by
 induction xs with
 | one x pre p q =>
  simp only [Es] at h
  split at h
  ·rename_i hx
   rw [Ym hx]
   exact ⟨_,rfl,(wF pre A).trans (Jt h)⟩
  ·cases h
 | norm p q=>cases h
 | more x pre p q r ih =>
  simp only [Es] at h
  split at h
  ·rename_i hx
   split at h
   ·rename_i z' hz
    cases h
    rw [Ym hx]
    exact ⟨_,rfl,(wF pre A).trans (Jt hz)⟩
   ·cases h
  ·split at h
   ·rename_i z' hz
    cases h
    exact ih hz
   ·cases h
end Go.aT
