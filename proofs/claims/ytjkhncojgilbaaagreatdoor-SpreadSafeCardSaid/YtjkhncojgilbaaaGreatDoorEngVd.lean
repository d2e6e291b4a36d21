/- Loops by a family of abstract states; what a call answers, by an equation. Functions without a body. Calls that are handed memory: out of code; and in a larger memory. A call that is handed some blocks of a larger memory. A contract with memory holds in every larger memory: the frame. Memory of one's own that is given away: from now on it is only read. -/
import Derived.Test.YtjkhncojgilbaaaGreatDoorEngT
import Derived.Laws.Externs
import Derived.Lib.Bytealg
namespace Go.aT
open Go Go.RowKit
variable {P:Program} {T:aX} {base:Env} {w:World} {S:Nat->Prop} {m:aY} {M:Mem}
def Us (ts:List AV):List (Nat×AV)->List AV
 | []=>ts
 | (i,v)::l=>put (Us ts l) i v
def slots (n:Nat) (l:List (Nat×AV)):List AV:=Us (und n) l
def nH:List AV->List AV->Prop
 | [],[]=>True
 | _::l,.undef::k=>nH l k
 | a::l,b::k=>a=b/\nH l k
 | _,_=>False
def Ut (l k:List AV):Prop:=au l=au k/\∀ i,Le (nth l i) (nth k i)
def ry:bT->bT->Prop
 | b,.dead=>isCells b=false
 | .cells e cs,.cells e' ds=>e=e'/\nH cs ds
 | .rows e sz n c,.rows e' sz' n' d=>e=e'/\sz=sz'/\n=n'/\∀ i,i<n->∀ j,j<sz->c i j=d i j
 | .bC e t l,C=>C = .bC e t l
 | .arr e t l,C=>C = .arr e t l
 | .map t u l,C=>C = .map t u l
 | .dV e t l,C=>C = .dV e t l
 | .dz x y,C=>C = .dz x y
 | .dW s p,.dW s' p'=>s=s'/\p=p'
 | _,_=>False
def nI:Mem->Mem->Prop
 | [],[]=>True
 | a::l,b::k=>ry a b/\nI l k
 | _,_=>False
def nJ:Nat->Mem->Mem
 | 0,_=>[]
 | _,[]=>[]
 | n+1,b::l=>b::nJ n l
def eB (k:Nat):Nat->AV->Bool
 | _,.ref b _ | _,.dJ b | _,.fA b _ | _,.mp b | _,.sub b _ | _,.bY b _ _ | _,.own b _ | _,.bz b | _,.tail b _ _=>Nat.blt b k
 | 0,.agg _ | 0,.fn _ _ _ | 0,.bN _ | 0,.dN _ _=>false
 | f+1,.agg cs=>tQ f cs
 | f+1,.bN cs=>tQ f cs
 | f+1,.dN _ cs=>tQ f cs
 | f+1,.fn _ a c=>match tQ f a with | true=>tQ f c | false=>false
 | _,_=>true
where tQ (f:Nat):List AV->Bool
 | []=>true
 | a::l=>match eB k f a with | true=>tQ f l | false=>false
def qm (k:Nat):List AV->Bool
 | []=>true
 | a::l=>match eB k 4 a with | true=>qm k l | false=>false
def oH (k:Nat):Mem->Bool
 | []=>true
 | .cells _ cs::l=>match qm k cs with | true=>oH k l | false=>false
 | _::l=>oH k l
structure Sub (A B:AS):Prop where
 m:nI (nJ (aB B.m) A.m) B.m
 ts:nH A.ts B.ts
 np:A.np=B.np
 cl:aB A.m=aB B.m\/(Nat.ble B.np (aB B.m)=true/\qm (aB B.m) B.ts=true/\oH (aB B.m) B.m=true)
theorem nH.refl:∀ l:List AV,nH l l
 | []=>trivial
 | a::l=>by cases a <;> first | exact nH.refl l | exact ⟨rfl,nH.refl l⟩
theorem ry.refl (b:bT):ry b b:=by
 cases b with
 | cells e cs=>exact ⟨rfl,nH.refl cs⟩
 | rows e sz n c=>exact ⟨rfl,rfl,rfl,fun _ _ _ _=>rfl⟩
 | bC e t l=>exact rfl
 | arr e t l=>exact rfl
 | map t u l=>exact rfl
 | dV e t l=>exact rfl
 | dz x y=>exact rfl
 | dW s p=>exact ⟨rfl,rfl⟩
 | dead=>exact rfl
theorem nI.refl:∀ M:Mem,nI M M
 | []=>trivial
 | b::M=>⟨ry.refl b,nI.refl M⟩
theorem nI.len:∀ {M N:Mem},nI M N->aB M=aB N
 | [],[],_=>rfl
 | _::_,_::_,h=>by simp only [aB]; rw [nI.len h.2]
theorem nI.blk:∀ {M N:Mem},nI M N->∀ i,ry (aT.blk M i) (aT.blk N i)
 | [],[],_,i=>rfl
 | _::_,_::_,h,0=>h.1
 | _::_,_::_,h,i+1=>nI.blk h.2 i
theorem nH.le:∀ {l k:List AV},nH l k->Ut l k:=by
 intro l
 induction l with
 | nil =>
  intro k h
  cases k with
  | nil=>exact ⟨rfl,fun i=>Le.refl _⟩
  | cons b k=>exact h.elim
 | cons a l ih =>
  intro k h
  cases k with
  | nil=>exact h.elim
  | cons b k =>
   have hh:Le a b/\nH l k:=by
    cases b with
    | undef=>exact ⟨Le.undef _,h⟩
    | _=>have h:_=_/\_:=h; exact ⟨h.1▸Le.refl _,h.2⟩
   obtain ⟨h1,h2⟩:=ih hh.2
   refine ⟨by simp only [au]; rw [h1],fun i=>?_⟩
   cases i with
   | zero=>exact hh.1
   | succ i=>exact h2 i
theorem iP.sub {a:Act} {l k:List AV} (h:iP base.old w S m a l) (hs:Ut l k):iP base.old w S m a k:=⟨h.1.trans hs.1,h.2.1,fun t=>hs.2 t _ _ _ _ (h.2.2 t)⟩
theorem bZ.sub {l:Option Loc} {B C:bT} (h:bZ w S m l B) (hs:ry B C):bZ w S m l C:=by
 cases C with
 | dead=>cases l <;> trivial
 | cells e' ds =>
  cases B with
  | bC e t l=>cases hs
  | arr e t l=>cases hs
  | dV e t l=>cases hs
  | map t u l=>cases hs
  | dz x y=>cases hs
  | cells e cs =>
   obtain ⟨rfl,hs⟩:=hs
   cases l with
   | none=>exact h
   | some l =>
    obtain ⟨vs,h1,h2,h3,h4⟩:=h
    obtain ⟨q1,q2⟩:=hs.le
    exact ⟨vs,h1,h2.trans q1,fun i hi=>h3 i (by omega),fun i hi=>q2 i _ _ _ _ (h4 i (by omega))⟩
  | _=>exact hs.elim
 | rows e' sz' n' d =>
  cases B with
  | bC e t l=>cases hs
  | arr e t l=>cases hs
  | dV e t l=>cases hs
  | map t u l=>cases hs
  | dz x y=>cases hs
  | rows e sz n c =>
   obtain ⟨rfl,rfl,rfl,hs⟩:=hs
   cases l with
   | none=>exact h
   | some l =>
    obtain ⟨q1,q2,q3,q4,vs,q5,q6,q7⟩:=h
    exact ⟨q1,q2,q3,q4,vs,q5,q6,fun i hi j hj=>by rw [<- hs i hi j hj]; exact q7 i hi j hj⟩
  | _=>exact hs.elim
 | bC e' t' l' =>
  cases B with
  | bC e t l=>cases hs; exact h
  | arr e t l=>cases hs
  | dV e t l=>cases hs
  | map t u l=>cases hs
  | dz x y=>cases hs
  | _=>exact hs.elim
 | arr e' t' l' =>
  cases B with
  | bC e t l=>cases hs
  | arr e t l=>cases hs; exact h
  | dV e t l=>cases hs
  | map t u l=>cases hs
  | dz x y=>cases hs
  | _=>exact hs.elim
 | dV e' t' l' =>
  cases B with
  | bC e t l=>cases hs
  | arr e t l=>cases hs
  | dV e t l=>cases hs; exact h
  | map t u l=>cases hs
  | dz x y=>cases hs
  | _=>exact hs.elim
 | map t' u' l' =>
  cases B with
  | bC e t l=>cases hs
  | arr e t l=>cases hs
  | dV e t l=>cases hs
  | map t u l=>cases hs; exact h
  | dz x y=>cases hs
  | _=>exact hs.elim
 | dW s' p' =>
  cases B with
  | dW s p=>obtain ⟨rfl,rfl⟩:=hs; exact h
  | bC e t l=>cases hs
  | arr e t l=>cases hs
  | dV e t l=>cases hs
  | map t u l=>cases hs
  | dz x y=>cases hs
  | _=>exact hs.elim
 | dz x' y' =>
  cases B with
  | bC e t l=>cases hs
  | arr e t l=>cases hs
  | dV e t l=>cases hs
  | map t u l=>cases hs
  | dz x y=>cases hs; exact h
  | _=>exact hs.elim
theorem ry.cells {B C:bT} (hs:ry B C) (h:isCells B=true):isCells C=true:=by
 cases B <;> cases C <;> first | rfl | exact hs.elim | (simp [isCells] at h; done) | (simp [ry,isCells] at hs; done)
theorem aV.sub {M N:Mem} (h:aV base w S m M) (hs:nI M N):aV base w S m N :=
 ⟨h.len.trans hs.len,h.sb,fun i l hi=>(h.bk i l hi).sub (hs.blk i),h.lt,h.inj,h.fu,h.iO,fun i l hi=>⟨(h.pin i l hi).1,(hs.blk i).cells (h.pin i l hi).2⟩,h.ext⟩
theorem Gt (n:Nat) (l:Mem):nJ n l=l.take n:=by
 induction n generalizing l with
 | zero=>simp [nJ]
 | succ n ih=>cases l with
  | nil=>simp [nJ]
  | cons a l=>simp [nJ,ih]
theorem adr (l:Mem):nJ (aB l) l=l:=by rw [Gt,oh,List.take_length]
theorem ads {n:Nat} {l:Mem} (h:n<=aB l):aB (nJ n l)=n:=by rw [oh] at *; rw [Gt]; simp; omega
theorem Gu {n i:Nat} {l:Mem} (h:i<n):blk (nJ n l) i=blk l i:=by
 rw [qZ,qZ,Gt]; simp [List.getD,List.getElem?_take,h]
theorem wB {k f:Nat}:∀ {l:List AV},eB.tQ k f l=true->∀ i,i<au l->eB k f (nth l i)=true
 | a::l,h,i,hi=>by
  simp only [eB.tQ] at h
  split at h
  ·cases i with
   | zero=>assumption
   | succ i=>exact wB h i (by simp [au] at hi; omega)
  ·cases h
theorem Rel.take {k:Nat}:∀ (f:Nat) {v:Value} {a:AV},Rel w S m v a->eB k f a=true->Rel w S (m.take k) v a:=by
 have hk:∀ {i:Nat} {l:Option Loc},i<k->m[i]? = some l->(m.take k)[i]? = some l:=fun h h'=>by rw [List.getElem?_take_of_lt h]; exact h'
 intro f
 induction f with
 | zero =>
  intro v a h hc
  cases h with
  | ref _ i off l h=>exact .ref _ _ _ _ (hk (by simpa [eB] using hc) h)
  | jR=>exact .jR _ _
  | dJ _ i l h=>exact .dJ _ _ _ (hk (by simpa [eB] using hc) h)
  | fA _ i n l h hn=>exact .fA _ _ _ _ (hk (by simpa [eB] using hc) h) hn
  | mp _ i l h=>exact .mp _ _ _ (hk (by simpa [eB] using hc) h)
  | gy _ i h=>exact .gy _ _ (hk (by simpa [eB] using hc) h)
  | sub _ i j l g h hj=>exact .sub _ _ _ _ _ (hk (by simpa [eB] using hc) h) hj
  | bY _ i r off l h hr=>exact .bY _ _ _ _ _ (hk (by simpa [eB] using hc) h) hr
  | own _ i n l h hn hcp=>exact .own _ _ _ _ (hk (by simpa [eB] using hc) h) hn hcp
  | bF _ t l full _ h=>exact .bF _ _ _ _ _ (h.yu _)
  | fD _ aa i h=>exact .fD _ _ _ (hk (by simpa [eB] using hc) h)
  | bz _ i l h hcp=>exact .bz _ _ _ (hk (by simpa [eB] using hc) h) hcp
  | eZ _ aa i h=>exact .eZ _ _ _ (hk (by simpa [eB] using hc) h)
  | tail _ aa i lo n cp hn h=>exact .tail _ _ _ _ _ _ hn fun h0=>let ⟨l,h1,h2⟩:=h h0; ⟨l,hk (by simpa [eB] using hc) h1,h2⟩
  | agg=>simp [eB] at hc
  | bN=>simp [eB] at hc
  | iq=>simp [eB] at hc
  | iM=>simp [eB] at hc
  | fn=>simp [eB] at hc
  | undef=>exact .undef _ _
  | int _ k n h=>exact .int _ _ _ h
  | bool=>exact .bool _ _
  | str _ s h=>exact .str _ _ h
  | dG=>exact .dG _
  | bS _ b o n c f hs hc' h=>exact .bS _ _ _ _ _ _ hs hc' h
  | slice _ b o sz n cap full c f hs hn hcap hf hc' h=>exact .slice _ _ _ _ _ _ _ _ _ hs hn hcap hf hc' h
  | dL _ a cap sz full c hcap hf=>exact .dL _ _ _ _ _ _ hcap hf
  | bR=>exact .bR _
  | emp=>exact .emp _ _
  | bu=>exact .bu _
  | mv _ b es ck t u x hs hg hl h1 h2 hok=>exact .mv _ _ _ _ _ _ _ hs hg hl h1 h2 hok
  | iL=>exact .iL _
  | dZ=>exact .dZ _
  | gM=>exact .gM _
  | iw _ vs cs hl h0 h=>exact .iw _ _ _ hl h0 h
  | eU _ id fs cs as0 bs hl0 hl h0 h=>exact .eU _ _ _ _ _ _ hl0 hl h0 h
  | eG _ b n h=>exact .eG _ _ _ h
  | iN=>exact .iN _ _
 | succ f ih =>
  intro v a h hc
  cases h with
  | ref _ i off l h=>exact .ref _ _ _ _ (hk (by simpa [eB] using hc) h)
  | jR=>exact .jR _ _
  | dJ _ i l h=>exact .dJ _ _ _ (hk (by simpa [eB] using hc) h)
  | fA _ i n l h hn=>exact .fA _ _ _ _ (hk (by simpa [eB] using hc) h) hn
  | mp _ i l h=>exact .mp _ _ _ (hk (by simpa [eB] using hc) h)
  | gy _ i h=>exact .gy _ _ (hk (by simpa [eB] using hc) h)
  | sub _ i j l g h hj=>exact .sub _ _ _ _ _ (hk (by simpa [eB] using hc) h) hj
  | bY _ i r off l h hr=>exact .bY _ _ _ _ _ (hk (by simpa [eB] using hc) h) hr
  | own _ i n l h hn hcp=>exact .own _ _ _ _ (hk (by simpa [eB] using hc) h) hn hcp
  | bF _ t l full _ h=>exact .bF _ _ _ _ _ (h.yu _)
  | fD _ aa i h=>exact .fD _ _ _ (hk (by simpa [eB] using hc) h)
  | bz _ i l h hcp=>exact .bz _ _ _ (hk (by simpa [eB] using hc) h) hcp
  | eZ _ aa i h=>exact .eZ _ _ _ (hk (by simpa [eB] using hc) h)
  | tail _ aa i lo n cp hn h=>exact .tail _ _ _ _ _ _ hn fun h0=>let ⟨l,h1,h2⟩:=h h0; ⟨l,hk (by simpa [eB] using hc) h1,h2⟩
  | agg _ vs cs hl h1 h =>
   simp only [eB] at hc
   exact .agg _ _ _ hl h1 fun i hi=>ih (h i hi) (wB hc i hi)
  | bN _ vs cs hl h =>
   simp only [eB] at hc
   exact .bN _ _ _ hl fun i hi=>ih (h i hi) (wB hc i hi)
  | iq _ b o n cs g hs hn hl hc' h =>
   simp only [eB] at hc
   exact .iq _ _ _ _ _ g hs hn hl hc' fun j hj=>ih (h j hj) (wB hc j hj)
  | iM _ b o i cs g hs hi hc' h =>
   simp only [eB] at hc
   exact .iM _ _ _ _ _ g hs hi hc' fun j hj=>ih (h j hj) (wB hc j hj)
  | fn _ ff fs cs as1 bs hl hl' h1 h1' h h' =>
   simp only [eB] at hc
   split at hc
   ·rename_i hc1
    exact .fn _ _ _ _ _ _ hl hl' h1 h1' (fun i hi=>ih (h i hi) (wB hc1 i hi)) (fun i hi=>ih (h' i hi) (wB hc i hi))
   ·cases hc
  | undef=>exact .undef _ _
  | int _ k n h=>exact .int _ _ _ h
  | bool=>exact .bool _ _
  | str _ s h=>exact .str _ _ h
  | dG=>exact .dG _
  | bS _ b o n c f hs hc' h=>exact .bS _ _ _ _ _ _ hs hc' h
  | slice _ b o sz n cap full c f hs hn hcap hf hc' h=>exact .slice _ _ _ _ _ _ _ _ _ hs hn hcap hf hc' h
  | dL _ a cap sz full c hcap hf=>exact .dL _ _ _ _ _ _ hcap hf
  | bR=>exact .bR _
  | emp=>exact .emp _ _
  | bu=>exact .bu _
  | mv _ b es ck t u x hs hg hl h1 h2 hok=>exact .mv _ _ _ _ _ _ _ hs hg hl h1 h2 hok
  | iL=>exact .iL _
  | dZ=>exact .dZ _
  | gM=>exact .gM _
  | iw _ vs cs hl h0 h=>exact .iw _ _ _ hl h0 h
  | eU _ id fs cs as0 bs hl0 hl h0 h=>exact .eU _ _ _ _ _ _ hl0 hl h0 h
  | eG _ b n h=>exact .eG _ _ _ h
  | iN=>exact .iN _ _
theorem Lt {k:Nat} {l:List AV} (h:qm k l=true) {i:Nat} (hi:i<au l):eB k 4 (nth l i)=true:=by
 induction l generalizing i with
 | nil=>simp [au] at hi
 | cons a l ih =>
  simp only [qm] at h
  split at h
  ·cases i with
   | zero=>assumption
   | succ i=>exact ih h (by simp [au] at hi; omega)
  ·cases h
theorem Lu {k:Nat} {M:Mem} (h:oH k M=true) {i:Nat} {e:TypeId} {cs:List AV} (hb:blk M i = .cells e cs):qm k cs=true:=by
 induction M generalizing i with
 | nil=>cases hb
 | cons B M ih =>
  cases i with
  | zero =>
   simp only [blk] at hb; subst hb
   simp only [oH] at h
   split at h
   ·assumption
   ·cases h
  | succ i =>
   refine ih ?_ hb
   cases B with
   | cells e' cs' =>
    simp only [oH] at h
    split at h
    ·exact h
    ·cases h
   | _=>exact h
theorem bZ.take {k:Nat} {l:Option Loc} {B:bT} (h:bZ w S m l B) (hc:∀ e cs,B = .cells e cs->qm k cs=true):bZ w S (m.take k) l B:=by
 cases B with
 | cells e cs =>
  cases l with
  | none=>exact h
  | some l=>obtain ⟨vs,h1,h2,h3,h4⟩:=h; exact ⟨vs,h1,h2,h3,fun i hi=>(h4 i hi).take 4 (Lt (hc e cs rfl) hi)⟩
 | rows=>cases l <;> exact h
 | bC=>cases l <;> exact h
 | arr=>cases l <;> exact h
 | map=>cases l <;> exact h
 | dV=>cases l <;> exact h
 | dW=>cases l <;> exact h
 | dz=>cases l <;> exact h
 | dead=>cases l <;> trivial
theorem aV.take {k:Nat} {M:Mem} (h:aV base w S m M) (hk:k<=aB M) (hp:∀ i l,base.pin i=some l->i<k) (hc:∀ i e cs,blk (nJ k M) i = .cells e cs->qm k cs=true):aV base w S (m.take k) (nJ k M):=by
 have hml:(m.take k).length=k:=by rw [List.length_take,h.len]; omega
 have hs:∀ {i:Nat} {l:Option Loc},(m.take k)[i]? = some l->i<k/\m[i]? = some l:=fun {i l} h'=>by
  have hlt:i<k:=by have:=(List.getElem?_eq_some_iff.1 h').1; omega
  rw [List.getElem?_take_of_lt hlt] at h'; exact ⟨hlt,h'⟩
 refine ⟨hml.trans (ads hk).symm,h.sb,fun i l hi=>?_,fun i l hi=>h.lt i l (hs hi).2,fun i j l l' hi hj=>h.inj i j l l' (hs hi).2 (hs hj).2,h.fu,h.iO,fun i l hi=>?_,fun i l hi=>(h.ext i l (hs hi).2).to (fun _ _ h=>h) (Nat.le_refl _) (fun _ _ h=>.inl h) fun j l' hj=>.inl ⟨l',(hs hj).2,rfl,.inl rfl⟩⟩
 ·obtain ⟨hlt,hi⟩:=hs hi
  have hcc:=hc i
  rw [Gu hlt] at hcc ⊢
  exact (h.bk i l hi).take (fun e cs he=>hcc e cs he)
 ·obtain ⟨h1,h2⟩:=h.pin i l hi
  have hlt:=hp i l hi
  rw [Gu hlt,List.getElem?_take_of_lt hlt]
  exact ⟨h1,h2⟩
theorem bL.sub {c:Code} {Q:Exit->AS->Prop} {A B:AS} (hs:Sub A B) (h:bL P c Q B):bL P c Q A:=by
 refine ⟨fun base w S m a hM hA=>?_⟩
 have hp:∀ i l,base.pin i=some l->i<B.np:=fun i l hi=>hs.np▸hM.pins i l hi
 have hA':=hA.sub hs.ts.le
 rcases hs.cl with hl | ⟨h1,h2,h3⟩
 ·have hm:=hs.m
  rw [<- hl,adr] at hm
  exact h.jI base w S m a ⟨hM.rel.sub hm,hp⟩ hA'
 ·have h1:=Nat.le_of_ble_eq_true h1
  by_cases hle:aB B.m<=aB A.m
  ·
   have hN:aV base w S (m.take (aB B.m)) B.m:=by
    have hml:(m.take (aB B.m)).length=aB B.m:=by rw [List.length_take,hM.rel.len]; omega
    have hs':∀ {i:Nat} {l:Option Loc},(m.take (aB B.m))[i]? = some l->i<aB B.m/\m[i]? = some l:=fun {i l} h'=>by
     have hlt:i<aB B.m:=by have:=(List.getElem?_eq_some_iff.1 h').1; omega
     rw [List.getElem?_take_of_lt hlt] at h'; exact ⟨hlt,h'⟩
    refine ⟨hml,hM.rel.sb,fun i l hi=>?_,fun i l hi=>hM.rel.lt i l (hs' hi).2,fun i j l l' hi hj=>hM.rel.inj i j l l' (hs' hi).2 (hs' hj).2,hM.rel.fu,hM.rel.iO,fun i l hi=>?_,fun i l hi=>(hM.rel.ext i l (hs' hi).2).to (fun _ _ h=>h) (Nat.le_refl _) (fun _ _ h=>.inl h) fun j l' hj=>.inl ⟨l',(hs' hj).2,rfl,.inl rfl⟩⟩
    ·obtain ⟨hlt,hi⟩:=hs' hi
     have hb:=hs.m.blk i
     rw [Gu hlt] at hb
     exact ((hM.rel.bk i l hi).sub hb).take (fun e cs he=>Lu h3 he)
    ·obtain ⟨q1,q2⟩:=hM.rel.pin i l hi
     have hlt:i<aB B.m:=Nat.lt_of_lt_of_le (hp i l hi) h1
     have hb:=hs.m.blk i
     rw [Gu hlt] at hb
     rw [List.getElem?_take_of_lt hlt]
     exact ⟨q1,hb.cells q2⟩
   refine h.jI base w S _ a ⟨hN,hp⟩ ⟨hA'.1,hA'.2.1,fun t=>?_⟩
   by_cases ht:t<au B.ts
   ·exact (hA'.2.2 t).take 4 (Lt h2 ht)
   ·rw [kW _ _ (by omega)]; exact .undef _ _
  ·have:=hs.m.len
   have e:aB (nJ (aB B.m) A.m)=aB A.m:=by
    rw [Gt,List.take_of_length_le (by rw [<- oh]; omega)]
   omega
def Uu {ι:Type} (B:ι->AS) (C:ι->Prop) (μ:ι->Nat) (i:ι) (Q:Exit->AS->Prop):Exit->AS->Prop :=
 Cq (fun A'=>∃ j,μ j<μ i/\C j/\Sub A' (B j)) Q
theorem Uu.normal {ι:Type} {B:ι->AS} {C:ι->Prop} {μ:ι->Nat} {i:ι} {Q:Exit->AS->Prop} {A':AS} (j:ι) (h1:μ j<μ i) (h2:C j) (h3:Sub A' (B j)):Uu B C μ i Q .normal A':=⟨j,h1,h2,h3⟩
def Gv (P:Program) (c:Code) (Q:Exit->AS->Prop):Nat->AS->Prop
 | 0,_=>False
 | n+1,A=>bL P c (Cq (Gv P c Q n) Q) A
theorem Gv.step {c:Code} {Q:Exit->AS->Prop} {A:AS} {n:Nat} (h:∀ N,N=Cq (Gv P c Q n) Q->bL P c N A):Gv P c Q (n+1) A:=h _ rfl
end Go.aT
namespace Go.aT
open Go Go.RowKit
variable {P:Program} {T:aX} {base:Env} {w:World} {S:Nat->Prop} {m:aY} {M:Mem}
end Go.aT
namespace Go.aT
open Go Go.RowKit
variable {P:Program} {T:aX} {base:Env} {w:World} {S:Nat->Prop} {m:aY} {M:Mem}
def oI (T:aX) (A:AS):List ResultVar->List AV
 | []=>[]
 | r::l=>(iQ T A r).v::oI T A l
def Gw (T:aX) (A:AS):List ResultVar->AV
 | [r]=>(iQ T A r).v
 | rs=>.bN (oI T A rs)
structure Gx (T:aX) (rs:List ResultVar) (np:Nat) (r:R) (A:AS):Prop where
 ks:aG (mr T A rs)
 v:Le (Gw T A rs) r.v
 le:aB r.m<=aB A.m
 m:∀ i,i<aB r.m->(∀ w S m l,bZ w S m l (blk A.m i)->bZ w S m l (blk r.m i))/\(isCells (blk A.m i)=true->isCells (blk r.m i)=true)
 np:np<=aB r.m
 cl:aB A.m=aB r.m\/(eB (aB r.m) 4 r.v=true/\oH (aB r.m) r.m=true)
def Uv (T:aX) (rs:List ResultVar) (np:Nat) (r:R):Exit->AS->Prop
 | .ret,A=>Gx T rs np r A
 | .normal,A=>Gx T rs np r A
 | _,_=>False
theorem Lv (A:AS) (rs:List ResultVar):au (oI T A rs)=rs.length:=by induction rs with | nil=>rfl | cons r rs ih=>simp [oI,au,ih]
theorem adt (A:AS) (rs:List ResultVar) (i:Nat) (hi:i<rs.length):nth (oI T A rs) i=(iQ T A rs[i]).v:=by
 induction rs generalizing i with
 | nil=>simp at hi
 | cons r rs ih=>cases i with
  | zero=>rfl
  | succ i=>simpa [oI,nth] using ih i (by simpa using hi)
def wC (inv:Option Nat):Nat->Mem->Bool
 | _,[]=>true
 | i,B::l=>match isCells B with
  | true=>wC inv (i+1) l
  | false=>match inv with
   | some j=>match hit j i with | true=>wC inv (i+1) l | false=>false
   | none=>false
theorem Uw {inv:Option Nat}:∀ {M:Mem} {s:Nat},wC inv s M=true->∀ i,i<aB M->isCells (blk M i)=true\/∃ j,inv=some j/\hit j (s+i)=true
 | B::l,s,h,i,hi=>by
  simp only [wC] at h
  have next:∀ {i},wC inv (s+1) l=true->i+1<aB (B::l)->isCells (blk (B::l) (i+1))=true\/∃ j,inv=some j/\hit j (s+(i+1))=true:=fun {i} h hi=>by
   have:=Uw h i (by simp [aB] at hi; omega)
   rw [show s+1+i=s+(i+1) by omega] at this
   exact this
  split at h
  ·rename_i hc
   cases i with
   | zero=>exact .inl hc
   | succ i=>exact next h hi
  ·split at h
   ·rename_i j
    split at h
    ·rename_i hj
     cases i with
     | zero=>exact .inr ⟨j,rfl,hj⟩
     | succ i=>exact next h hi
    ·cases h
   ·cases h
theorem nz.of {f : FuncId} {fn : Func} {c : Code} (hT : bG P T) (hf : P.funcs[f]? = some fn) (hb : fn.body = some c) (hname : (fn.name == "runtime.NumGoroutine") = false) {args : List AV} {r : R}
  (hc:wC r.inv 0 M=true) (h:bL P c (Uv T fn.results.toList (aB M) r) ⟨bK args (und (fn.ntmps-au args)),M,aB M⟩):nz P f args M r:=by
 intro Z w S m vs hM hargs
 refine .inl ⟨?_,?_⟩
 ·have hn : ¬ fn.name = "runtime.NumGoroutine" := by simpa using hname
  simp [callFunc,hf,hb,hn]
 let E:Env:=⟨fun g=>Z.Z g\/S g,fun i=>match isCells (blk M i) with | true=>(m[i]?).join | false=>none,fun g hg=>.inl (Z.gz g hg),fun g=>Z.Z g\/S g,fun _ h=>h⟩
 have hE:∀ i l,E.pin i=some l↔isCells (blk M i)=true/\m[i]? = some (some l):=fun i l=>by
  show (match isCells (blk M i) with | true=>(m[i]?).join | false=>none)=some l↔_
  cases hic:isCells (blk M i) with
  | false=>simp
  | true=>simp [Option.join_eq_some_iff]
 have hME:aV E w S m M:=⟨hM.len,hM.sb,hM.bk,fun i l hi=>⟨fun h=>h.elim (hM.lt i l hi).1 (hM.lt i l hi).2.2,(hM.lt i l hi).2⟩,hM.inj,fun b h=>h.elim (hM.fu b) (hM.sb b),hM.iO,fun i l hi=>⟨((hE i l).1 hi).2,((hE i l).1 hi).1⟩,fun i l hi=>have q:=hM.ext i l hi; ⟨q.nd,fun b hb=>have r:=q.out b hb; ⟨fun h=>h.elim r.1 r.2.2,r.2⟩,q.far⟩⟩
 refine TK (old:=E.Z) hf hb ?_
 have hA:iP E.old w S m { tmps:=vs++Array.replicate (fn.ntmps-vs.size) Go.undef,defers:=[] } (bK args (und (fn.ntmps-au args))):=by
  refine ⟨by rw [kY,TQ]; simp [hargs.1],Marks.nil _ _ _,fun t=>?_⟩
  rw [lS]
  simp only [Array.getD_eq_getD_getElem?]
  split
  ·rename_i hlt
   rw [Array.getElem?_append_left (by rw [hargs.1]; exact hlt)]
   have:=hargs.2 t hlt
   simpa using this
  ·rw [TR]; exact .undef _ _
 have hpins:∀ i l,E.pin i=some l->i<aB M:=fun i l hi=>by
  have:=((hE i l).1 hi).2
  rw [<- hM.len]; exact (List.getElem?_eq_some_iff.1 this).1
 refine Code.wp_mono ?_ (h.jI E w S m _ ⟨hME,hpins⟩ hA)
 rintro e a' w₁ ⟨A',S',m',hq,hbel₁,hS,hU,hM₁,hA₁⟩
 have fin:Gx T fn.results.toList (aB M) r A'->∃ S₀,Marks E.old w₁ S₀ a'.defers/\∀ w',Shut E.Z w₁ w'->∃ v,(results fn a'.tmps).run P w' = .ok v w'/\Td Z w S m r (.returned v) w':=by
  intro hr
  refine ⟨S',hA₁.2.1,fun w' hsh=>?_⟩
  have hM':=hM₁.rel.shut hsh
  have hbel:=hbel₁.trans hsh.K9
  have hA':iP E.old w' S' m' { a' with defers:=[] } A'.ts:=⟨hA₁.1,Marks.nil _ _ _,fun t=>(hA₁.2.2 t).shut hsh⟩
  obtain ⟨us,k1,k2,k3⟩:=TN hT hM' hA' fn.results.toList hr.ks
  have hrun:(results fn a'.tmps).run P w' = .ok (if h:us.toArray.size=1 then us.toArray[0] else .tuple us.toArray) w':=by
   unfold results
   rw [Array.mapM_eq_mapM_toList]
   simp only [Sem.run_bind,Sem.run_map,Result.andThen_ok,Sem.run_pure,Result.andThen]
   erw [k1]
  have hraw:Rel w' S' m' (if h:us.toArray.size=1 then us.toArray[0] else .tuple us.toArray) (Gw T A' fn.results.toList):=by
   generalize hrs:fn.results.toList=rs at *
   match rs,us,k2,k3 with
   | [r1],[u],_,k3=>exact k3 0 (by simp) (by simp)
   | [],[],_,_=>exact .bN _ _ _ rfl fun i hi=>absurd hi (Nat.not_lt_zero i)
   | r1::r2::rs,u1::u2::us,k2,k3 =>
    have hne:¬ (u1::u2::us).toArray.size=1:=by simp
    rw [dif_neg hne]
    refine .bN _ _ _ (by show _=au (oI T A' (r1::r2::rs)); rw [Lv]; simpa using k2) fun i hi=>?_
    change i<au (oI T A' (r1::r2::rs)) at hi
    rw [Lv] at hi
    rw [adt _ _ _ hi]
    have hi':i<(u1::u2::us).length:=by rw [k2]; exact hi
    have:=k3 i hi hi'
    have e:(u1::u2::us).toArray.getD i Go.undef=(u1::u2::us)[i]:=by rw [Array.getD_eq_getD_getElem?,List.getElem?_toArray,List.getElem?_eq_getElem hi']; rfl
    rw [e]; exact this
  refine ⟨_,hrun,?_⟩
  have hv:=hr.v _ _ _ _ hraw
  have hloc:∀ i l,isCells (blk M i)=true->m[i]? = some l->m'[i]? = some l:=fun i l hic hi=>by
   have hbk:=hM.bk i l hi
   cases l with
   | none=>revert hbk; cases hB:blk M i <;> rw [hB] at hic <;> simp [isCells,bZ] at hic ⊢
   | some l=>exact (hM'.pin i l ((hE i l).2 ⟨hic,hi⟩)).1
  have hkle:aB r.m<=aB A'.m:=hr.le
  have hlen':(m'.take (aB r.m)).length=aB r.m:=by rw [List.length_take,hM'.len]; omega
  have hlm:∀ (i:Nat) (l:Option Loc),om r.inv i->m[i]? = some l->(m'.take (aB r.m))[i]? = some l:=fun i l hne hi=>by
   have hlt:i<aB M:=by rw [<- hM.len]; exact (List.getElem?_eq_some_iff.1 hi).1
   rw [List.getElem?_take_of_lt (Nat.lt_of_lt_of_le hlt hr.np)]
   rcases Uw hc i hlt with hic | ⟨jx,hjx,hinv⟩
   ·exact hloc i l hic hi
   ·rw [Nat.zero_add,hne jx hjx] at hinv; cases hinv
  have hcl:eB (aB r.m) 4 r.v=true/\oH (aB r.m) r.m=true\/aB A'.m=aB r.m:=hr.cl.symm
  have hvt:Rel w' S' (m'.take (aB r.m)) (if h:us.toArray.size=1 then us.toArray[0] else .tuple us.toArray) r.v:=by
   rcases hcl with ⟨c1,_⟩ | c1
   ·exact hv.take 4 c1
   ·rw [<- c1,<- hM'.len,List.take_length]; exact hv
  refine ⟨_,S',m'.take (aB r.m),rfl,⟨hbel.mono fun _ h=>.inl h,hS,fun b h=>(hU b h).imp id fun h h'=>h (.inl h'),fun b hb=>hbel.block b (.inr hb),fun i l hi hl=>⟨l,hlm i l hi hl,.refl _⟩⟩,?_,hvt⟩
  ·have hs':∀ {i:Nat} {l:Option Loc},(m'.take (aB r.m))[i]? = some l->i<aB r.m/\m'[i]? = some l:=fun {i l} h'=>by
    have hlt:i<aB r.m:=by have:=(List.getElem?_eq_some_iff.1 h').1; omega
    rw [List.getElem?_take_of_lt hlt] at h'; exact ⟨hlt,h'⟩
   refine ⟨hlen',hM'.sb,fun i l hi=>?_,fun i l hi=>have q:=hM'.lt i l (hs' hi).2; ⟨fun h=>q.1 (.inl h),q.2⟩,fun i j l l' hi hj=>hM'.inj i j l l' (hs' hi).2 (hs' hj).2,fun b h=>hM'.fu b (.inl h),hM'.iO,fun i l hi=>?_,fun i l hi=>(hM'.ext i l (hs' hi).2).to (fun b _ h=>.inl h) (Nat.le_refl _) (fun _ _ h=>.inl h) fun j l' hj=>.inl ⟨l',(hs' hj).2,rfl,.inl rfl⟩⟩
   ·obtain ⟨hlt,hi⟩:=hs' hi
    have hB:=(hr.m i hlt).1 _ _ _ _ (hM'.bk i l hi)
    rcases hcl with ⟨_,c1⟩ | c1
    ·exact hB.take (fun e cs he=>Lu c1 he)
    ·rw [<- c1,<- hM'.len,List.take_length]; exact hB
   ·obtain ⟨q1,q2⟩:=hM.pin i l hi
    have hlt:i<aB r.m:=Nat.lt_of_lt_of_le (by rw [<- hM.len]; exact (List.getElem?_eq_some_iff.1 q1).1) hr.np
    obtain ⟨q3,q4⟩:=hM'.pin i l ((hE i l).2 ⟨q2,q1⟩)
    rw [List.getElem?_take_of_lt hlt]
    exact ⟨q3,(hr.m i hlt).2 q4⟩
 cases e with
 | ret=>exact fin hq
 | normal=>exact fin hq
 | exit id=>exact hq.elim
 | goto l=>exact hq.elim
 | panic ch=>exact hq.elim
 | outgrown=>exact hq.elim
end Go.aT
namespace Go.aT
open Go Go.RowKit
variable {P:Program} {T:aX} {base:Env} {w:World} {S:Nat->Prop} {m:aY} {M:Mem}
def cZ:List Nat->Nat->Option Nat
 | [],_=>none
 | a::_,0=>some a
 | _::l,n+1=>cZ l n
theorem yZ (l:List Nat) (i:Nat):cZ l i=l[i]?:=by
 induction l generalizing i with
 | nil=>rfl
 | cons a l ih=>cases i with
  | zero=>rfl
  | succ i=>simpa [cZ] using ih i
def dx (d:AV) (κ:List Nat):Nat->AV->AV
 | _,.ref b o=>match cZ κ b with | some b'=>.ref b' o | none=>d
 | _,.bY b i o=>match cZ κ b with | some b'=>.bY b' i o | none=>d
 | _,.dJ b=>match cZ κ b with | some b'=>.dJ b' | none=>d
 | _,.fA b n=>match cZ κ b with | some b'=>.fA b' n | none=>d
 | _,.mp b=>match cZ κ b with | some b'=>.mp b' | none=>d
 | _,.sub b j=>match cZ κ b with | some b'=>.sub b' j | none=>d
 | _,.own b n=>match cZ κ b with | some b'=>.own b' n | none=>d
 | _,.bz b=>match cZ κ b with | some b'=>.bz b' | none=>d
 | _,.tail b lo n=>match cZ κ b with | some b'=>.tail b' lo n | none=>d
 | 0,.agg _=>d
 | 0,.fn _ _ _=>d
 | 0,.bN _=>d
 | 0,.dN _ _=>d
 | f+1,.agg cs=>.agg (mapA (dx d κ f) cs)
 | f+1,.bN cs=>.bN (mapA (dx d κ f) cs)
 | f+1,.dN i cs=>.dN i (mapA (dx d κ f) cs)
 | f+1,.fn g a c=>.fn g (mapA (dx d κ f) a) (mapA (dx d κ f) c)
 | _,v=>v
def fq:AV:=.int .u8 (-1)
theorem mF {v:Value} (h:Rel w S m v fq):False:=by
 unfold fq at h
 cases h with
 | int _ _ _ h=>exact absurd h (by decide)
def kI (m:aY):List Nat->aY
 | []=>[]
 | j::κ=>(m[j]?).join::kI m κ
theorem Gy {m:aY} {κ:List Nat} {i j:Nat} (h:cZ κ i=some j):(kI m κ)[i]? = some ((m[j]?).join):=by
 induction κ generalizing i with
 | nil=>simp [cZ] at h
 | cons a κ ih=>cases i with
  | zero=>simp [cZ] at h; subst h; rfl
  | succ i=>simpa [kI] using ih (by simpa [cZ] using h)
theorem Ux (m:aY) (κ:List Nat):(kI m κ).length=κ.length:=by induction κ with | nil=>rfl | cons a κ ih=>simp [kI,ih]
theorem Rel.down {κ:List Nat}:∀ (f:Nat) {v:Value} {a:AV},Rel w S m v (dx fq κ f a)->Rel w S (kI m κ) v a:=by
 have key:∀ {b:Nat} {l:Option Loc} {j:Nat},cZ κ b=some j->m[j]? = some l->(kI m κ)[b]? = some l:=fun h h'=>by rw [Gy h,h']; rfl
 have flat:∀ (f:Nat) {v:Value} {a:AV},(∀ cs,a≠.agg cs)->(∀ cs,a≠.bN cs)->(∀ g x y,a≠.fn g x y)->(∀ i cs,a≠.dN i cs)->Rel w S m v (dx fq κ f a)->Rel w S (kI m κ) v a:=by
  intro f v a h1 h2 h3 h4 h
  cases a with
  | ref b o =>
   have h:Rel w S m v (match cZ κ b with | some b'=>.ref b' o | none=>fq):=by cases f <;> exact h
   cases hb:cZ κ b with
   | none=>rw [hb] at h; exact (mF h).elim
   | some j=>rw [hb] at h; cases h with | ref _ _ _ l hq=>exact .ref _ _ _ _ (key hb hq)
  | dJ b =>
   have h:Rel w S m v (match cZ κ b with | some b'=>.dJ b' | none=>fq):=by cases f <;> exact h
   cases hb:cZ κ b with
   | none=>rw [hb] at h; exact (mF h).elim
   | some j=>rw [hb] at h; cases h with
    | jR=>exact .jR _ _
    | dJ _ _ l hq=>exact .dJ _ _ _ (key hb hq)
  | fA b n =>
   have h:Rel w S m v (match cZ κ b with | some b'=>.fA b' n | none=>fq):=by cases f <;> exact h
   cases hb:cZ κ b with
   | none=>rw [hb] at h; exact (mF h).elim
   | some j=>rw [hb] at h; cases h with | fA _ _ _ l hq hn=>exact .fA _ _ _ _ (key hb hq) hn
  | mp b =>
   have h:Rel w S m v (match cZ κ b with | some b'=>.mp b' | none=>fq):=by cases f <;> exact h
   cases hb:cZ κ b with
   | none=>rw [hb] at h; exact (mF h).elim
   | some j=>rw [hb] at h; cases h with
    | mp _ _ l hq=>exact .mp _ _ _ (key hb hq)
    | gy _ _ hq=>exact .gy _ _ (key hb hq)
  | sub b i =>
   have h:Rel w S m v (match cZ κ b with | some b'=>.sub b' i | none=>fq):=by cases f <;> exact h
   cases hb:cZ κ b with
   | none=>rw [hb] at h; exact (mF h).elim
   | some j=>rw [hb] at h; cases h with | sub _ _ _ l g hq hj=>exact .sub _ _ _ _ _ (key hb hq) hj
  | bY b i o =>
   have h:Rel w S m v (match cZ κ b with | some b'=>.bY b' i o | none=>fq):=by cases f <;> exact h
   cases hb:cZ κ b with
   | none=>rw [hb] at h; exact (mF h).elim
   | some j=>rw [hb] at h; cases h with | bY _ _ _ _ l hq hr=>exact .bY _ _ _ _ _ (key hb hq) hr
  | own b n =>
   have h:Rel w S m v (match cZ κ b with | some b'=>.own b' n | none=>fq):=by cases f <;> exact h
   cases hb:cZ κ b with
   | none=>rw [hb] at h; exact (mF h).elim
   | some j=>rw [hb] at h; cases h with
    | own _ _ _ l hq hn hc=>exact .own _ _ _ _ (key hb hq) hn hc
    | eZ _ aa _ hq=>exact .eZ _ _ _ (key hb hq)
  | bz b =>
   have h:Rel w S m v (match cZ κ b with | some b'=>.bz b' | none=>fq):=by cases f <;> exact h
   cases hb:cZ κ b with
   | none=>rw [hb] at h; exact (mF h).elim
   | some j=>rw [hb] at h; cases h with
    | bz _ _ l hq hc=>exact .bz _ _ _ (key hb hq) hc
    | fD _ aa _ hq=>exact .fD _ _ _ (key hb hq)
  | bF t l g =>
   have h:Rel w S m v (.bF t l g):=by cases f <;> exact h
   exact h.out rfl _
  | tail b lo n =>
   have h:Rel w S m v (match cZ κ b with | some b'=>.tail b' lo n | none=>fq):=by cases f <;> exact h
   cases hb:cZ κ b with
   | none=>rw [hb] at h; exact (mF h).elim
   | some j=>rw [hb] at h; cases h with
    | tail _ aa _ _ _ cp hn h=>exact .tail _ _ _ _ _ _ hn fun h0=>let ⟨l,q1,q2⟩:=h h0; ⟨l,key hb q1,q2⟩
  | agg cs=>exact absurd rfl (h1 cs)
  | bN cs=>exact absurd rfl (h2 cs)
  | fn g x y=>exact absurd rfl (h3 g x y)
  | dN i cs=>exact absurd rfl (h4 i cs)
  | undef=>exact .undef _ _
  | int k n =>
   have h:Rel w S m v (.int k n):=by cases f <;> exact h
   cases h; exact .int _ _ _ (by assumption)
  | bool b =>
   have h:Rel w S m v (.bool b):=by cases f <;> exact h
   cases h; exact .bool _ _
  | str s =>
   have h:Rel w S m v (.str s):=by cases f <;> exact h
   exact h.out rfl _
  | dG =>
   have h:Rel w S m v .dG:=by cases f <;> exact h
   exact h.out rfl _
  | bS n c =>
   have h:Rel w S m v (.bS n c):=by cases f <;> exact h
   exact h.out rfl _
  | slice sz n fl c =>
   have h:Rel w S m v (.slice sz n fl c):=by cases f <;> exact h
   exact h.out rfl _
  | bR =>
   have h:Rel w S m v .bR:=by cases f <;> exact h
   exact h.out rfl _
  | emp =>
   have h:Rel w S m v .emp:=by cases f <;> exact h
   exact h.out rfl _
  | bu =>
   have h:Rel w S m v .bu:=by cases f <;> exact h
   exact h.out rfl _
  | mv t u l =>
   have h:Rel w S m v (.mv t u l):=by cases f <;> exact h
   exact h.out rfl _
  | dZ =>
   have h:Rel w S m v .dZ:=by cases f <;> exact h
   exact h.out rfl _
  | gM =>
   have h:Rel w S m v .gM:=by cases f <;> exact h
   exact h.out rfl _
  | sF b vs =>
   have h:Rel w S m v (.sF b vs):=by cases f <;> exact h
   cases h with
   | iw _ us _ hl h0 h=>exact .iw _ _ _ hl h0 h
   | iN=>exact .iN _ _
  | eU id fst cap =>
   have h:Rel w S m v (.eU id fst cap):=by cases f <;> exact h
   exact h.out rfl _
  | eG n =>
   have h:Rel w S m v (.eG n):=by cases f <;> exact h
   cases h with | eG _ b _ h=>exact .eG _ _ _ h
 intro f
 induction f with
 | zero =>
  intro v a h
  cases a with
  | agg cs=>exact (mF h).elim
  | bN cs=>exact (mF h).elim
  | fn g x y=>exact (mF h).elim
  | dN i cs=>exact (mF h).elim
  | _=>exact flat 0 (fun _=>by simp) (fun _=>by simp) (fun _ _ _=>by simp) (fun _ _=>by simp) h
 | succ f ih =>
  intro v a h
  cases a with
  | agg cs =>
   have h:Rel w S m v (.agg (mapA (dx fq κ f) cs)):=h
   cases h with
   | agg _ vs _ hl h1 h =>
    rw [cK] at hl h1 h
    exact .agg _ _ _ hl h1 fun i hi=>ih (by have:=h i hi; rwa [fG _ _ _ hi] at this)
  | bN cs =>
   have h:Rel w S m v (.bN (mapA (dx fq κ f) cs)):=h
   cases h with
   | bN _ vs _ hl h =>
    rw [cK] at hl h
    exact .bN _ _ _ hl fun i hi=>ih (by have:=h i hi; rwa [fG _ _ _ hi] at this)
  | dN i cs =>
   have h:Rel w S m v (.dN i (mapA (dx fq κ f) cs)):=h
   generalize hq:mapA (dx fq κ f) cs=q at h
   cases h with
   | iq _ b o n _ g hs hn hl hc h =>
    subst hq
    rw [cK] at hl hc h
    exact .iq _ _ _ _ _ g hs hn hl hc fun j hj=>ih (by have:=h j hj; rwa [fG _ _ _ hj] at this)
   | iM _ b o i _ g hs hi hc h =>
    subst hq
    rw [cK] at hi hc h
    exact .iM _ _ _ _ _ g hs hi hc fun j hj=>ih (by have:=h j hj; rwa [fG _ _ _ hj] at this)
  | fn g x y =>
   have h:Rel w S m v (.fn g (mapA (dx fq κ f) x) (mapA (dx fq κ f) y)):=h
   cases h with
   | fn _ _ fs cs _ _ hl hl' h1 h1' h h' =>
    rw [cK] at hl hl' h1 h1' h h'
    exact .fn _ _ _ _ _ _ hl hl' h1 h1' (fun i hi=>ih (by have:=h i hi; rwa [fG _ _ _ hi] at this)) (fun i hi=>ih (by have:=h' i hi; rwa [fG _ _ _ hi] at this))
  | _=>exact flat (f+1) (fun _=>by simp) (fun _=>by simp) (fun _ _ _=>by simp) (fun _ _=>by simp) h
theorem Rel.up {κ:List Nat} {m0:aY} (hk:∀ i l,m0[i]? = some l->∃ j,cZ κ i=some j/\m[j]? = some l):∀ (f:Nat) {v:Value} {a:AV},Rel w S m0 v a->Rel w S m v (dx .undef κ f a):=by
 have flat:∀ (f:Nat) {v:Value} {a:AV},(∀ cs,a≠.agg cs)->(∀ cs,a≠.bN cs)->(∀ g x y,a≠.fn g x y)->(∀ i cs,a≠.dN i cs)->Rel w S m0 v a->Rel w S m v (dx .undef κ f a):=by
  intro f v a h1 h2 h3 h4 h
  cases h with
  | ref _ b o l h =>
   obtain ⟨j,q1,q2⟩:=hk _ _ h
   have e:dx .undef κ f (.ref b o) = .ref j o:=by cases f <;> simp [dx,q1]
   rw [e]; exact .ref _ _ _ _ q2
  | jR _ b =>
   cases hb:cZ κ b with
   | none =>
    have e:dx .undef κ f (.dJ b) = .undef:=by cases f <;> simp [dx,hb]
    rw [e]; exact .undef _ _
   | some j =>
    have e:dx .undef κ f (.dJ b) = .dJ j:=by cases f <;> simp [dx,hb]
    rw [e]; exact .jR _ _
  | dJ _ b l h =>
   obtain ⟨j,q1,q2⟩:=hk _ _ h
   have e:dx .undef κ f (.dJ b) = .dJ j:=by cases f <;> simp [dx,q1]
   rw [e]; exact .dJ _ _ _ q2
  | fA _ b n l h hn =>
   obtain ⟨j,q1,q2⟩:=hk _ _ h
   have e:dx .undef κ f (.fA b n) = .fA j n:=by cases f <;> simp [dx,q1]
   rw [e]; exact .fA _ _ _ _ q2 hn
  | mp _ b l h =>
   obtain ⟨j,q1,q2⟩:=hk _ _ h
   have e:dx .undef κ f (.mp b) = .mp j:=by cases f <;> simp [dx,q1]
   rw [e]; exact .mp _ _ _ q2
  | gy _ b h =>
   obtain ⟨j,q1,q2⟩:=hk _ _ h
   have e:dx .undef κ f (.mp b) = .mp j:=by cases f <;> simp [dx,q1]
   rw [e]; exact .gy _ _ q2
  | sub _ b i l g h hj =>
   obtain ⟨j,q1,q2⟩:=hk _ _ h
   have e:dx .undef κ f (.sub b i) = .sub j i:=by cases f <;> simp [dx,q1]
   rw [e]; exact .sub _ _ _ _ _ q2 hj
  | bY _ b i o l h hr =>
   obtain ⟨j,q1,q2⟩:=hk _ _ h
   have e:dx .undef κ f (.bY b i o) = .bY j i o:=by cases f <;> simp [dx,q1]
   rw [e]; exact .bY _ _ _ _ _ q2 hr
  | own _ b n l h hn hc =>
   obtain ⟨j,q1,q2⟩:=hk _ _ h
   have e:dx .undef κ f (.own b n) = .own j n:=by cases f <;> simp [dx,q1]
   rw [e]; exact .own _ _ _ _ q2 hn hc
  | eZ _ aa b h =>
   obtain ⟨j,q1,q2⟩:=hk _ _ h
   have e:dx .undef κ f (.own b 0) = .own j 0:=by cases f <;> simp [dx,q1]
   rw [e]; exact .eZ _ _ _ q2
  | bz _ b l h hc =>
   obtain ⟨j,q1,q2⟩:=hk _ _ h
   have e:dx .undef κ f (.bz b) = .bz j:=by cases f <;> simp [dx,q1]
   rw [e]; exact .bz _ _ _ q2 hc
  | fD _ aa b h =>
   obtain ⟨j,q1,q2⟩:=hk _ _ h
   have e:dx .undef κ f (.bz b) = .bz j:=by cases f <;> simp [dx,q1]
   rw [e]; exact .fD _ _ _ q2
  | bF _ t l g _ h=>exact (by cases f <;> exact .bF _ _ _ _ _ (h.yu _))
  | tail _ aa b lo n cp hn h =>
   by_cases hn0:0<n
   ·obtain ⟨l,p1,p2⟩:=h hn0
    obtain ⟨j,q1,q2⟩:=hk _ _ p1
    have e:dx .undef κ f (.tail b lo n) = .tail j lo n:=by cases f <;> simp [dx,q1]
    rw [e]; exact .tail _ _ _ _ _ _ hn fun _=>⟨l,q2,p2⟩
   ·cases hb:cZ κ b with
    | none =>
     have e:dx .undef κ f (.tail b lo n) = .undef:=by cases f <;> simp [dx,hb]
     rw [e]; exact .undef _ _
    | some j =>
     have e:dx .undef κ f (.tail b lo n) = .tail j lo n:=by cases f <;> simp [dx,hb]
     rw [e]; exact .tail _ _ _ _ _ _ hn fun h=>absurd h hn0
  | agg=>exact absurd rfl (h1 _)
  | bN=>exact absurd rfl (h2 _)
  | fn=>exact absurd rfl (h3 _ _ _)
  | iq=>exact absurd rfl (h4 _ _)
  | iM=>exact absurd rfl (h4 _ _)
  | undef=>exact (by cases f <;> exact .undef _ _)
  | int _ k n h=>exact (by cases f <;> exact .int _ _ _ h)
  | bool=>exact (by cases f <;> exact .bool _ _)
  | str _ s h=>exact (by cases f <;> exact .str _ _ h)
  | dG=>exact (by cases f <;> exact .dG _)
  | bS _ b o n c g hs hc h=>exact (by cases f <;> exact .bS _ _ _ _ _ _ hs hc h)
  | slice _ b o sz n cap full c g hs hn hcap hf hc h=>exact (by cases f <;> exact .slice _ _ _ _ _ _ _ _ _ hs hn hcap hf hc h)
  | dL _ a cap sz full c hcap hf=>exact (by cases f <;> exact .dL _ _ _ _ _ _ hcap hf)
  | bR=>exact (by cases f <;> exact .bR _)
  | emp=>exact (by cases f <;> exact .emp _ _)
  | bu=>exact (by cases f <;> exact .bu _)
  | mv _ b es ck t u x hs hg hl hr1 hr2 hok=>exact (by cases f <;> exact .mv _ _ _ _ _ _ _ hs hg hl hr1 hr2 hok)
  | iL=>exact (by cases f <;> exact .iL _)
  | dZ=>exact (by cases f <;> exact .dZ _)
  | gM=>exact (by cases f <;> exact .gM _)
  | iw _ vs cs hl h0 h=>exact (by cases f <;> exact .iw _ _ _ hl h0 h)
  | eU _ id fs cs as0 bs hl0 hl h0 h=>exact (by cases f <;> exact .eU _ _ _ _ _ _ hl0 hl h0 h)
  | eG _ b n h=>exact (by cases f <;> exact .eG _ _ _ h)
  | iN=>exact (by cases f <;> exact .iN _ _)
 intro f
 induction f with
 | zero =>
  intro v a h
  cases a with
  | agg cs=>exact .undef _ _
  | bN cs=>exact .undef _ _
  | fn g x y=>exact .undef _ _
  | dN i cs=>exact .undef _ _
  | _=>exact flat 0 (fun _=>by simp) (fun _=>by simp) (fun _ _ _=>by simp) (fun _ _=>by simp) h
 | succ f ih =>
  intro v a h
  cases a with
  | agg cs =>
   cases h with
   | agg _ vs _ hl h1 h =>
    exact .agg _ _ _ (by rw [cK]; exact hl) (fun i hi=>h1 i (by rwa [cK] at hi)) fun i hi=>by rw [cK] at hi; rw [fG _ _ _ hi]; exact ih (h i hi)
  | bN cs =>
   cases h with
   | bN _ vs _ hl h =>
    exact .bN _ _ _ (by rw [cK]; exact hl) fun i hi=>by rw [cK] at hi; rw [fG _ _ _ hi]; exact ih (h i hi)
  | dN i cs =>
   cases h with
   | iq _ b o n _ g hs hn hl hc h =>
    exact .iq _ _ _ _ _ g hs hn (by rw [cK]; exact hl) (fun j hj=>hc j (by rwa [cK] at hj)) fun j hj=>by rw [cK] at hj; rw [fG _ _ _ hj]; exact ih (h j hj)
   | iM _ b o i _ g hs hi hc h =>
    exact .iM _ _ _ _ _ g hs (by rw [cK]; exact hi) (fun j hj=>hc j (by rwa [cK] at hj)) fun j hj=>by rw [cK] at hj; rw [fG _ _ _ hj]; exact ih (h j hj)
  | fn g x y =>
   cases h with
   | fn _ _ fs cs _ _ hl hl' h1 h1' h h' =>
    exact .fn _ _ _ _ _ _ (by rw [cK]; exact hl) (by rw [cK]; exact hl') (fun i hi=>h1 i (by rwa [cK] at hi)) (fun i hi=>h1' i (by rwa [cK] at hi))
     (fun i hi=>by rw [cK] at hi; rw [fG _ _ _ hi]; exact ih (h i hi)) (fun i hi=>by rw [cK] at hi; rw [fG _ _ _ hi]; exact ih (h' i hi))
  | _=>exact flat (f+1) (fun _=>by simp) (fun _=>by simp) (fun _ _ _=>by simp) (fun _ _=>by simp) h
def oJ (d:AV) (κ:List Nat):bT->bT
 | .cells e cs=>.cells e (mapA (dx d κ 3) cs)
 | B=>B
theorem Uy (d:AV) (κ:List Nat) (B:bT):isCells (oJ d κ B)=isCells B:=by cases B <;> rfl
theorem bZ.down {κ:List Nat} {l:Option Loc} {B:bT} (h:bZ w S m l (oJ fq κ B)):bZ w S (kI m κ) l B:=by
 cases B with
 | cells e cs =>
  cases l with
  | none=>exact h
  | some l =>
   obtain ⟨vs,h1,h2,h3,h4⟩:=h
   rw [cK] at h2 h3 h4
   exact ⟨vs,h1,h2,h3,fun i hi=>by have:=h4 i hi; rw [fG _ _ _ hi] at this; exact this.down 3⟩
 | rows=>cases l <;> exact h
 | bC=>cases l <;> exact h
 | arr=>cases l <;> exact h
 | map=>cases l <;> exact h
 | dV=>cases l <;> exact h
 | dW=>cases l <;> exact h
 | dz=>cases l <;> exact h
 | dead=>cases l <;> trivial
theorem bZ.up {κ:List Nat} {m0:aY} (hk:∀ i l,m0[i]? = some l->∃ j,cZ κ i=some j/\m[j]? = some l) {l:Option Loc} {B:bT} (h:bZ w S m0 l B):bZ w S m l (oJ .undef κ B):=by
 cases B with
 | cells e cs =>
  cases l with
  | none=>exact h
  | some l =>
   obtain ⟨vs,h1,h2,h3,h4⟩:=h
   exact ⟨vs,h1,by rw [cK]; exact h2,fun i hi=>h3 i (by rwa [cK] at hi),fun i hi=>by rw [cK] at hi; rw [fG _ _ _ hi]; exact (h4 i hi).up hk 3⟩
 | rows=>cases l <;> exact h
 | bC=>cases l <;> exact h
 | arr=>cases l <;> exact h
 | map=>cases l <;> exact h
 | dV=>cases l <;> exact h
 | dW=>cases l <;> exact h
 | dz=>cases l <;> exact h
 | dead=>cases l <;> trivial
end Go.aT
namespace Go.aT
open Go Go.RowKit
variable {P:Program} {T:aX} {base:Env} {w:World} {S:Nat->Prop} {m:aY} {M:Mem}
def ja (m:aY):List Nat->aY->aY
 | j::κ,l::k=>ja (m.set j l) κ k
 | _,k=>m++k
def setMs (M:Mem):List Nat->Mem->Mem
 | j::κ,B::k=>setMs (dA M j B) κ k
 | _,[]=>M
 | [],B::k=>setMs (fI M B) [] k
def za (n:Nat):Nat->List Nat
 | 0=>[]
 | k+1=>n::za (n+1) k
theorem Uz:∀ (k n i:Nat),i<k->cZ (za n k) i=some (n+i)
 | k+1,n,0,_=>rfl
 | k+1,n,i+1,h=>by
  show cZ (za (n+1) k) i=_
  rw [Uz k (n+1) i (by omega)]; congr 1; omega
theorem adu (m k:aY):ja m [] k=m++k:=by unfold ja; rfl
def rz:List Nat->List Nat->List Nat
 | [],l=>l
 | a::k,l=>a::rz k l
theorem UA (k l:List Nat):rz k l=k++l:=by induction k with | nil=>rfl | cons a k ih=>simp [rz,ih]
theorem adv:∀ (κ:List Nat) (m k:aY),κ.Nodup->(∀ j∈κ,j<m.length)->κ.length<=k.length ->
  (ja m κ k).length=m.length+(k.length-κ.length) /\
  (∀ i j:Nat,κ[i]? = some j->(ja m κ k)[j]? = k[i]?)/\(∀ j:Nat,j<m.length->j ∉ κ->(ja m κ k)[j]? = m[j]?)/\(∀ i:Nat,κ.length<=i->(ja m κ k)[m.length+(i-κ.length)]? = k[i]?):=by
 intro κ
 induction κ with
 | nil =>
  intro m k _ _ _
  rw [adu]
  refine ⟨by simp,fun i j h=>by simp at h,fun j hj _=>List.getElem?_append_left hj,fun i _=>?_⟩
  rw [List.getElem?_append_right (by simp)]; simp
 | cons a κ ih =>
  intro m k hnd hlt hlen
  cases k with
  | nil=>simp at hlen
  | cons l k =>
   rw [List.nodup_cons] at hnd
   have ha:=hlt a (by simp)
   obtain ⟨q0,q1,q2,q3⟩:=ih (m.set a l) k hnd.2 (fun j hj=>by rw [List.length_set]; exact hlt j (by simp [hj])) (by simpa using hlen)
   rw [List.length_set] at q0 q2 q3
   refine ⟨by rw [ja,q0]; simp,fun i j hi=>?_,fun j hj hn=>?_,fun i hi=>?_⟩
   ·cases i with
    | zero =>
     simp at hi; subst hi
     rw [ja,q2 a ha hnd.1,List.getElem?_set_self ha]; rfl
    | succ i=>rw [ja,q1 i j (by simpa using hi)]; simp
   ·simp at hn
    rw [ja,q2 j hj hn.2,List.getElem?_set_ne (fun e=>hn.1 e.symm)]
   ·cases i with
    | zero=>simp at hi
    | succ i =>
     have:=q3 i (by simpa using hi)
     simp only [List.length_cons,ja,Nat.add_sub_add_right,List.getElem?_cons_succ]
     exact this
theorem UB:∀ (κ:List Nat) (M k:Mem),κ.Nodup->(∀ j∈κ,j<aB M)->κ.length<=aB k ->
  aB (setMs M κ k)=aB M+(aB k-κ.length) /\
  (∀ i j:Nat,κ[i]? = some j->blk (setMs M κ k) j=blk k i)/\(∀ j:Nat,j<aB M->j ∉ κ->blk (setMs M κ k) j=blk M j)/\(∀ i,κ.length<=i->i<aB k->blk (setMs M κ k) (aB M+(i-κ.length))=blk k i):=by
 intro κ
 induction κ with
 | nil =>
  intro M k
  induction k generalizing M with
  | nil=>intro _ _ _; exact ⟨by simp [setMs,aB],fun i j h=>by simp at h,fun _ _ _=>rfl,fun i _ h=>by simp [aB] at h⟩
  | cons B k ih =>
   intro hnd hlt hlen
   obtain ⟨q0,q1,q2,q3⟩:=ih (fI M B) hnd (fun j hj=>by simp at hj) (by simp)
   rw [vN] at q0 q2 q3
   refine ⟨by simp only [setMs,q0,aB,List.length_nil]; omega,fun i j h=>by simp at h,fun j hj hn=>?_,fun i _ hi=>?_⟩
   ·rw [setMs,q2 j (by omega) hn,jy,if_neg (by omega)]
   ·cases i with
    | zero =>
     rw [setMs]
     simp only [List.length_nil,Nat.sub_zero,Nat.add_zero]
     rw [q2 (aB M) (by omega) (by simp),jy,if_pos rfl]; rfl
    | succ i =>
     have:=q3 i (by simp) (by simp [aB] at hi; omega)
     simp only [List.length_nil,Nat.sub_zero,setMs] at this ⊢
     rw [show aB M+(i+1)=aB M+1+i by omega]
     exact this
 | cons a κ ih =>
  intro M k hnd hlt hlen
  cases k with
  | nil=>simp [aB] at hlen
  | cons B k =>
   rw [List.nodup_cons] at hnd
   have ha:=hlt a (by simp)
   obtain ⟨q0,q1,q2,q3⟩:=ih (dA M a B) k hnd.2 (fun j hj=>by rw [kG]; exact hlt j (by simp [hj])) (by simpa [aB] using hlen)
   rw [kG] at q0 q2 q3
   refine ⟨by rw [setMs,q0]; simp [aB],fun i j hi=>?_,fun j hj hn=>?_,fun i hi hi'=>?_⟩
   ·cases i with
    | zero =>
     simp at hi; subst hi
     rw [setMs,q2 a ha hnd.1,gF,if_pos ⟨rfl,ha⟩]; rfl
    | succ i=>rw [setMs,q1 i j (by simpa using hi)]; rfl
   ·simp at hn
    rw [setMs,q2 j hj hn.2,gF,if_neg (fun e=>hn.1 e.1.symm)]
   ·cases i with
    | zero=>simp at hi
    | succ i =>
     have:=q3 i (by simpa using hi) (by simp [aB] at hi'; omega)
     simp only [List.length_cons,setMs,Nat.add_sub_add_right]
     exact this
def mapM' (f:bT->bT):Mem->Mem
 | []=>[]
 | B::l=>f B::mapM' f l
theorem UC (f:bT->bT) (l:Mem):aB (mapM' f l)=aB l:=by induction l with | nil=>rfl | cons a l ih=>simp [mapM',aB,ih]
theorem Lx (f:bT->bT) (l:Mem) (i:Nat) (hi:i<aB l):blk (mapM' f l) i=f (blk l i):=by
 induction l generalizing i with
 | nil=>simp [aB] at hi
 | cons a l ih=>cases i with
  | zero=>rfl
  | succ i=>exact ih i (by simp [aB] at hi; omega)
def oK:List Nat->Nat->Nat
 | [],_=>0
 | j::κ,k=>match Nat.testBit k 0 with
  | true=>Nat.lor (Nat.pow 2 j) (oK κ (Nat.div k 2))
  | false=>oK κ (Nat.div k 2)
def zb:Option Nat->Nat
 | some j=>Nat.pow 2 j
 | none=>0
def qo (κ:List Nat):Option Nat->Option Nat
 | none=>none
 | some x=>match Nat.ble 1000000 x with
  | true=>some (Nat.add 1000000 (Nat.lor (oK κ (Nat.sub x 1000000)) (zb (cZ κ x))))
  | false=>cZ κ x
theorem UD {a b i:Nat} (h:Nat.testBit a i=true):Nat.testBit (Nat.lor a b) i=true:=by
 show Nat.testBit (a ||| b) i=true
 rw [Nat.testBit_or,h]; rfl
theorem UE {a b i:Nat} (h:Nat.testBit b i=true):Nat.testBit (Nat.lor a b) i=true:=by
 show Nat.testBit (a ||| b) i=true
 rw [Nat.testBit_or,h,Bool.or_true]
theorem UF (i:Nat):Nat.testBit (Nat.pow 2 i) i=true:=Nat.testBit_two_pow_self
theorem UG:∀ {κ:List Nat} {k t j:Nat},κ[t]? = some j->Nat.testBit k t=true->Nat.testBit (oK κ k) j=true
 | i::κ,k,0,j,h,hb=>by
  cases h
  rw [oK,hb]
  exact UD (UF _)
 | i::κ,k,t+1,j,h,hb=>by
  rw [Nat.testBit_succ] at hb
  have:=UG (κ:=κ) (k:=Nat.div k 2) (t:=t) (j:=j) h hb
  rw [oK]
  split
  ·exact UE this
  ·exact this
theorem adw {κ:List Nat} {inv:Option Nat} {t i:Nat} (h:om (qo κ inv) i) (ht:κ[t]? = some i):om inv t:=by
 rintro x rfl
 simp only [qo] at h
 cases hx:Nat.ble 1000000 x with
 | false =>
  rw [hx] at h
  unfold hit
  cases hxt:Nat.beq x t with
  | false=>simp only [hx]
  | true =>
   have:=Nat.eq_of_beq_eq_true hxt
   subst this
   exact absurd (h i (by rw [<- ht]; exact yZ _ _)) (by rw [Ku]; simp)
 | true =>
  rw [hx] at h
  have h:=h _ rfl
  have hb:Nat.testBit (Nat.lor (oK κ (Nat.sub x 1000000)) (zb (cZ κ x))) i=false:=by
   cases hbb:Nat.testBit (Nat.lor (oK κ (Nat.sub x 1000000)) (zb (cZ κ x))) i with
   | false=>rfl
   | true =>
    rw [<- h]
    unfold hit
    have e1:Nat.ble 1000000 (Nat.add 1000000 (Nat.lor (oK κ (Nat.sub x 1000000)) (zb (cZ κ x))))=true:=Nat.ble_eq_true_of_le (Nat.le_add_right _ _)
    have e2:Nat.sub (Nat.add 1000000 (Nat.lor (oK κ (Nat.sub x 1000000)) (zb (cZ κ x)))) 1000000=Nat.lor (oK κ (Nat.sub x 1000000)) (zb (cZ κ x)):=Nat.add_sub_cancel_left ..
    split
    ·rfl
    ·rw [e1]; simp only; rw [e2,hbb]
  unfold hit
  cases hxt:Nat.beq x t with
  | true =>
   have:=Nat.eq_of_beq_eq_true hxt
   subst this
   rw [show cZ κ x=some i from by rw [yZ]; exact ht] at hb
   rw [UE (by exact UF i)] at hb
   cases hb
  | false =>
   rw [hx]
   cases hbb:Nat.testBit (Nat.sub x 1000000) t with
   | false=>rfl
   | true =>
    rw [UD (UG ht hbb)] at hb
    cases hb
def LA (κ:List Nat) (M M0:Mem) (r:R):R where
 v:=dx .undef (rz κ (za (aB M) (aB r.m-aB M0))) 4 r.v
 m:=setMs (match qo κ r.inv with | some j=>iI j M | none=>M) κ (mapM' (oJ .undef (rz κ (za (aB M) (aB r.m-aB M0)))) r.m)
 ks:=r.ks
 inv:=qo κ r.inv
theorem Via.mono {f:FuncId} {vs:Array Value} {R R':Ending->World->Prop} (h:Via P f vs w R) (hr:∀ e w',R e w'->R' e w'):Via P f vs w R':=by
 rcases h with ⟨h1,h2⟩ | ⟨v,w',h1,h2⟩
 ·exact .inl ⟨h1,h2.mono hr⟩
 ·exact .inr ⟨v,w',h1,hr _ _ h2⟩
theorem nz.frame {f:Nat} {args0 args:List AV} {M0:Mem} {r:R} (h:nz P f args0 M0 r) (hge:aB M0<=aB r.m) (κ:List Nat) (hlen:κ.length=aB M0) (hnd:κ.Nodup)
  (hblk:∀ i j,κ[i]? = some j->j<aB M/\oJ fq κ (blk M0 i)=blk M j) (hargs:args=mapA (dx fq κ 4) args0):nz P f args M (LA κ M M0 r):=by
 intro Z w S m vs hM hr
 subst hargs
 have hnth:∀ i j,cZ κ i=some j↔κ[i]? = some j:=fun i j=>by rw [yZ]
 have hmlen:=hM.len
 let oth:Nat->Prop:=fun g=>∃ i l,m[i]? = some (some l)/\i ∉ κ/\(l.g=g\/g∈l.ext)
 let E:Env:=⟨fun g=>Z.Z g\/S g\/oth g,fun i=>match isCells (blk M0 i) with | true=>((kI m κ)[i]?).join | false=>none,fun g hg=>.inl (Z.gz g hg),fun g=>Z.Z g\/S g\/oth g,fun _ h=>h⟩
 have hE:∀ i l,E.pin i=some l↔isCells (blk M0 i)=true/\(kI m κ)[i]? = some (some l):=fun i l=>by
  show (match isCells (blk M0 i) with | true=>((kI m κ)[i]?).join | false=>none)=some l↔_
  cases hic:isCells (blk M0 i) with
  | false=>simp
  | true=>simp [Option.join_eq_some_iff]
 have hsel:∀ i l,(kI m κ)[i]? = some l->∃ j,κ[i]? = some j/\m[j]? = some l:=fun i l hi=>by
  have hlt:i<κ.length:=by rw [<- Ux m κ]; exact (List.getElem?_eq_some_iff.1 hi).1
  have e:κ[i]? = some κ[i]:=List.getElem?_eq_getElem hlt
  obtain ⟨hj,_⟩:=hblk i _ e
  have hj':κ[i]<m.length:=by rw [hmlen]; exact hj
  refine ⟨_,e,?_⟩
  rw [Gy ((hnth _ _).2 e)] at hi
  rw [List.getElem?_eq_getElem hj'] at hi ⊢
  simpa using hi
 have hM0:aV E w S (kI m κ) M0:=by
  refine ⟨(Ux m κ).trans hlen,hM.sb,fun i l hi=>?_,fun i l hi=>?_,fun i i' l l' hi hi' e=>?_,fun g hg=>?_,hM.iO,fun i l hi=>⟨((hE i l).1 hi).2,((hE i l).1 hi).1⟩,fun i l hi=>?_⟩
  rotate_right
  ·obtain ⟨j,q1,q2⟩:=hsel i _ hi
   have q:=hM.ext j l q2
   refine ⟨q.nd,fun b hb=>⟨?_,(q.out b hb).2.1,(q.out b hb).2.2⟩,fun b hb i2 l2 hi2=>?_⟩
   ·rintro (hz | hs | ⟨i',l',p1,p2,p3⟩)
    ·exact (q.out b hb).1 hz
    ·exact (q.out b hb).2.2 hs
    ·have f:=q.far b hb i' l' p1
     rcases p3 with p3 | p3
     ·exact f.1 p3
     ·exact f.2 (fun e=>p2 (e▸List.mem_of_getElem? q1)) p3
   ·obtain ⟨j2,r1,r2⟩:=hsel i2 _ hi2
    have f:=q.far b hb j2 l2 r2
    refine ⟨f.1,fun hne=>f.2 fun e=>hne ?_⟩
    subst e
    exact (List.getElem?_inj (List.getElem?_eq_some_iff.1 q1).1 hnd).1 (q1.trans r1.symm)
  ·obtain ⟨j,q1,q2⟩:=hsel i l hi
   have:=hM.bk j l q2
   rw [<- (hblk i j q1).2] at this
   exact this.down
  ·obtain ⟨j,q1,q2⟩:=hsel i _ hi
   have q:=hM.lt j l q2
   refine ⟨?_,q.2.1,q.2.2⟩
   rintro (hz | hs | ⟨i',l',p1,p2,p3⟩)
   ·exact q.1 hz
   ·exact q.2.2 hs
   ·rcases p3 with p3 | p3
    ·exact p2 (hM.inj i' j l' l p1 q2 p3▸List.mem_of_getElem? q1)
    ·exact ((hM.ext i' l' p1).far _ p3 j l q2).1 rfl
  ·obtain ⟨j,q1,q2⟩:=hsel i _ hi
   obtain ⟨j',q1',q2'⟩:=hsel i' _ hi'
   have:=hM.inj j j' l l' q2 q2' e
   subst this
   have hi1:i<κ.length:=(List.getElem?_eq_some_iff.1 q1).1
   exact (List.getElem?_inj hi1 hnd).1 (q1.trans q1'.symm)
  ·rcases hg with h | h | ⟨i',l',p1,_,p3⟩
   ·exact hM.fu g h
   ·exact hM.sb g h
   ·rcases p3 with p3 | p3
    ·rw [<- p3]; exact (hM.lt i' l' p1).2.1
    ·exact ((hM.ext i' l' p1).out g p3).2.1
 have hr0:lh w S (kI m κ) vs args0:=by
  refine ⟨by rw [hr.1,cK],fun i hi=>?_⟩
  have:=hr.2 i (by rw [cK]; exact hi)
  rw [fG _ _ _ hi] at this
  exact this.down 4
 refine (h E w S (kI m κ) vs hM0 hr0).mono ?_
 rintro e w' ⟨v,S',m0,he,ht,hm,hv⟩
 have hm0:m0.length=aB r.m:=hm.len
 have hk1:∀ j∈κ,j<m.length:=fun j hj=>by
  obtain ⟨i,hi⟩:=List.getElem?_of_mem hj
  rw [hmlen]; exact (hblk i j hi).1
 obtain ⟨L0,L1,L2,L3⟩:=adv κ m m0 hnd hk1 (by rw [hm0,hlen]; exact hge)
 let κ':List Nat:=rz κ (za (aB M) (aB r.m-aB M0))
 have hκ':∀ i,i<aB r.m->∃ j,cZ κ' i=some j/\(ja m κ m0)[j]? = m0[i]?:=fun i hi=>by
  by_cases hlt:i<κ.length
  ·have e:κ[i]? = some κ[i]:=List.getElem?_eq_getElem hlt
   refine ⟨κ[i],?_,L1 i _ e⟩
   rw [yZ]
   show (rz κ _)[i]? = _
   rw [UA,List.getElem?_append_left hlt]; exact e
  ·have e:cZ κ' i=some (aB M+(i-κ.length)):=by
    rw [yZ]
    show (rz κ _)[i]? = _
    rw [UA,List.getElem?_append_right (by omega),<- yZ]
    exact Uz _ _ _ (by omega)
   refine ⟨_,e,?_⟩
   rw [<- hmlen]; exact L3 i (by omega)
 have hup:∀ i l,m0[i]? = some l->∃ j,cZ κ' i=some j/\(ja m κ m0)[j]? = some l:=fun i l hi=>by
  obtain ⟨j,q1,q2⟩:=hκ' i (by rw [<- hm0]; exact (List.getElem?_eq_some_iff.1 hi).1)
  exact ⟨j,q1,q2.trans hi⟩
 let inv':Option Nat:=qo κ r.inv
 let M1:Mem:=match qo κ r.inv with | some j=>iI j M | none=>M
 have hM1:∀ j,blk M1 j=(match inv' with | some i=>nX i (blk M j) | none=>blk M j)/\aB M1=aB M:=fun j=>by
  show blk (match qo κ r.inv with | some j=>iI j M | none=>M) j=(match qo κ r.inv with | some i=>nX i (blk M j) | none=>blk M j)/\aB (match qo κ r.inv with | some j=>iI j M | none=>M)=aB M
  cases qo κ r.inv with
  | none=>exact ⟨rfl,rfl⟩
  | some i=>exact ⟨vP _ _ _,FQ _ _⟩
 have hlen1:aB M1=aB M:=(hM1 0).2
 obtain ⟨N0,N1,N2,N3⟩:=UB κ M1 (mapM' (oJ .undef κ') r.m) hnd (fun j hj=>by rw [hlen1,<- hmlen]; exact hk1 j hj) (by rw [UC,hlen]; exact hge)
 rw [UC,hlen1] at N0 N3
 rw [hlen1] at N2
 have hfr:(LA κ M M0 r).m=setMs M1 κ (mapM' (oJ .undef κ') r.m):=rfl
 have hlm:∀ (i:Nat) (l:Option Loc),om inv' i->m[i]? = some l->∃ l',(ja m κ m0)[i]? = some l'/\jA l l':=fun i l hne hi=>by
  have hilt:i<m.length:=(List.getElem?_eq_some_iff.1 hi).1
  by_cases hik:i∈κ
  ·obtain ⟨t,htk⟩:=List.getElem?_of_mem hik
   rw [L1 t i htk]
   refine ht.lm t l (adw hne htk) ?_
   rw [Gy ((hnth _ _).2 htk),hi]; rfl
  ·rw [L2 i hilt hik]; exact ⟨l,hi,.refl _⟩
 have hst:∀ g,S g->w'.heap[g]? = w.heap[g]?:=fun g hg=>ht.below.block g (.inr (.inl hg))
 have hoth:∀ i l,m[i]? = some (some l)->i ∉ κ->E.Z l.g:=fun i l hi hn=>.inr (.inr ⟨i,l,hi,hn,.inl rfl⟩)
 have hothx:∀ i l,m[i]? = some (some l)->i ∉ κ->∀ b∈l.ext,E.Z b:=fun i l hi hn b hb=>.inr (.inr ⟨i,l,hi,hn,.inr hb⟩)
 have hplace:∀ j l,(ja m κ m0)[j]? = some l->(∃ i,i<aB r.m/\m0[i]? = some l/\blk (setMs M1 κ (mapM' (oJ .undef κ') r.m)) j=oJ .undef κ' (blk r.m i)/\(i<κ.length->κ[i]? = some j)/\(κ.length<=i->j=m.length+(i-κ.length))) \/
   (j ∉ κ/\m[j]? = some l/\blk (setMs M1 κ (mapM' (oJ .undef κ') r.m)) j=blk M1 j):=fun j l hj=>by
  by_cases hjk:j∈κ
  ·obtain ⟨i,hi⟩:=List.getElem?_of_mem hjk
   have hil:i<κ.length:=(List.getElem?_eq_some_iff.1 hi).1
   have hir:i<aB r.m:=by omega
   refine .inl ⟨i,hir,(L1 i j hi).symm.trans hj,?_,fun _=>hi,fun h=>by omega⟩
   rw [N1 i j hi,Lx _ _ _ hir]
  ·by_cases hjm:j<m.length
   ·exact .inr ⟨hjk,(L2 j hjm hjk).symm.trans hj,N2 j (by rw [<- hmlen]; exact hjm) hjk⟩
   ·have hjl:j<m.length+(m0.length-κ.length):=by rw [<- L0]; exact (List.getElem?_eq_some_iff.1 hj).1
    obtain ⟨i,hi1,hi2,hi3⟩:∃ i,j=m.length+(i-κ.length)/\κ.length<=i/\i<aB r.m:=⟨j-m.length+κ.length,by omega,by omega,by omega⟩
    subst hi1
    refine .inl ⟨i,hi3,(L3 i hi2).symm.trans hj,?_,fun h=>by omega,fun _=>rfl⟩
    have:=N3 i hi2 hi3
    rw [hmlen,this,Lx _ _ _ hi3]
 have hnz:∀ g,¬ E.Z g->¬ Z.Z g:=fun g h h'=>h (.inl h')
 have holdS:∀ g,E.Z g->¬ S g->¬ S' g:=fun g hz hs hs'=>(ht.up g hs').elim hs (fun h=>h hz)
 refine ⟨v,S',ja m κ m0,he,⟨ht.below.mono fun g h=>.inl h,ht.sub,fun g h=>(ht.up g h).imp id (hnz g),hst,hlm⟩,?_,hv.up hup 4⟩
 rw [hfr]
 refine ⟨by rw [L0,N0,hm0,hmlen],hm.sb,fun j l hj=>?_,fun j l hj=>?_,fun i j l l' hi hj e=>?_,fun g hg=>Nat.lt_of_lt_of_le (hM.fu g hg) ht.below.size,hm.iO,fun i l hi=>?_,fun i l hi=>?_⟩
 rotate_right
 ·rcases hplace i _ hi with ⟨t,ht1,ht2,_,ht3,ht4⟩ | ⟨hik,him,_⟩
  ·have q:=hm.ext t l ht2
   refine ⟨q.nd,fun b hb=>⟨hnz _ (q.out b hb).1,(q.out b hb).2⟩,fun b hb j l' hj=>?_⟩
   rcases hplace j _ hj with ⟨t',ht1',ht2',_,ht3',ht4'⟩ | ⟨hjk,hjm,_⟩
   ·have f:=q.far b hb t' l' ht2'
    refine ⟨f.1,fun hne=>f.2 fun e=>hne ?_⟩
    subst e
    by_cases hlt:t<κ.length
    ·have e1:=(ht3 hlt).symm.trans (ht3' hlt); injection e1
    ·rw [ht4 (by omega),ht4' (by omega)]
   ·exact ⟨fun e=>(q.out b hb).1 (e▸hoth j l' hjm hjk),fun _ hx=>(q.out b hb).1 (hothx j l' hjm hjk b hx)⟩
  ·have q:=hM.ext i l him
   have hz:=hothx i l him hik
   refine ⟨q.nd,fun b hb=>⟨(q.out b hb).1,Nat.lt_of_lt_of_le (q.out b hb).2.1 ht.below.size,holdS _ (hz b hb) (q.out b hb).2.2⟩,fun b hb j l' hj=>?_⟩
   rcases hplace j _ hj with ⟨t',_,ht2',_,_,_⟩ | ⟨hjk,hjm,_⟩
   ·exact ⟨fun e=>(hm.lt t' l' ht2').1 (e▸hz b hb),fun _ hx=>((hm.ext t' l' ht2').out b hx).1 (hz b hb)⟩
   ·exact q.far b hb j l' hjm
 ·rcases hplace j l hj with ⟨i,_,hi,hb,_,_⟩ | ⟨hjk,hjm,hb⟩
  ·rw [hb]; exact (hm.bk i l hi).up hup
  ·rw [hb,(hM1 j).1]
   have hB:=hM.bk j l hjm
   have hheap:∀ l₀,l=some l₀->w'.heap[l₀.g]? = w.heap[l₀.g]?:=fun l₀ e=>ht.below.block _ (hoth j l₀ (e▸hjm) hjk)
   have hrel0:∀ v a,Rel w S [] v a->Rel w' S' [] v a:=fun v a hr=>hr.mono ht.sub hst _ (fun _ _ h=>h)
   cases hinv':inv' with
   | none =>
    have hrel:∀ v a,Rel w S m v a->Rel w' S' (ja m κ m0) v a:=fun v a hr=>(hr.mono ht.sub hst m fun _ _ h=>h).longer _ fun i l h=>hlm i l (by rw [hinv']; exact Kz i) h
    cases l with
    | none=>revert hB; cases blk M j <;> exact fun h=>h
    | some l₀ =>
     have hh:=hheap l₀ rfl
     revert hB
     cases blk M j with
     | dead=>exact fun h=>h
     | cells e cs=>rintro ⟨vs,h1,h2,h3,h4⟩; exact ⟨vs,hh.trans h1,h2,h3,fun i hi=>hrel _ _ (h4 i hi)⟩
     | rows e sz n c=>rintro ⟨h0,h1,h2,h3,vs,h4,h5,h6⟩; exact ⟨h0,h1,h2,h3,vs,hh.trans h4,h5,fun i hi j hj=>⟨(h6 i hi j hj).1,hrel0 _ _ (h6 i hi j hj).2⟩⟩
     | bC e ty x=>rintro ⟨h0,h1,h2,h3,vs,h4,h5,h6⟩; exact ⟨h0,h1,h2,h3,vs,hh.trans h4,h5,fun i hi j hj=>⟨(h6 i hi j hj).1,hrel0 _ _ (h6 i hi j hj).2⟩⟩
     | dV e ty x=>rintro ⟨h0,h1,h2,h3,vs,fz,h4,h5,h6⟩; exact ⟨h0,h1,h2,h3,vs,fz,hh.trans h4,h5,fun i hi j hj=>⟨(h6 i hi j hj).1,hrel0 _ _ (h6 i hi j hj).2⟩⟩
     | arr e ty x=>rintro ⟨vs,h4,h5,h6⟩; exact ⟨vs,hh.trans h4,h5,fun i hi=>⟨(h6 i hi).1,hrel0 _ _ (h6 i hi).2⟩⟩
     | map ty uy x=>rintro ⟨es,ck,h4,h5,h6,h7⟩; exact ⟨es,ck,hh.trans h4,h5,fun i hi=>⟨hrel0 _ _ (h6 i hi).1,hrel0 _ _ (h6 i hi).2⟩,h7⟩
     | dW s pos=>rintro ⟨h1,h2⟩; exact ⟨hh.trans h1,h2⟩
     | dz x y=>exact fun hf=>hf.keep ht.sub hst hh fun b hb=>ht.below.block _ (hothx j l₀ hjm hjk b hb)
   | some x =>
    obtain ⟨mX,hX1,hX2⟩:=q8.between (x:=x) (m:=m) (m':=ja m κ m0) fun i l hne h=>hlm i l (by rw [hinv']; intro b e; cases e; exact hne) h
    have hrel:∀ v a,Rel w S m v a->v.oneCell'=true->Rel w' S' (ja m κ m0) v (eT x a):=fun v a hr h1=>(hr.longer _ hX1).yx ht.sub hst hX2 (hr.yz h1)
    show bZ w' S' (ja m κ m0) l (nX x (blk M j))
    cases l with
    | none=>revert hB; cases blk M j <;> exact fun h=>h
    | some l₀ =>
     have hh:=hheap l₀ rfl
     revert hB
     cases blk M j with
     | dead=>exact fun h=>h
     | cells e cs =>
      rintro ⟨vs,h1,h2,h3,h4⟩
      refine ⟨vs,hh.trans h1,by rw [kZ]; exact h2,fun i hi=>h3 i (by rwa [kZ] at hi),fun i hi=>?_⟩
      rw [kZ] at hi
      rw [BU]; exact hrel _ _ (h4 i hi) (h3 i hi)
     | rows e sz n c=>rintro ⟨h0,h1,h2,h3,vs,h4,h5,h6⟩; exact ⟨h0,h1,h2,h3,vs,hh.trans h4,h5,fun i hi j hj=>⟨(h6 i hi j hj).1,hrel0 _ _ (h6 i hi j hj).2⟩⟩
     | bC e ty x=>rintro ⟨h0,h1,h2,h3,vs,h4,h5,h6⟩; exact ⟨h0,h1,h2,h3,vs,hh.trans h4,h5,fun i hi j hj=>⟨(h6 i hi j hj).1,hrel0 _ _ (h6 i hi j hj).2⟩⟩
     | dV e ty x=>rintro ⟨h0,h1,h2,h3,vs,fz,h4,h5,h6⟩; exact ⟨h0,h1,h2,h3,vs,fz,hh.trans h4,h5,fun i hi j hj=>⟨(h6 i hi j hj).1,hrel0 _ _ (h6 i hi j hj).2⟩⟩
     | arr e ty x=>rintro ⟨vs,h4,h5,h6⟩; exact ⟨vs,hh.trans h4,h5,fun i hi=>⟨(h6 i hi).1,hrel0 _ _ (h6 i hi).2⟩⟩
     | map ty uy x=>rintro ⟨es,ck,h4,h5,h6,h7⟩; exact ⟨es,ck,hh.trans h4,h5,fun i hi=>⟨hrel0 _ _ (h6 i hi).1,hrel0 _ _ (h6 i hi).2⟩,h7⟩
     | dW s pos=>rintro ⟨h1,h2⟩; exact ⟨hh.trans h1,h2⟩
     | dz x y=>exact fun hf=>hf.keep ht.sub hst hh fun b hb=>ht.below.block _ (hothx j l₀ hjm hjk b hb)
 ·rcases hplace j _ hj with ⟨i,_,hi,_,_,_⟩ | ⟨hjk,hjm,_⟩
  ·have q:=hm.lt i l hi
   exact ⟨hnz _ q.1,q.2⟩
  ·have q:=hM.lt j l hjm
   exact ⟨q.1,Nat.lt_of_lt_of_le q.2.1 ht.below.size,holdS _ (hoth j l hjm hjk) q.2.2⟩
 ·rcases hplace i _ hi with ⟨t,ht1,ht2,_,ht3,ht4⟩ | ⟨hik,him,_⟩ <;> rcases hplace j _ hj with ⟨t',ht1',ht2',_,ht3',ht4'⟩ | ⟨hjk,hjm,_⟩
  ·have:=hm.inj t t' l l' ht2 ht2' e
   subst this
   by_cases hlt:t<κ.length
   ·have e1:=(ht3 hlt).symm.trans (ht3' hlt); injection e1
   ·rw [ht4 (by omega),ht4' (by omega)]
  ·exact absurd (e▸hoth j l' hjm hjk) (hm.lt t l ht2).1
  ·exact absurd (e▸hoth i l him hik) (hm.lt t' l' ht2').1
  ·exact hM.inj i j l l' him hjm e
 ·obtain ⟨q1,q2⟩:=hM.pin i l hi
  have hilt:i<m.length:=(List.getElem?_eq_some_iff.1 q1).1
  by_cases hik:i∈κ
  ·obtain ⟨t,htk⟩:=List.getElem?_of_mem hik
   have htl:t<κ.length:=(List.getElem?_eq_some_iff.1 htk).1
   have hic:isCells (blk M0 t)=true:=by
    have:=(hblk t i htk).2
    rw [<- Uy fq κ,this]; exact q2
   obtain ⟨p1,p2⟩:=hm.pin t l ((hE t l).2 ⟨hic,by rw [Gy ((hnth _ _).2 htk),q1]; rfl⟩)
   refine ⟨(L1 t i htk).trans p1,?_⟩
   rw [N1 t i htk,Lx _ _ _ (by omega),Uy]; exact p2
  ·refine ⟨(L2 i hilt hik).trans q1,?_⟩
   rw [N2 i (by rw [<- hmlen]; exact hilt) hik,(hM1 i).1]
   cases inv' with
   | none=>exact q2
   | some x=>show isCells (nX x (blk M i))=true; rw [KA]; exact q2
end Go.aT
namespace Go.aT
open Go Go.RowKit
def SG (S:Nat->Prop) (ol:Option Loc) (g:Nat):Prop:=S g\/∃ l,ol=some l/\g=l.g
variable {P:Program} {T:aX} {base:Env} {w:World} {S:Nat->Prop} {m:aY} {M:Mem}
def iC (b:Nat) (B:bT):AV->AV
 | .ref b' o=>match Nat.beq b b',B with
  | true,.cells _ cs=>.bS (au cs-o) (fun j=>nth cs (o+j))
  | true,_=>.undef
  | false,_=>.ref b' o
 | .own b' n=>match Nat.beq b b',B with
  | true,.rows _ sz _ c=>.slice sz n false c
  | true,.bC _ u l=>.bF u (l.take n) false
  | true,_=>.undef
  | false,_=>.own b' n
 | .bY b' i o=>match Nat.beq b b' with | true=>.undef | false=>.bY b' i o
 | .dJ b'=>match Nat.beq b b' with | true=>.undef | false=>.dJ b'
 | .fA b' n=>match Nat.beq b b' with | true=>.undef | false=>.fA b' n
 | .mp b'=>match Nat.beq b b',B with
  | true,.map t u l=>.mv t u l
  | true,_=>.undef
  | false,_=>.mp b'
 | .sub b' j=>match Nat.beq b b' with | true=>.undef | false=>.sub b' j
 | .bz b'=>match Nat.beq b b',B with
  | true,.bC _ u l=>.bF u l false
  | true,_=>.undef
  | false,_=>.bz b'
 | .tail b' lo n=>match Nat.beq b b',B with
  | true,.bC _ u l=>.bF u ((l.drop lo).take n) false
  | true,_=>.undef
  | false,_=>.tail b' lo n
 | .agg _=>.undef
 | .fn _ _ _=>.undef
 | .bN _=>.undef
 | .dN _ _=>.undef
 | v=>v
def gP (b:Nat) (B:bT):AV->AV
 | .agg cs=>.agg (mapA (iC b B) cs)
 | .fn f x y=>.fn f (mapA (iC b B) x) (mapA (iC b B) y)
 | .bN _=>.undef
 | v=>iC b B v
def UH (b:Nat) (B:bT):bT->bT
 | .cells e cs=>.cells e (mapA (gP b B) cs)
 | x=>x
def wD (b:Nat) (B:bT):Mem->Mem
 | []=>[]
 | x::l=>UH b B x::wD b B l
theorem adx (b:Nat) (B:bT) (l:Mem):aB (wD b B l)=aB l:=by induction l with | nil=>rfl | cons a l ih=>simp [wD,aB,ih]
theorem UI (b:Nat) (B:bT) (l:Mem) (i:Nat):blk (wD b B l) i=UH b B (blk l i):=by
 induction l generalizing i with
 | nil=>rfl
 | cons a l ih=>cases i with
  | zero=>rfl
  | succ i=>exact ih i
def CK:bT->Bool
 | .cells _ cs=>jl cs
 | .rows _ _ _ _=>true
 | .bC _ _ _=>true
 | .map _ _ _=>true
 | _=>false
theorem Rel.iC {b:Nat} {ol:Option Loc} {B:bT} (hm:m[b]? = some ol) (hB:bZ w S m ol B) (hp:CK B=true) {v:Value} {a:AV} (h:Rel w S m v a) :
  Rel w (SG S ol) (m.set b none) v (aT.iC b B a):=by
 have hS:∀ g,S g->SG S ol g:=fun _ h=>.inl h
 have hset:∀ {i:Nat} {x:Option Loc},b≠i->m[i]? = some x->(m.set b none)[i]? = some x:=fun hne h=>by rw [List.getElem?_set_ne hne]; exact h
 cases h with
 | ref _ i off l' h =>
  simp only [aT.iC]
  by_cases e:b=i
  ·subst e
   rw [Nat.beq_refl]
   rw [hm] at h; injection h with h; subst h
   cases B with
   | cells ee cs =>
    obtain ⟨vs,h1,h2,h3,h4⟩:=hB
    refine .bS _ _ _ _ _ (fun j=>vs.getD (off+j) Go.undef) (.inr ⟨_,rfl,rfl⟩) (fun j hj=>⟨iB h1 (by omega),h3 _ (by omega)⟩) (fun j hj=>?_)
    exact ((h4 (off+j) (by omega)).out (ow hp (by omega)) []).mono hS (fun _ _=>rfl) _ (fun _ _ h=>h)
   | _=>exact .undef _ _
  ·rw [jT e]; exact .ref _ _ _ _ (hset e h)
 | jR _ i =>
  simp only [aT.iC]
  split
  ·exact .undef _ _
  ·exact .jR _ _
 | dJ _ i l' h =>
  simp only [aT.iC]
  by_cases e:b=i
  ·subst e; rw [Nat.beq_refl]; exact .undef _ _
  ·rw [jT e]; exact .dJ _ _ _ (hset e h)
 | fA _ i n l' h hn =>
  simp only [aT.iC]
  by_cases e:b=i
  ·subst e; rw [Nat.beq_refl]; exact .undef _ _
  ·rw [jT e]; exact .fA _ _ _ _ (hset e h) hn
 | mp _ i l' h =>
  simp only [aT.iC]
  by_cases e:b=i
  ·subst e
   rw [Nat.beq_refl]
   rw [hm] at h; injection h with h; subst h
   cases B with
   | map t u x =>
    obtain ⟨es,ck,q1,q2,q3,q4⟩:=hB
    exact .mv _ _ es ck _ _ _ (.inr ⟨_,rfl,rfl⟩) q1 q2 (fun i hi=>(q3 i hi).1.mono hS (fun _ _=>rfl) _ (fun _ _ h=>h)) (fun i hi=>(q3 i hi).2.mono hS (fun _ _=>rfl) _ (fun _ _ h=>h)) q4
   | _=>exact .undef _ _
  ·rw [jT e]; exact .mp _ _ _ (hset e h)
 | gy _ i h =>
  simp only [aT.iC]
  by_cases e:b=i
  ·subst e
   rw [Nat.beq_refl]
   rw [hm] at h; injection h with h; subst h
   cases B with
   | map t u x=>exact hB.elim
   | _=>exact .undef _ _
  ·rw [jT e]; exact .gy _ _ (hset e h)
 | sub _ i j l' g h hj =>
  simp only [aT.iC]
  by_cases e:b=i
  ·subst e; rw [Nat.beq_refl]; exact .undef _ _
  ·rw [jT e]; exact .sub _ _ _ _ _ (hset e h) hj
 | bY _ i r off l' h hr =>
  simp only [aT.iC]
  by_cases e:b=i
  ·subst e; rw [Nat.beq_refl]; exact .undef _ _
  ·rw [jT e]; exact .bY _ _ _ _ _ (hset e h) hr
 | own _ i n l' h hn hc =>
  simp only [aT.iC]
  by_cases e:b=i
  ·subst e
   rw [Nat.beq_refl]
   rw [hm] at h; injection h with h; subst h
   cases B with
   | rows ee sz k c =>
    obtain ⟨rfl,rfl,q3,q4,vs,q5,q6,q7⟩:=hB
    refine .slice _ _ _ _ _ _ _ _ (fun i j=>vs.getD (i*l'.sz+j) Go.undef) (.inr ⟨_,rfl,rfl⟩) (by omega) hc.2 (fun h=>by simp at h) (fun i hi j hj=>⟨?_,(q7 i (by omega) j hj).1⟩) (fun i hi j hj=>(q7 i (by omega) j hj).2.mono hS (fun _ _=>rfl) _ (fun _ _ h=>h))
    rw [Nat.zero_add]
    refine iB q5 ?_
    have:=fP (off:=j) (k:=1) (show i<l'.n by omega) (show j+1<=l'.sz by omega)
    have h8:l'.n*l'.sz<=l'.cap*l'.sz:=Nat.mul_le_mul_right _ q3
    omega
   | bC ee u x =>
    obtain ⟨q1,q2,q3,q4,vs,q5,q6,q7⟩:=hB
    refine Le.bF (n:=n) (c:=fun i j=>vw u x i j) id rfl (by rw [List.length_take]; omega) (fun i hi j hj=>by rw [qd _ _ _ _ _ hi]; exact Le.refl _) _ _ _ _ ?_
    refine .slice _ _ _ _ _ _ _ _ (fun i j=>vs.getD (i*aW u+j) Go.undef) (.inr ⟨_,rfl,rfl⟩) (by omega) hc.2 (fun h=>by simp at h) (fun i hi j hj=>⟨?_,(q7 i (by omega) j hj).1⟩) (fun i hi j hj=>(q7 i (by omega) j hj).2.mono hS (fun _ _=>rfl) _ (fun _ _ h=>h))
    rw [Nat.zero_add]
    refine iB q5 ?_
    have:=fP (off:=j) (k:=1) (show i<l'.n by omega) (show j+1<=aW u by omega)
    have h8:l'.n*aW u<=l'.cap*aW u:=Nat.mul_le_mul_right _ hc.1
    omega
   | _=>exact .undef _ _
  ·rw [jT e]; exact .own _ _ _ _ (hset e h) hn hc
 | eZ _ aa i h =>
  simp only [aT.iC]
  by_cases e:b=i
  ·subst e
   rw [Nat.beq_refl]
   rw [hm] at h; injection h with h; subst h
   cases B with
   | rows ee sz k c=>exact .dL _ _ _ _ _ _ (Nat.zero_le _) (fun h=>by simp at h)
   | bC ee u x=>exact Le.bF id rfl (by simp) (fun _ _ _ _=>Le.refl _) _ _ _ _ (.dL _ _ _ _ _ _ (Nat.zero_le _) (fun h=>by simp at h))
   | _=>exact .undef _ _
  ·rw [jT e]; exact .eZ _ _ _ (hset e h)
 | bF _ t l g _ h=>exact .bF _ _ _ _ _ ((h.yu []).mono hS (fun _ _=>rfl) _ (fun i l h=>by simp at h))
 | bz _ i l' h hc =>
  simp only [aT.iC]
  by_cases e:b=i
  ·subst e
   rw [Nat.beq_refl]
   rw [hm] at h; injection h with h; subst h
   cases B with
   | bC ee u x =>
    obtain ⟨q1,q2,q3,q4,vs,q5,q6,q7⟩:=hB
    refine Le.bF id rfl q2 (fun _ _ _ _=>Le.refl _) _ _ _ _ ?_
    refine .slice _ _ _ _ _ _ _ _ (fun i j=>vs.getD (i*aW u+j) Go.undef) (.inr ⟨_,rfl,rfl⟩) (by omega) hc.2 (fun h=>by simp at h) (fun i hi j hj=>⟨?_,(q7 i (by omega) j hj).1⟩) (fun i hi j hj=>(q7 i (by omega) j hj).2.mono hS (fun _ _=>rfl) _ (fun _ _ h=>h))
    rw [Nat.zero_add]
    refine iB q5 ?_
    have:=fP (off:=j) (k:=1) (show i<l'.n by omega) (show j+1<=aW u by omega)
    have h8:l'.n*aW u<=l'.cap*aW u:=Nat.mul_le_mul_right _ hc.1
    omega
   | _=>exact .undef _ _
  ·rw [jT e]; exact .bz _ _ _ (hset e h) hc
 | fD _ aa i h =>
  simp only [aT.iC]
  by_cases e:b=i
  ·subst e
   rw [Nat.beq_refl]
   rw [hm] at h; injection h with h; subst h
   cases B with
   | bC ee u x =>
    have hB:x.length=0:=hB
    exact Le.bF id rfl hB.symm (fun _ _ _ _=>Le.refl _) _ _ _ _ (.dL _ _ _ _ _ _ (Nat.zero_le _) (fun h=>by simp at h))
   | _=>exact .undef _ _
  ·rw [jT e]; exact .fD _ _ _ (hset e h)
 | tail _ aa i lo n cp hn h =>
  simp only [aT.iC]
  by_cases e:b=i
  ·subst e
   rw [Nat.beq_refl]
   cases B with
   | bC ee u x =>
    by_cases hn0:n=0
    ·subst hn0
     exact Le.bF id rfl (by simp) (fun _ _ _ _=>Le.refl _) _ _ _ _ (.dL _ _ _ _ _ _ (by omega) (fun h=>by simp at h))
    ·obtain ⟨l',h1,rfl,h2⟩:=h (by omega)
     rw [hm] at h1; injection h1 with h1; subst h1
     obtain ⟨q1,q2,q3,q4,vs,q5,q6,q7⟩:=hB
     refine Le.bF (n:=n) (c:=fun i j=>vw u x (lo+i) j) id rfl (by rw [List.length_take,List.length_drop]; omega) (fun i hi j hj=>by rw [qd _ _ _ _ _ hi,Cf]; exact Le.refl _) _ _ _ _ ?_
     refine .slice _ _ _ _ _ _ _ _ (fun i j=>vs.getD ((lo+i)*aW u+j) Go.undef) (.inr ⟨_,rfl,rfl⟩) (by omega) (by omega) (fun h=>by simp at h) (fun i hi j hj=>⟨?_,(q7 (lo+i) (by omega) j hj).1⟩) (fun i hi j hj=>(q7 (lo+i) (by omega) j hj).2.mono hS (fun _ _=>rfl) _ (fun _ _ h=>h))
     rw [q1,<- Nat.add_mul]
     refine iB q5 ?_
     have:=fP (off:=j) (k:=1) (show lo+i<x.length by omega) (show j+1<=aW u by omega)
     have h8:x.length*aW u<=l'.cap*aW u:=Nat.mul_le_mul_right _ q3
     omega
   | _=>exact .undef _ _
  ·rw [jT e]; exact .tail _ _ _ _ _ _ hn fun h0=>let ⟨l,h1,h2⟩:=h h0; ⟨l,hset e h1,h2⟩
 | agg=>exact .undef _ _
 | fn=>exact .undef _ _
 | bN=>exact .undef _ _
 | iq=>exact .undef _ _
 | iM=>exact .undef _ _
 | undef=>exact .undef _ _
 | int _ k n h=>exact .int _ _ _ h
 | bool=>exact .bool _ _
 | str _ s h=>exact .str _ _ h
 | dG=>exact .dG _
 | bS _ b o n c f hs hc h=>exact (Rel.bS _ b o n c f hs hc h:Rel w S [] _ _).mono hS (fun _ _=>rfl) _ (fun i l h=>by simp at h)
 | slice _ b o sz n cap full c f hs hn hcap hf hc h=>exact (Rel.slice _ b o sz n cap full c f hs hn hcap hf hc h:Rel w S [] _ _).mono hS (fun _ _=>rfl) _ (fun i l h=>by simp at h)
 | dL _ a cap sz full c hcap hf=>exact .dL _ _ _ _ _ _ hcap hf
 | bR=>exact .bR _
 | emp _ a=>exact .emp _ _
 | bu=>exact .bu _
 | iL=>exact .iL _
 | mv _ b es ck t u x hs hg hl h1 h2 hok=>exact .mv _ _ _ _ _ _ _ (hS _ hs) hg hl (fun i hi=>(h1 i hi).mono hS (fun _ _=>rfl) _ (fun _ _ h=>h)) (fun i hi=>(h2 i hi).mono hS (fun _ _=>rfl) _ (fun _ _ h=>h)) hok
 | dZ=>exact .dZ _
 | gM=>exact .gM _
 | iw _ vs cs hl h0 h=>exact .iw _ _ _ hl h0 fun i hi=>(h i hi).mono hS (fun _ _=>rfl) _ (fun _ _ h=>h)
 | eU _ id fs cs as0 bs hl0 hl h0 h=>exact .eU _ _ _ _ _ _ hl0 hl (fun i hi=>(h0 i hi).mono hS (fun _ _=>rfl) _ (fun _ _ h=>h)) fun i hi=>(h i hi).mono hS (fun _ _=>rfl) _ (fun _ _ h=>h)
 | eG _ b n h=>exact .eG _ _ _ h
 | iN=>exact .iN _ _
theorem Rel.gP {b:Nat} {ol:Option Loc} {B:bT} (hm:m[b]? = some ol) (hB:bZ w S m ol B) (hp:CK B=true) {v:Value} {a:AV} (h:Rel w S m v a) :
  Rel w (SG S ol) (m.set b none) v (aT.gP b B a):=by
 cases a with
 | agg cs =>
  cases h with
  | agg _ vs _ hl h1 h =>
   exact .agg _ _ _ (by rw [cK]; exact hl) (fun i hi=>h1 i (by rwa [cK] at hi)) fun i hi=>by
    rw [cK] at hi; rw [fG _ _ _ hi]; exact (h i hi).iC hm hB hp
 | fn f x y =>
  cases h with
  | fn _ _ fs cs _ _ hl hl' h1 h1' h h' =>
   exact .fn _ _ _ _ _ _ (by rw [cK]; exact hl) (by rw [cK]; exact hl') (fun i hi=>h1 i (by rwa [cK] at hi)) (fun i hi=>h1' i (by rwa [cK] at hi))
    (fun i hi=>by rw [cK] at hi; rw [fG _ _ _ hi]; exact (h i hi).iC hm hB hp) (fun i hi=>by rw [cK] at hi; rw [fG _ _ _ hi]; exact (h' i hi).iC hm hB hp)
 | bN vs=>exact .undef _ _
 | _=>exact h.iC hm hB hp
def dO (A B:AS):Prop:=∀ (base:Env) (w:World) (S:Nat->Prop) (m:aY) (a:Act),MA base w S m A->iP base.old w S m a A.ts ->
 ∃ S' m',(∀ b,S b->S' b)/\(∀ b,S' b->S b\/¬ base.Z b)/\MA base w S' m' B/\iP base.old w S' m' a B.ts
theorem dO.refl (A:AS):dO A A:=fun _ _ S m _ hM hA=>⟨S,m,fun _ h=>h,fun _ h=>.inl h,hM,hA⟩
theorem dO.trans {A B C:AS} (h:dO A B) (k:dO B C):dO A C:=by
 intro base w S m a hM hA
 obtain ⟨S1,m1,a1,a2,a3,a4⟩:=h base w S m a hM hA
 obtain ⟨S2,m2,b1,b2,b3,b4⟩:=k base w S1 m1 a a3 a4
 exact ⟨S2,m2,fun b h=>b1 b (a1 b h),fun b h=>(b2 b h).elim (a2 b) .inr,b3,b4⟩
theorem dO.freeze {A:AS} (b:Nat) {B:bT} (hb:blk A.m b=B) (hp:CK B=true) (hnp:Nat.ble A.np b=true\/isCells B=false):dO A ⟨mapA (gP b B) A.ts,wD b B (dA A.m b .dead),A.np⟩:=by
 intro base w S m a hM hA
 have hM':=hM.rel
 have hblt:b<aB A.m:=mi _ _ (by rw [hb]; intro e; subst e; simp [CK] at hp)
 obtain ⟨ol,hol⟩:∃ ol,m[b]? = some ol:=⟨m[b]'(by rw [hM'.len]; exact hblt),List.getElem?_eq_getElem _⟩
 have hBr:=hM'.bk b ol hol
 rw [hb] at hBr
 have hlt:∀ l,ol=some l->_:=fun l e=>hM'.lt b l (e▸hol)
 have hset:∀ {i:Nat} {x:Option Loc},(m.set b none)[i]? = some x->(i≠b/\m[i]? = some x)\/(i=b/\x=none):=fun {i x} hi=>by
  by_cases e:i=b
  ·subst e; rw [List.getElem?_set_self (by rw [hM'.len]; exact hblt)] at hi; injection hi with hi; exact .inr ⟨rfl,hi.symm⟩
  ·rw [List.getElem?_set_ne (Ne.symm e)] at hi; exact .inl ⟨e,hi⟩
 have hN:aV base w (SG S ol) (m.set b none) (wD b B (dA A.m b .dead)):=by
  refine ⟨by rw [List.length_set,adx,kG]; exact hM'.len,fun g hg=>hg.elim (hM'.sb g) (fun ⟨l,e,h⟩=>h▸(hlt l e).2.1),fun i l' hi=>?_,fun i l' hi=>?_,fun i j l1 l2 hi hj e=>?_,hM'.fu,hM'.iO,fun i l' hi=>?_,fun i l' hi=>?_⟩
  rotate_right
  ·rcases hset hi with ⟨hne,hi⟩ | ⟨_,e⟩
   ·refine (hM'.ext i l' hi).to (fun _ _ h=>h) (Nat.le_refl _) (fun g hg hs=>hs.elim .inl fun ⟨l1,e,h⟩=>absurd h.symm ((hM'.ext i l' hi).far g hg b l1 (e▸hol)).1) fun j l'' hj=>?_
    rcases hset hj with ⟨_,hj⟩ | ⟨_,e⟩
    ·exact .inl ⟨l'',hj,rfl,.inl rfl⟩
    ·cases e
   ·cases e
  ·rw [UI,gF]
   rcases hset hi with ⟨hne,hi⟩ | ⟨rfl,rfl⟩
   ·rw [if_neg (fun x=>hne x.1.symm)]
    have hB:=hM'.bk i l' hi
    have hrel:∀ v x,Rel w S m v x->Rel w (SG S ol) (m.set b none) v (aT.gP b B x):=fun v x hr=>hr.gP hol hBr hp
    have hrel0:∀ v x,Rel w S [] v x->Rel w (SG S ol) [] v x:=fun v x hr=>hr.mono (fun _ h=>.inl h) (fun _ _=>rfl) _ (fun _ _ h=>h)
    cases l' with
    | none=>revert hB; cases blk A.m i <;> exact fun h=>h
    | some l' =>
     revert hB
     cases blk A.m i with
     | dz x y=>exact fun hf=>hf.keep (fun _ h=>.inl h) (fun _ _=>rfl) rfl fun _ _=>rfl
     | dead=>exact fun h=>h
     | cells e cs=>rintro ⟨vs,h1,h2,h3,h4⟩; exact ⟨vs,h1,by rw [cK]; exact h2,fun i hi=>h3 i (by rwa [cK] at hi),fun i hi=>by rw [cK] at hi; rw [fG _ _ _ hi]; exact hrel _ _ (h4 i hi)⟩
     | rows e sz n c=>rintro ⟨h0,h1,h2,h3,vs,h4,h5,h6⟩; exact ⟨h0,h1,h2,h3,vs,h4,h5,fun i hi j hj=>⟨(h6 i hi j hj).1,hrel0 _ _ (h6 i hi j hj).2⟩⟩
     | bC e ty x=>rintro ⟨h0,h1,h2,h3,vs,h4,h5,h6⟩; exact ⟨h0,h1,h2,h3,vs,h4,h5,fun i hi j hj=>⟨(h6 i hi j hj).1,hrel0 _ _ (h6 i hi j hj).2⟩⟩
     | dV e ty x=>rintro ⟨h0,h1,h2,h3,vs,fz,h4,h5,h6⟩; exact ⟨h0,h1,h2,h3,vs,fz,h4,h5,fun i hi j hj=>⟨(h6 i hi j hj).1,hrel0 _ _ (h6 i hi j hj).2⟩⟩
     | arr e ty x=>rintro ⟨vs,h4,h5,h6⟩; exact ⟨vs,h4,h5,fun i hi=>⟨(h6 i hi).1,hrel0 _ _ (h6 i hi).2⟩⟩
     | map ty uy x=>rintro ⟨es,ck,h4,h5,h6,h7⟩; exact ⟨es,ck,h4,h5,fun i hi=>⟨hrel0 _ _ (h6 i hi).1,hrel0 _ _ (h6 i hi).2⟩,h7⟩
     | dW s pos=>exact fun h=>h
   ·rw [if_pos ⟨rfl,hblt⟩]; trivial
  ·rcases hset hi with ⟨hne,hi⟩ | ⟨_,e⟩
   ·have q:=hM'.lt i l' hi
    exact ⟨q.1,q.2.1,fun hs=>hs.elim q.2.2 (fun ⟨l,e,h⟩=>hne (hM'.inj i b l' l hi (e▸hol) h))⟩
   ·cases e
  ·rcases hset hi with ⟨_,hi⟩ | ⟨_,e1⟩
   ·rcases hset hj with ⟨_,hj⟩ | ⟨_,e2⟩
    ·exact hM'.inj i j l1 l2 hi hj e
    ·cases e2
   ·cases e1
  ·obtain ⟨q1,q2⟩:=hM'.pin i l' hi
   have hne:i≠b:=fun e=>by
    rcases hnp with hnp | hnp
    ·have:=Nat.le_of_ble_eq_true hnp
     have:=hM.pins i l' hi; omega
    ·rw [e,hb,hnp] at q2; cases q2
   refine ⟨by rw [List.getElem?_set_ne (Ne.symm hne)]; exact q1,?_⟩
   rw [UI,gF,if_neg (fun x=>hne x.1.symm)]
   revert q2; cases blk A.m i <;> exact fun h=>h
 have hA':iP base.old w (SG S ol) (m.set b none) a (mapA (aT.gP b B) A.ts):=by
  refine ⟨by rw [cK]; exact hA.1,hA.2.1.mono (fun b h=>.inl h) (fun _ _=>rfl),fun t=>?_⟩
  by_cases ht:t<au A.ts
  ·rw [fG _ _ _ ht]; exact (hA.2.2 t).gP hol hBr hp
  ·rw [kW _ _ (by rw [cK]; omega)]; exact .undef _ _
 exact ⟨SG S ol,m.set b none,fun g hg=>.inl hg,fun g hg=>hg.elim .inl (fun ⟨l,e,h⟩=>.inr (h▸(hlt l e).1)),⟨hN,hM.pins⟩,hA'⟩
theorem dO.own {A:AS} (i:Nat) (e:TypeId) (u:Ty) (hi:nth A.ts i = .bR\/nth A.ts i = .emp):dO A ⟨put A.ts i (.bz (aB A.m)),fI A.m (.bC e u []),A.np⟩:=by
 intro base w S m a hM hA
 obtain ⟨ht,hm⟩:=hM.rel.FU (.bC e u []) rfl
 refine ⟨S,m++[none],fun _ h=>h,fun _ h=>.inl h,⟨hm,hM.pins⟩,⟨by rw [lQ]; exact hA.1,hA.2.1,fun t=>?_⟩⟩
 have hr:=hA.2.2 t
 rw [jS]
 split
 ·rename_i e'
  obtain ⟨rfl,_⟩:=e'
  have hlast:(m++[none])[aB A.m]? = some none:=by rw [<- hM.rel.len]; simp
  rcases hi with hi | hi <;> rw [hi] at hr <;> (generalize a.tmps.getD i Go.undef=v at hr; cases hr; exact .fD _ _ _ hlast)
 ·exact ht.rel hr
theorem dO.tT {A:AS} (b j e:Nat) (u:Ty) {e':Nat} {cs:List AV} (hb:blk A.m b = .cells e' cs) (hj:nth cs j = .bR\/nth cs j = .emp) :
  dO A ⟨A.ts,dA (fI A.m (.bC e u [])) b (.cells e' (put cs j (.bz (aB A.m)))),A.np⟩:=by
 intro base w S m a hM hA
 obtain ⟨ht,hm⟩:=hM.rel.FU (.bC e u []) rfl
 have hblt:b<aB A.m:=mi _ _ (by rw [hb]; intro e; cases e)
 have hbm:blk (fI A.m (.bC e u [])) b = .cells e' cs:=by rw [jy,if_neg (by omega),hb]
 have hlast:(m++[none])[aB A.m]? = some none:=by rw [<- hM.rel.len]; simp
 refine ⟨S,m++[none],fun _ h=>h,fun _ h=>.inl h,⟨⟨by rw [kG]; exact hm.len,hm.sb,fun i l hi=>?_,hm.lt,hm.inj,hm.fu,hm.iO,fun i l hi=>?_,hm.ext⟩,hM.pins⟩,⟨hA.1,hA.2.1,fun t=>ht.rel (hA.2.2 t)⟩⟩
 ·have hB:=hm.bk i l hi
  rw [gF]
  split
  ·rename_i e1
   obtain ⟨rfl,_⟩:=e1
   rw [hbm] at hB
   cases l with
   | none=>exact hB
   | some l =>
    obtain ⟨vs,h1,h2,h3,h4⟩:=hB
    refine ⟨vs,h1,by rw [lQ]; exact h2,fun i hi=>h3 i (by rwa [lQ] at hi),fun i hi=>?_⟩
    rw [lQ] at hi
    have hr:=h4 i hi
    rw [jS]
    split
    ·rename_i e2
     obtain ⟨rfl,_⟩:=e2
     rcases hj with hj | hj <;> rw [hj] at hr <;> (generalize vs.getD j Go.undef=v at hr; cases hr; exact .fD _ _ _ hlast)
    ·exact hr
  ·exact hB
 ·obtain ⟨q1,q2⟩:=hm.pin i l hi
  refine ⟨q1,?_⟩
  rw [gF]
  split
  ·rfl
  ·exact q2
def UJ (k b:Nat):AV->AV
 | .mp i=>match Nat.beq i k with | true=>.mp b | false=>eT b (.mp i)
 | .bz i=>match Nat.beq i k with | true=>.bz b | false=>eT b (.bz i)
 | v=>eT k (eT b v)
def LB (k b:Nat):AV->AV
 | .mp i=>match Nat.beq i k with | true=>.mp b | false=>eT b (.mp i)
 | .bz i=>match Nat.beq i k with | true=>.bz b | false=>eT b (.bz i)
 | v=>jv k (jv b v)
def UK (k b:Nat):bT->bT
 | .cells e cs=>.cells e (mapA (UJ k b) cs)
 | x=>x
def tV (k b:Nat):Mem->Mem
 | []=>[]
 | x::l=>UK k b x::tV k b l
theorem LC (k b:Nat) (l:Mem):aB (tV k b l)=aB l:=by induction l with | nil=>rfl | cons a l ih=>simp [tV,aB,ih]
theorem UL (k b:Nat) (l:Mem) (i:Nat):blk (tV k b l) i=UK k b (blk l i):=by
 induction l generalizing i with
 | nil=>rfl
 | cons a l ih=>cases i with
  | zero=>rfl
  | succ i=>exact ih i
theorem ady {x:Nat} {a:AV} (h:∀ cs,a≠.agg cs):∀ cs,eT x a≠.agg cs:=by
 intro cs e
 cases a with
 | agg cs'=>exact h _ rfl
 | own | bz | tail | bY | ref | dJ | fA | mp | sub=>simp only [eT] at e; split at e <;> cases e
 | _=>cases e
theorem dO.adz {A:AS} (k b:Nat) {B:bT} (hk:blk A.m k=B) (hkd:B≠.dead) (hkc:isCells B=false) (hbd:blk A.m b≠.dead) (hbc:isCells (blk A.m b)=false) (hne:Nat.beq k b=false)
  (hup:∀ {w:World} {S:Nat->Prop} {m m':aY} {l:Option Loc},bZ w S m l B->bZ w S m' l B) :
  dO A ⟨mapA (LB k b) A.ts,dA (dA (tV k b A.m) b B) k .dead,A.np⟩:=by
 intro base w S m a hM hA
 have hM':=hM.rel
 have hne:k≠b:=fun q=>by subst q; rw [Nat.beq_refl] at hne; cases hne
 have hkl:k<aB A.m:=mi _ _ (by rw [hk]; exact hkd)
 have hbl:b<aB A.m:=mi _ _ hbd
 obtain ⟨lk,hlk⟩:∃ lk,m[k]? = some lk:=⟨m[k]'(by rw [hM'.len]; exact hkl),List.getElem?_eq_getElem _⟩
 have s1:∀ {i:Nat} {x:Option Loc},i≠b->m[i]? = some x->(m.set b lk)[i]? = some x:=fun hi h=>by rw [List.getElem?_set_ne (Ne.symm hi)]; exact h
 have s2:∀ {i:Nat} {x:Option Loc},i≠k->(m.set b lk)[i]? = some x->((m.set b lk).set k none)[i]? = some x:=fun hi h=>by rw [List.getElem?_set_ne (Ne.symm hi)]; exact h
 have sb:((m.set b lk).set k none)[b]? = some lk:=s2 (Ne.symm hne) (List.getElem?_set_self (by rw [hM'.len]; exact hbl))
 have hset:∀ {i:Nat} {x:Option Loc},((m.set b lk).set k none)[i]? = some x->(i=k/\x=none)\/(i=b/\x=lk)\/(i≠k/\i≠b/\m[i]? = some x):=fun {i x} hi=>by
  by_cases e1:i=k
  ·subst e1; rw [List.getElem?_set_self (by rw [List.length_set,hM'.len]; exact hkl)] at hi; injection hi with hi; exact .inl ⟨rfl,hi.symm⟩
  ·rw [List.getElem?_set_ne (Ne.symm e1)] at hi
   by_cases e2:i=b
   ·subst e2; rw [List.getElem?_set_self (by rw [hM'.len]; exact hbl)] at hi; injection hi with hi; exact .inr (.inl ⟨rfl,hi.symm⟩)
   ·rw [List.getElem?_set_ne (Ne.symm e2)] at hi; exact .inr (.inr ⟨e1,e2,hi⟩)
 have r0:∀ {v:Value} {x:AV},Rel w S m v x->(∀ cs,x≠.agg cs)->Rel w S ((m.set b lk).set k none) v (eT k (eT b x)):=fun h hx =>
  Rel.eT (fun _ h=>h) (fun _ _=>rfl) (fun i l hi h=>s2 hi h) (Rel.eT (fun _ h=>h) (fun _ _=>rfl) (fun i l hi h=>s1 hi h) h hx) (ady hx)
 have rT:∀ {v:Value} {i:Nat},Rel w S m v (.bz i)->Rel w S ((m.set b lk).set k none) v (match Nat.beq i k with | true=>.bz b | false=>eT b (.bz i)):=fun {v i} h=>by
  by_cases e:i=k
  ·subst e
   rw [Nat.beq_refl]
   cases h with
   | bz _ _ l0 h0 hc=>rw [hlk] at h0; injection h0 with h0; subst h0; exact .bz _ _ _ sb hc
   | fD _ aa _ h0=>rw [hlk] at h0; injection h0 with h0; subst h0; exact .fD _ _ _ sb
  ·rw [jT e]
   cases hb:hit b i with
   | true=>simp only [eT,hb]; exact .undef _ _
   | false =>
    simp only [eT,hb]
    cases h with
    | bz _ _ l0 h0 hc=>exact .bz _ _ _ (s2 e (s1 (vO hb) h0)) hc
    | fD _ aa _ h0=>exact .fD _ _ _ (s2 e (s1 (vO hb) h0))
 have rP:∀ {v:Value} {i:Nat},Rel w S m v (.mp i)->Rel w S ((m.set b lk).set k none) v (match Nat.beq i k with | true=>.mp b | false=>eT b (.mp i)):=fun {v i} h=>by
  by_cases e:i=k
  ·subst e
   rw [Nat.beq_refl]
   cases h with
   | mp _ _ l0 h0=>rw [hlk] at h0; injection h0 with h0; subst h0; exact .mp _ _ _ sb
   | gy _ _ h0=>rw [hlk] at h0; injection h0 with h0; subst h0; exact .gy _ _ sb
  ·rw [jT e]
   cases hb:hit b i with
   | true=>simp only [eT,hb]; exact .undef _ _
   | false =>
    simp only [eT,hb]
    cases h with
    | mp _ _ l0 h0=>exact .mp _ _ _ (s2 e (s1 (vO hb) h0))
    | gy _ _ h0=>exact .gy _ _ (s2 e (s1 (vO hb) h0))
 have rC:∀ {v:Value} {x:AV},Rel w S m v x->(∀ cs,x≠.agg cs)->Rel w S ((m.set b lk).set k none) v (UJ k b x):=fun {v x} h hx=>by
  cases x with
  | bz i=>exact rT h
  | mp i=>exact rP h
  | _=>exact r0 h hx
 have rB:∀ {v:Value} {x:AV},Rel w S m v x->Rel w S ((m.set b lk).set k none) v (LB k b x):=fun {v x} h=>by
  have gen:Rel w S ((m.set b lk).set k none) v (jv k (jv b x)):=Rel.jv (fun _ h=>h) (fun _ _=>rfl) (fun i l hi h=>s2 hi h) (Rel.jv (fun _ h=>h) (fun _ _=>rfl) (fun i l hi h=>s1 hi h) h)
  cases x with
  | bz i=>exact rT h
  | mp i=>exact rP h
  | _=>exact gen
 have hrel0:∀ {v x},Rel w S [] v x->Rel w S [] v x:=fun hr=>hr
 have hlen:aB (dA (dA (tV k b A.m) b B) k .dead)=aB A.m:=by rw [kG,kG,LC]
 have hN:aV base w S ((m.set b lk).set k none) (dA (dA (tV k b A.m) b B) k .dead):=by
  refine ⟨by rw [List.length_set,List.length_set,hlen]; exact hM'.len,hM'.sb,fun i x hi=>?_,fun i x hi=>?_,fun i j x y hi hj q=>?_,hM'.fu,hM'.iO,fun i x hi=>?_,fun i x hi=>?_⟩
  rotate_right
  ·have src:∀ {i:Nat} {x:Loc},((m.set b lk).set k none)[i]? = some (some x)->∃ i0,m[i0]? = some (some x)/\((i=b/\i0=k)\/(i≠b/\i≠k/\i0=i)):=fun {i x} hi=>by
    rcases hset hi with ⟨_,q⟩ | ⟨e1,q⟩ | ⟨e1,e2,hi⟩
    ·cases q
    ·exact ⟨k,q▸hlk,.inl ⟨e1,rfl⟩⟩
    ·exact ⟨i,hi,.inr ⟨e2,e1,rfl⟩⟩
   obtain ⟨i0,p1,p2⟩:=src hi
   have q:=hM'.ext i0 x p1
   refine ⟨q.nd,q.out,fun g hg j y hj=>?_⟩
   obtain ⟨j0,r1,r2⟩:=src hj
   have f:=q.far g hg j0 y r1
   exact ⟨f.1,fun hne=>f.2 (by omega)⟩
  ·rw [gF,gF,UL]
   rcases hset hi with ⟨rfl,rfl⟩ | ⟨rfl,rfl⟩ | ⟨e1,e2,hi⟩
   ·rw [if_pos ⟨rfl,by rw [kG,LC]; exact hkl⟩]; trivial
   ·rw [if_neg (fun q=>hne q.1),if_pos ⟨rfl,by rw [LC]; exact hbl⟩]
    have:=hM'.bk k _ hlk
    rw [hk] at this
    exact hup this
   ·rw [if_neg (fun q=>e1 q.1.symm),if_neg (fun q=>e2 q.1.symm)]
    have hB:=hM'.bk i x hi
    cases x with
    | none=>revert hB; cases blk A.m i <;> exact fun h=>h
    | some x =>
     revert hB
     cases blk A.m i with
     | cells ee cs=>rintro ⟨vs,h1,h2,h3,h4⟩; exact ⟨vs,h1,by rw [cK]; exact h2,fun i hi=>h3 i (by rwa [cK] at hi),fun i hi=>by rw [cK] at hi; rw [fG _ _ _ hi]; exact rC (h4 i hi) ((h4 i hi).yz (h3 i hi))⟩
     | _=>exact fun h=>h
  ·rcases hset hi with ⟨_,q⟩ | ⟨_,q⟩ | ⟨_,_,hi⟩
   ·cases q
   ·exact hM'.lt k x (q▸hlk)
   ·exact hM'.lt i x hi
  ·rcases hset hi with ⟨_,q1⟩ | ⟨ei,q1⟩ | ⟨i1,i2,hi'⟩
   ·cases q1
   ·rcases hset hj with ⟨_,q2⟩ | ⟨ej,q2⟩ | ⟨j1,j2,hj'⟩
    ·cases q2
    ·rw [ei,ej]
    ·exact absurd (hM'.inj k j x y (q1▸hlk) hj' q) (Ne.symm j1)
   ·rcases hset hj with ⟨_,q2⟩ | ⟨ej,q2⟩ | ⟨j1,j2,hj'⟩
    ·cases q2
    ·exact absurd (hM'.inj i k x y hi' (q2▸hlk) q) i1
    ·exact hM'.inj i j x y hi' hj' q
  ·obtain ⟨q1,q2⟩:=hM'.pin i x hi
   have e1:i≠k:=fun q=>by rw [q,hk,hkc] at q2; cases q2
   have e2:i≠b:=fun q=>by rw [q,hbc] at q2; cases q2
   refine ⟨s2 e1 (s1 e2 q1),?_⟩
   rw [gF,if_neg (fun q=>e1 q.1.symm),gF,if_neg (fun q=>e2 q.1.symm),UL]
   revert q2; cases blk A.m i <;> exact fun h=>h
 refine ⟨S,(m.set b lk).set k none,fun _ h=>h,fun _ h=>.inl h,⟨hN,hM.pins⟩,⟨by rw [cK]; exact hA.1,hA.2.1,fun t=>?_⟩⟩
 by_cases ht:t<au A.ts
 ·rw [fG _ _ _ ht]; exact rB (hA.2.2 t)
 ·rw [kW _ _ (by rw [cK]; omega)]; exact .undef _ _
theorem dO.Gz {A:AS} (k b:Nat) {e:Nat} {u:Ty} {l:List (El u)} {e':Nat} {u':Ty} {l':List (El u')} (hk:blk A.m k = .bC e u l) (hb:blk A.m b = .bC e' u' l') (hne:Nat.beq k b=false) :
  dO A ⟨mapA (LB k b) A.ts,dA (dA (tV k b A.m) b (.bC e u l)) k .dead,A.np⟩ :=
 .adz k b hk (by intro e; cases e) rfl (by rw [hb]; intro e; cases e) (by rw [hb]; rfl) hne fun {w S m m' l}=>by cases l <;> exact fun h=>h
def GA (u:Ty):List AV->Option (List (El u))
 | []=>some []
 | c::cs=>match ic u [c] with
  | some x=>match GA u cs with
   | some l=>some (x::l)
   | none=>none
  | none=>none
theorem UM {u:Ty} (hu:aW u=1):∀ {cs:List AV} {l:List (El u)},GA u cs=some l->l.length=au cs/\∀ i,i<au cs->Le (nth cs i) (vw u l i 0)
 | [],l,h=>by cases h; exact ⟨rfl,fun i hi=>absurd hi (Nat.not_lt_zero _)⟩
 | c::cs,l,h=>by
  simp only [GA] at h
  split at h
  ·rename_i x hx
   split at h
   ·rename_i l' hl'
    cases h
    obtain ⟨k1,k2⟩:=UM hu hl'
    obtain ⟨_,r2⟩:=qc hx
    refine ⟨by rw [List.length_cons,k1]; rfl,fun i hi=>?_⟩
    cases i with
    | zero=>exact r2 0 (by omega)
    | succ i=>exact k2 i (by simp only [au] at hi; omega)
   ·cases h
  ·cases h
theorem dO.arr {A:AS} (b:Nat) (u:Ty) {e:Nat} {cs:List AV} {l:List (El u)} (hb:blk A.m b = .cells e cs) (hu:aW u=1) (hl:GA u cs=some l) (ho:jl cs=true) (hnp:Nat.ble A.np b=true) :
  dO A ⟨A.ts,dA A.m b (.arr e u l),A.np⟩:=by
 intro base w S m a hM hA
 have hm:=hM.rel
 have hblt:b<aB A.m:=mi _ _ (by rw [hb]; intro e; cases e)
 obtain ⟨k1,k2⟩:=UM hu hl
 refine ⟨S,m,fun _ h=>h,fun _ h=>.inl h,⟨⟨by rw [kG]; exact hm.len,hm.sb,fun i lo hi=>?_,hm.lt,hm.inj,hm.fu,hm.iO,fun i lo hi=>?_,hm.ext⟩,hM.pins⟩,hA⟩
 ·have hB:=hm.bk i lo hi
  rw [gF]
  split
  ·rename_i e1
   obtain ⟨rfl,_⟩:=e1
   rw [hb] at hB
   cases lo with
   | none=>exact hB
   | some lo =>
    obtain ⟨vs,h1,h2,h3,h4⟩:=hB
    exact ⟨vs,h1,by rw [k1]; exact h2,fun i hi=>⟨h3 i (by omega),k2 i (by omega) _ _ _ _ ((h4 i (by omega)).out (ow ho (by omega)) [])⟩⟩
  ·exact hB
 ·obtain ⟨q1,q2⟩:=hm.pin i lo hi
  refine ⟨q1,?_⟩
  rw [gF]
  split
  ·rename_i e1
   obtain ⟨rfl,_⟩:=e1
   have:=hM.pins b lo hi
   have:=Nat.le_of_ble_eq_true hnp
   omega
  ·exact q2
theorem dO.wE {A:AS} (b:Nat) {k:IntKind} {u:Ty} {x:List (El (.int k)×El u)} (hb:blk A.m b = .map (.int k) u x):dO A ⟨A.ts,dA A.m b (.map (.dm k) u x),A.np⟩:=by
 intro base w S m a hM hA
 have hm:=hM.rel
 refine ⟨S,m,fun _ h=>h,fun _ h=>.inl h,⟨⟨by rw [kG]; exact hm.len,hm.sb,fun i lo hi=>?_,hm.lt,hm.inj,hm.fu,hm.iO,fun i lo hi=>?_,hm.ext⟩,hM.pins⟩,hA⟩
 ·have hB:=hm.bk i lo hi
  rw [gF]
  split
  ·rename_i e1
   obtain ⟨rfl,_⟩:=e1
   rw [hb] at hB
   cases lo with
   | none=>exact hB
   | some lo =>
    obtain ⟨es,ck,h1,h2,h3,h4⟩:=hB
    exact ⟨es,ck,h1,h2,h3,⟨h4.born,h4.once,h4.keys,rfl,h4.szv,h4.few,fun h=>by cases h⟩⟩
  ·exact hB
 ·obtain ⟨q1,q2⟩:=hm.pin i lo hi
  refine ⟨q1,?_⟩
  rw [gF]
  split
  ·rfl
  ·exact q2
theorem dO.qp {A:AS} (b j:Nat) {e':Nat} {cs:List AV} {c n:Nat} {e:Nat} {u:Ty} {x:List (El u)} (hb:blk A.m b = .cells e' cs) (hj:nth cs j = .own c n) (hc:blk A.m c = .bC e u x) :
  dO A ⟨pM c A.ts,dA (iI c (dA A.m c (.bC e u (x.take n)))) b (.cells e' (put (nk c cs) j (.bz c))),A.np⟩:=by
 intro base w S m a hM hA
 have hm:=hM.rel
 have hne:c≠b:=fun q=>by subst q; rw [hb] at hc; cases hc
 have hbl:b<aB A.m:=mi _ _ (by rw [hb]; intro e; cases e)
 have hcl:c<aB A.m:=mi _ _ (by rw [hc]; intro e; cases e)
 obtain ⟨lb,hlb⟩:∃ l,m[b]? = some l:=⟨m[b]'(by rw [hm.len]; exact hbl),List.getElem?_eq_getElem _⟩
 have hBb:=hm.bk b lb hlb
 rw [hb] at hBb
 cases lb with
 | none=>exact hBb.elim
 | some lb =>
 obtain ⟨vs,v1,v2,v3,v4⟩:=hBb
 have hjl:j<au cs:=by
  refine Nat.lt_of_not_le fun h=>?_
  have:=kW cs j h
  rw [hj] at this; cases this
 have hrj:=v4 j hjl
 rw [hj] at hrj
 obtain ⟨lc,hlc,lc',hnew,hg,hx,hval⟩:∃ lc,m[c]? = some lc/\∃ lc',bZ w S (m.set c lc') lc' (nX c (.bC e u (x.take n)))/\(∀ l₂,lc'=some l₂->((∃ l₁,lc=some l₁/\l₂.g=l₁.g)\/w.heap.size<=l₂.g)/\l₂.g<w.heap.size) /\
   (∀ l₂,lc'=some l₂->l₂.ext=[]\/∃ l₁,lc=some l₁/\l₂.ext=l₁.ext/\l₂.g=l₁.g)/\Rel w S (m.set c lc') (vs.getD j Go.undef) (.bz c):=by
  have hset:∀ q,(m.set c q)[c]? = some q:=fun q=>List.getElem?_set_self (by rw [hm.len]; exact hcl)
  generalize vs.getD j Go.undef=v at hrj
  cases hrj with
  | eZ _ aa _ h0 =>
   refine ⟨none,h0,none,?_,(fun l₂ h=>by cases h),(fun l₂ h=>by cases h),.fD _ _ _ (hset _)⟩
   show (x.take 0).length=0
   simp
  | own _ _ _ l h0 hn hcap =>
   have hB:=hm.bk c _ h0
   rw [hc] at hB
   obtain ⟨b1,b2,b3,b4,ws,b5,b6,b7⟩:=hB
   refine ⟨some l,h0,some { l with n:=n },?_,(fun l₂ h=>by cases h; exact ⟨.inl ⟨l,rfl,rfl⟩,(hm.lt c l h0).2.1⟩),(fun l₂ h=>by cases h; exact .inr ⟨l,rfl,rfl,rfl⟩),?_⟩
   ·have hlen:(x.take n).length=n:=by rw [List.length_take]; omega
    refine ⟨b1,hlen.symm,by rw [hlen]; exact Nat.le_trans hn hcap.1,b4,ws,b5,b6,fun i hi j hj=>?_⟩
    rw [hlen] at hi
    have hix:i<x.length:=by omega
    have hvw:vw u (x.take n) i j=vw u x i j:=by
     unfold vw jk
     rw [show (x.take n).getD i (aS u)=x.getD i (aS u) from by simp [List.getD,List.getElem?_take_of_lt hi]]
    rw [hvw]
    exact b7 i hix j hj
   ·exact .bz _ _ { l with n:=n } (hset _) ⟨Nat.le_trans hn hcap.1,hcap.2⟩
 obtain ⟨ht,hm'⟩:=hm.move c lc hlc lc' (.bC e u (x.take n)) (by rw [hc]; rfl) (bX.refl _ _) (fun _ _ _=>rfl) hg hnew hx
 have hbm:blk (iI c (dA A.m c (.bC e u (x.take n)))) b = .cells e' (nk c cs):=by
  rw [vP,gF,if_neg (fun q=>hne q.1),hb]; rfl
 refine ⟨S,m.set c lc',fun _ h=>h,fun _ h=>.inl h,⟨⟨by rw [kG]; exact hm'.len,hm'.sb,fun i l hi=>?_,hm'.lt,hm'.inj,hm'.fu,hm'.iO,fun i l hi=>?_,hm'.ext⟩,hM.pins⟩,⟨by rw [Kw]; exact hA.1,hA.2.1,fun t=>by rw [Kv]; exact ht.rel (hA.2.2 t)⟩⟩
 ·have hB:=hm'.bk i l hi
  rw [gF]
  split
  ·rename_i e1
   obtain ⟨rfl,_⟩:=e1
   rw [hbm] at hB
   cases l with
   | none=>exact hB
   | some l =>
    obtain ⟨vs',h1,h2,h3,h4⟩:=hB
    have hel:l=lb:=by
     rw [List.getElem?_set_ne hne,hlb] at hi
     injection hi with hi; injection hi with hi; exact hi.symm
    subst hel
    have hvs:vs'=vs:=by rw [v1] at h1; injection h1 with h1; injection h1 with h1; exact h1.symm
    subst hvs
    refine ⟨vs',h1,by rw [lQ]; exact h2,fun i hi=>h3 i (by rwa [lQ] at hi),fun i hi=>?_⟩
    rw [lQ] at hi
    rw [jS]
    split
    ·rename_i e2
     obtain ⟨rfl,_⟩:=e2
     exact hval
    ·exact h4 i hi
  ·exact hB
 ·obtain ⟨q1,q2⟩:=hm'.pin i l hi
  refine ⟨q1,?_⟩
  rw [gF]
  split
  ·rfl
  ·exact q2
inductive Pre where
 |own (i e:Nat) (u:Ty)
 |tT (b j e:Nat) (u:Ty)
 |gP (b:Nat)
 |GD (i n:Nat)
 |arr (b:Nat) (u:Ty)
 |two
 |GG (n:Nat)
 |Gz (k b:Nat)
 |zf (n:Nat)
 |wE (b:Nat)
 |qp (b j:Nat)
def UN (A:AS) (b:Nat):Bool :=
 match isCells (blk A.m b) with
 | false=>true
 | true=>Nat.ble A.np b
def rA:Pre->AS->AS
 | .own i e u,A=>match nth A.ts i with
  | .bR=>⟨put A.ts i (.bz (aB A.m)),fI A.m (.bC e u []),A.np⟩
  | .emp=>⟨put A.ts i (.bz (aB A.m)),fI A.m (.bC e u []),A.np⟩
  | _=>A
 | .gP b,A=>match CK (blk A.m b),UN A b with
  | true,true=>⟨mapA (gP b (blk A.m b)) A.ts,wD b (blk A.m b) (dA A.m b .dead),A.np⟩
  | _,_=>A
 | .GD _ _,A=>A
 | .two,A=>A
 | .GG _,A=>A
 | .zf _,A=>A
 | .wE b,A=>match blk A.m b with
  | .map (.int k) u x=>⟨A.ts,dA A.m b (.map (.dm k) u x),A.np⟩
  | _=>A
 | .qp b j,A=>match blk A.m b with
  | .cells e' cs=>match nth cs j with
   | .own c n=>match blk A.m c with
    | .bC e u x=>⟨pM c A.ts,dA (iI c (dA A.m c (.bC e u (x.take n)))) b (.cells e' (put (nk c cs) j (.bz c))),A.np⟩
    | _=>A
   | _=>A
  | _=>A
 | .Gz _ _,A=>A
 | .arr _ _,A=>A
 | .tT b j e u,A=>match blk A.m b with
  | .cells e' cs=>match nth cs j with
   | .bR=>⟨A.ts,dA (fI A.m (.bC e u [])) b (.cells e' (put cs j (.bz (aB A.m)))),A.np⟩
   | .emp=>⟨A.ts,dA (fI A.m (.bC e u [])) b (.cells e' (put cs j (.bz (aB A.m)))),A.np⟩
   | _=>A
  | _=>A
def tX:List Pre->AS->AS
 | [],A=>A
 | x::l,A=>tX l (rA x A)
theorem adA (l:List AV) (i:Nat):put l i (nth l i)=l:=by
 induction l generalizing i with
 | nil=>rfl
 | cons a l ih=>cases i with
  | zero=>rfl
  | succ i=>simp only [nth,put,ih i]
theorem UO (x:Pre) (A:AS):dO A (rA x A):=by
 cases x with
 | own i e u =>
  simp only [rA]
  split
  ·rename_i h; exact dO.own i e u (.inl h)
  ·rename_i h; exact dO.own i e u (.inr h)
  ·exact dO.refl _
 | gP b =>
  simp only [rA]
  split
  ·rename_i h1 h2
   refine dO.freeze b rfl h1 ?_
   unfold UN at h2
   cases hc:isCells (blk A.m b) with
   | false=>exact .inr rfl
   | true=>rw [hc] at h2; exact .inl h2
  ·exact dO.refl _
 | GD i n=>exact dO.refl _
 | two=>exact dO.refl _
 | GG n=>exact dO.refl _
 | zf n=>exact dO.refl _
 | wE b =>
  simp only [rA]
  split
  ·rename_i k u x hb; exact dO.wE b hb
  ·exact dO.refl _
 | qp b j =>
  simp only [rA]
  split
  ·rename_i e' cs hb
   split
   ·rename_i c n hj
    split
    ·rename_i e u x hc; exact dO.qp b j hb hj hc
    ·exact dO.refl _
   ·exact dO.refl _
  ·exact dO.refl _
 | Gz k b=>exact dO.refl _
 | arr b u=>exact dO.refl _
 | tT b j e u =>
  simp only [rA]
  split
  ·rename_i e' cs hb
   split
   ·rename_i h; exact dO.tT b j e u hb (.inl h)
   ·rename_i h; exact dO.tT b j e u hb (.inr h)
   ·exact dO.refl _
  ·exact dO.refl _
theorem wF:∀ (l:List Pre) (A:AS),dO A (tX l A)
 | [],A=>dO.refl A
 | x::l,A=>(UO x A).trans (wF l _)
end Go.aT
