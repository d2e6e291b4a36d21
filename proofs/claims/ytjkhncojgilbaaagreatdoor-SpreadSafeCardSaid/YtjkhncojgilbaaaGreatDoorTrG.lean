/- Contracts of calls that are handed memory, over plain data. -/
import Derived.Test.YtjkhncojgilbaaaGreatDoorTrE
namespace Go.aT
open Go Go.RowKit
variable {P:Program} {T:aX}
def Bh:(p:PS)->eD p->AV:=fun p x=>match dX p x with
 | [v]=>v
 | l=>.bN l
structure fH where
 id:Nat
 ps:PS
 q:PM
 pre:List Pre
 rs:PS
 q':PM
 inv:Option Nat
 f:jf ps q->Tree (jf rs q')
def Jy (g:fH) (y:jf g.rs g.q'):R:=⟨Bh g.rs y.1,bM g.q' y.2,[],g.inv⟩
def Yv (l:Mem) (n:Nat) (v:AV) (M:Mem):Bool :=
 match l with
 | []=>true
 | _::_=>match eB n 4 v,oH n M with | true,true=>true | _,_=>false
def Ex (T:aX) (vars:List ResultVar) (np:Nat) (rs:PS) (q':PM) (A:AS):Tree (jf rs q') :=
 uB (mr T A vars) (match gY rs (oI T A vars),fT q' A.m with
  | some (x,[]),some (y,l)=>match Nat.ble np (aB (bM q' y)),Yv l (aB (bM q' y)) (Bh rs x) (bM q' y) with | true,true=>.ret (x,y) | _,_=>.fail
  | _,_=>.fail)
def Jz (T:aX) (vars:List ResultVar) (np:Nat) (pre:List Pre) (rs:PS) (q':PM) (r:Exit×AS):Tree (jf rs q') :=
 match r with
 | (.ret,A)=>Ex T vars np rs q' (tX pre A)
 | (.normal,A)=>Ex T vars np rs q' (tX pre A)
 | _=>.fail
def aiL (T:aX) (o:bW) (c:Code) (nt:Nat) (vars:List ResultVar) (ps:PS) (q:PM) (pre:List Pre) (rs:PS) (q':PM) (x:jf ps q):Tree (jf rs q') :=
 (jC ae T o c ⟨bK (dX ps x.1) (und (nt-au (dX ps x.1))),bM q x.2,aB (bM q x.2)⟩).bind (Jz T vars (aB (bM q x.2)) pre rs q')
def fH.ok (P:Program) (g:fH):Prop:=∀ x y,(g.f x).run=some y->nz P g.id (dX g.ps x.1) (bM g.q x.2) (Jy g y)
theorem Yw (vars:List ResultVar) (np:Nat) (rs:PS) (q':PM) (A:AS):(Ex T vars np rs q' A).pl:=by
 unfold Ex
 refine Jg ?_; repeat' split
 all_goals trivial
theorem aiM (vars:List ResultVar) (np:Nat) (pre:List Pre) (rs:PS) (q':PM) (r:Exit×AS):(Jz T vars np pre rs q' r).pl:=by
 unfold Jz
 split
 ·exact Yw _ _ _ _ _
 ·exact Yw _ _ _ _ _
 ·trivial
theorem aiN {A:AS} {vars:List ResultVar} {p:PS} {x:eD p} (h:gY p (oI T A vars)=some (x,[])):Le (Gw T A vars) (Bh p x):=by
 have hl:=Bg h
 match vars,hl with
 | [r],hl =>
  obtain ⟨h1,h2⟩:=hl
  unfold Bh
  have e:au (dX p x)=1:=by rw [<- h1]; rfl
  match hp:dX p x,e with
  | [v],_=>have:=h2 0; rw [hp] at this; exact this
 | [],hl =>
  obtain ⟨h1,h2⟩:=hl
  unfold Bh
  have e:au (dX p x)=0:=by rw [<- h1]; rfl
  match hp:dX p x,e with
  | [],_=>exact Le.refl _
 | a::b::l,hl =>
  obtain ⟨h1,h2⟩:=hl
  unfold Bh
  have hr:Gw T A (a::b::l) = .bN (oI T A (a::b::l)):=rfl
  rw [hr]
  have e:au (dX p x)=l.length+2:=by rw [<- h1,Lv]; simp
  match hp:dX p x,e with
  | v::w::k,_=>exact Le.bN (by rw [h1,hp]) fun i _=>by have:=h2 i; rw [hp] at this; exact this
theorem aiO {vars:List ResultVar} {np:Nat} {g:fH} {e:Exit} {A:AS} {y:jf g.rs g.q'} (h:(Jz T vars np g.pre g.rs g.q' (e,A)).run=some y):∃ B,dO A B/\Uv T vars np (Jy g y) e B:=by
 have key:∀ A,(Ex T vars np g.rs g.q' A).run=some y->Gx T vars np (Jy g y) A:=by
  intro A h
  obtain ⟨h1,h2⟩:=AU h
  split at h2
  ·rename_i x y' l hx hy
   split at h2
   ·rename_i hnp hend
    cases h2
    obtain ⟨m1,m2⟩:=uD hy
    refine ⟨h1,aiN hx,by show aB (bM g.q' y')<=_; omega,m2,Nat.le_of_ble_eq_true hnp,?_⟩
    cases l with
    | nil=>exact .inl m1.symm
    | cons B l =>
     simp only [Yv] at hend
     split at hend
     ·exact .inr ⟨by assumption,by assumption⟩
     ·cases hend
   ·cases h2
  ·cases h2
 cases e with
 | ret=>exact ⟨_,wF g.pre A,key _ h⟩
 | normal=>exact ⟨_,wF g.pre A,key _ h⟩
 | _=>cases h
theorem fH.lift (hm:P.follows .mixedOrders=true) (hT:bG P T) (hn:yY P=true) (g:fH) {fn:Func} {c:Code} (hf:P.funcs[g.id]? = some fn) (hb:fn.body=some c) {o:bW} (ho:lD P o) (hl:j6 P o (aK c))
  (hc:∀ x,wC g.inv 0 (bM g.q x)=true) (heq:∀ x,aiL T o c fn.ntmps fn.results.toList g.ps g.q g.pre g.rs g.q' x=g.f x):g.ok P:=by
 intro x y hy
 rw [<- heq] at hy
 have hy:=Tree.wp_bind.1 (Tree.Qk hy)
 refine nz.of hT hf hb (Ls hn hf) (hc x.2) (bL.Yl (QQ hm hT ho c hl _ _ (Tree.wp_mono hy ?_)))
 rintro ⟨e,A⟩ h
 obtain ⟨y',h1,rfl⟩:=Tree.oQ (aiM _ _ _ _ _ _) h
 exact aiO h1
def oZ (κ:List Nat):(p:PS)->eD p->List AV
 | .val g t,x=>[encS g t x]
 | .ptr t,x=>[.bS (aW t) (nth (dB t x))]
 | .mv t u,x=>[.mv t u x]
 | .jZ,_=>[.dZ]
 | .full t,x=>[.bF t x true]
 | .flat t,x=>dB t x
 | .cp a,x=>[.bS (au (dX a x)) (nth (dX a x))]
 | .dN a,x=>[.dN 0 (oZ κ a x)]
 | .xw,_=>[.dG]
 | .xx,_=>[.bR]
 | .ref b off,_=>[match cZ κ b with | some b'=>.ref b' off | none=>fq]
 | .dJ b,_=>[match cZ κ b with | some b'=>.dJ b' | none=>fq]
 | .mp b,_=>[match cZ κ b with | some b'=>.mp b' | none=>fq]
 | .own b,_=>[match cZ κ b with | some b'=>.bz b' | none=>fq]
 | .any,_=>[.undef]
 | .fn id f c,x=>[.fn (.func id) (oZ κ f x.1) (oZ κ c x.2)]
 | .nil,_=>[]
 | .cons a b,x=>bK (oZ κ a x.1) (oZ κ b x.2)
def Yx (κ:List Nat) (b off:Nat):AV->Option Unit
 | .ref b' off'=>match cZ κ b with
  | some k=>match Nat.beq k b',Nat.beq off off' with | true,true=>some () | _,_=>none
  | none=>none
 | _=>none
def Yy (κ:List Nat) (b:Nat) (v:AV):Option Unit :=
 match cZ κ b with
 | some k=>QC k v
 | none=>none
def Yz (κ:List Nat) (b:Nat) (v:AV):Option Unit :=
 match cZ κ b with
 | some k=>QD k v
 | none=>none
def YA (κ:List Nat) (b:Nat):AV->Option Unit
 | .bz b'=>match cZ κ b with
  | some k=>match Nat.beq k b' with | true=>some () | _=>none
  | none=>none
 | _=>none
def o5 (κ:List Nat):(p:PS)->List AV->Option (eD p×List AV)
 | .val g t,l=>gH (Ba g t) l
 | .ptr t,l=>gH (Qw t) l
 | .mv t u,l=>gH (Qx t u) l
 | .jZ,l=>gH Qz l
 | .full t,l=>gH (Qy t) l
 | .flat t,l=>mg t l
 | .cp a,l=>gY (.cp a) l
 | .dN a,l=>match l with
  | .dN 0 vs::r=>match o5 κ a vs with
   | some (x,[])=>some (x,r)
   | _=>none
  | _=>none
 | .xw,l=>gH QA l
 | .xx,l=>gH QB l
 | .ref b off,l=>gH (Yx κ b off) l
 | .dJ b,l=>gH (Yy κ b) l
 | .mp b,l=>gH (Yz κ b) l
 | .own b,l=>gH (YA κ b) l
 | .any,l=>gH (fun _=>some ()) l
 | .fn id f c,l=>match l with
  | .fn (.func id') a b::r=>match Nat.beq id id',o5 κ f a,o5 κ c b with
   | true,some (x,[]),some (y,[])=>some ((x,y),r)
   | _,_,_=>none
  | _=>none
 | .nil,l=>some ((),l)
 | .cons a b,l=>match o5 κ a l with
  | some (x,r)=>match o5 κ b r with
   | some (y,r')=>some ((x,y),r')
   | none=>none
  | none=>none
theorem YB {κ:List Nat} {p:PS} {l r:List AV} {x:eD p} (h:o5 κ p l=some (x,r)):∃ pre,l=bK pre r/\gQ pre (oZ κ p x):=by
 induction p generalizing l r with
 | val g t=>exact jL (e:=encS g t) (fun v x=>QO) h
 | ptr t =>
  obtain ⟨pre,h1,h2⟩:=oW (p:=.ptr t) h
  exact ⟨pre,h1,h2⟩
 | mv t u =>
  obtain ⟨pre,h1,h2⟩:=oW (p:=.mv t u) h
  exact ⟨pre,h1,h2⟩
 | jZ =>
  obtain ⟨pre,h1,h2⟩:=oW (p:=.jZ) h
  exact ⟨pre,h1,h2⟩
 | full t =>
  obtain ⟨pre,h1,h2⟩:=oW (p:=.full t) h
  exact ⟨pre,h1,h2⟩
 | flat t =>
  obtain ⟨pre,h1,h2⟩:=oW (p:=.flat t) h
  exact ⟨pre,h1,h2⟩
 | cp a _ =>
  obtain ⟨pre,h1,h2⟩:=oW (p:=.cp a) h
  exact ⟨pre,h1,h2⟩
 | xw =>
  obtain ⟨pre,h1,h2⟩:=oW (p:=.xw) h
  exact ⟨pre,h1,h2⟩
 | xx =>
  obtain ⟨pre,h1,h2⟩:=oW (p:=.xx) h
  exact ⟨pre,h1,h2⟩
 | ref b off =>
  refine jL (e:=fun _=>match cZ κ b with | some b'=>.ref b' off | none=>fq) (fun v x hv=>?_) h
  unfold Yx at hv
  split at hv
  ·split at hv
   ·rename_i k hk
    split at hv
    ·rename_i h1 h2
     rw [<- Nat.eq_of_beq_eq_true h1,<- Nat.eq_of_beq_eq_true h2]; exact Le.refl _
    ·cases hv
   ·cases hv
  ·cases hv
 | mp b =>
  refine jL (e:=fun _=>match cZ κ b with | some b'=>.mp b' | none=>fq) (fun v x hv=>?_) h
  unfold Yz at hv
  split at hv
  ·rename_i k hk
   have hd:gY (.mp k) [v]=some ((),[]):=by simp only [gY,gH,hv]
   obtain ⟨pre,q1,q2⟩:=oW hd
   rw [kF,List.append_nil] at q1
   subst q1
   exact q2.2 0
  ·cases hv
 | dJ b =>
  refine jL (e:=fun _=>match cZ κ b with | some b'=>.dJ b' | none=>fq) (fun v x hv=>?_) h
  unfold Yy at hv
  split at hv
  ·rename_i k hk
   have hd:gY (.dJ k) [v]=some ((),[]):=by simp only [gY,gH,hv]
   obtain ⟨pre,q1,q2⟩:=oW hd
   rw [kF,List.append_nil] at q1
   subst q1
   exact q2.2 0
  ·cases hv
 | own b =>
  refine jL (e:=fun _=>match cZ κ b with | some b'=>.bz b' | none=>fq) (fun v x hv=>?_) h
  unfold YA at hv
  split at hv
  ·split at hv
   ·rename_i k hk
    split at hv
    ·rename_i h1
     rw [<- Nat.eq_of_beq_eq_true h1]; exact Le.refl _
    ·cases hv
   ·cases hv
  ·cases hv
 | any=>exact jL (e:=fun _=>.undef) (fun v x _=>Le.undef _) h
 | fn id f c ihf ihc =>
  simp only [o5] at h
  split at h
  ·rename_i id' a b r'
   split at h
   ·rename_i x1 y1 hid ha hb
    cases h
    have hid:=Nat.eq_of_beq_eq_true hid
    subst hid
    obtain ⟨p1,q1,r1⟩:=ihf ha
    obtain ⟨p2,q2,r2⟩:=ihc hb
    rw [kF,List.append_nil] at q1 q2
    subst q1 q2
    exact ⟨[_],rfl,gQ.one (Le.fn r1 r2)⟩
   ·cases h
  ·cases h
 | dN a ih =>
  simp only [o5] at h
  split at h
  ·rename_i vs r'
   split at h
   ·rename_i x1 ha
    cases h
    obtain ⟨p1,q1,r1⟩:=ih ha
    rw [kF,List.append_nil] at q1
    subst q1
    exact ⟨[_],rfl,gQ.one (Le.dN r1)⟩
   ·cases h
  ·cases h
 | nil=>cases h; exact ⟨[],rfl,gQ.refl _⟩
 | cons a b iha ihb =>
  simp only [o5] at h
  split at h
  ·rename_i x1 r1 h1
   split at h
   ·rename_i y1 r2 h2
    cases h
    obtain ⟨p1,rfl,l1⟩:=iha h1
    obtain ⟨p2,rfl,l2⟩:=ihb h2
    exact ⟨bK p1 p2,by simp [kF],gQ.cat l1 l2⟩
   ·cases h
  ·cases h
def mM:Nat->PS->Bool
 | f,.val g _=>match g,f with | false,_=>true | true,0=>false | true,_+1=>true
 | 0,.fn _ _ _=>false
 | 0,.dN _=>false
 | f+1,.dN a=>mM f a
 | f+1,.fn _ a c=>mM f a&&mM f c
 | f,.cons a b=>mM f a&&mM f b
 | _,_=>true
theorem YC (f:AV->AV) (l k:List AV):mapA f (bK l k)=bK (mapA f l) (mapA f k):=by
 induction l with
 | nil=>rfl
 | cons a l ih=>simp only [bK,mapA,ih]
theorem QR (d:AV) (κ:List Nat) (f:Nat) (t:Ty) (x:El t):mapA (dx d κ f) (dB t x)=dB t x:=by
 induction t with
 | pair a b iha ihb=>simp only [dB,YC]; rw [iha,ihb]
 | _=>cases f <;> rfl
theorem aiP (d:AV) (κ:List Nat) (f:Nat) (g:Bool) (t:Ty) (x:El t) (h:mM f (.val g t)=true):dx d κ f (encS g t x)=encS g t x:=by
 cases g with
 | true =>
  cases f with
  | zero=>cases h
  | succ f=>show AV.agg (mapA (dx d κ f) (dB t x))=_; rw [QR]; rfl
 | false =>
  show dx d κ f (nth (dB t x) 0)=nth (dB t x) 0
  have:=congrArg (fun l=>nth l 0) (QR d κ f t x)
  have h1:0<au (dB t x):=by rw [ny]; exact KJ t
  rwa [fG _ _ _ h1] at this
theorem YD (κ:List Nat):∀ (p:PS) (f:Nat) (x:eD p),mM f p=true->mapA (dx fq κ f) (dX p x)=oZ κ p x:=by
 intro p
 induction p with
 | val g t=>intro f x h; show [dx fq κ f (encS g t x)]=_; rw [aiP _ _ _ _ _ _ h]; rfl
 | fn id a c iha ihc =>
  intro f x h
  cases f with
  | zero=>cases h
  | succ f =>
   simp only [mM,Bool.and_eq_true] at h
   show [AV.fn (.func id) (mapA (dx fq κ f) (dX a x.1)) (mapA (dx fq κ f) (dX c x.2))]=_
   rw [iha f _ h.1,ihc f _ h.2]; rfl
 | dN a ih =>
  intro f x h
  cases f with
  | zero=>cases h
  | succ f =>
   show [AV.dN 0 (mapA (dx fq κ f) (dX a x))]=_
   rw [ih f _ h]; rfl
 | cons a b iha ihb =>
  intro f x h
  have h:mM f a=true/\mM f b=true:=by cases f <;> simpa [mM] using h
  show mapA _ (bK (dX a x.1) (dX b x.2))=_
  rw [YC,iha f _ h.1,ihb f _ h.2]; rfl
 | nil=>intro f x h; rfl
 | ref b off=>intro f x h; cases f <;> rfl
 | own b=>intro f x h; cases f <;> rfl
 | dJ b=>intro f x h; cases f <;> rfl
 | mp b=>intro f x h; cases f <;> rfl
 | flat t=>intro f x h; exact QR _ _ _ _ _
 | _=>intro f x h; cases f <;> rfl
def o6:PM->Bool
 | .nil=>true
 | .cells _ p r=>mM 3 p&&o6 r
 | .rows _ _ r=>o6 r
 | .arr _ _ r=>o6 r
 | .map _ _ r=>o6 r
 | .dV _ _ r=>o6 r
 | .dead r=>o6 r
 | .dW r=>o6 r
 | .dz r=>o6 r
def eF (κ:List Nat):(q:PM)->jK q->Mem
 | .nil,_=>[]
 | .cells e p r,x=>.cells e (oZ κ p x.1)::eF κ r x.2
 | .rows e t r,x=>.bC e t x.1::eF κ r x.2
 | .arr e t r,x=>.arr e t x.1::eF κ r x.2
 | .map t u r,x=>.map t u x.1::eF κ r x.2
 | .dV e t r,x=>.dV e t x.1::eF κ r x.2
 | .dead r,x=>.dead::eF κ r x
 | .dW r,x=>.dW x.1.1 x.1.2::eF κ r x.2
 | .dz r,x=>.dz x.1.1 x.1.2::eF κ r x.2
theorem aiQ (κ:List Nat):∀ (q:PM) (x:jK q),aB (eF κ q x)=aB (bM q x):=by
 intro q
 induction q with
 | nil=>intro x; rfl
 | cells e p r ih=>intro x; simp only [eF,bM,aB,ih]
 | rows e t r ih=>intro x; simp only [eF,bM,aB,ih]
 | arr e t r ih=>intro x; simp only [eF,bM,aB,ih]
 | map t u r ih=>intro x; simp only [eF,bM,aB,ih]
 | dV e t r ih=>intro x; simp only [eF,bM,aB,ih]
 | dead r ih=>intro x; simp only [eF,bM,aB,ih]
 | dW r ih=>intro x; simp only [eF,bM,aB,ih]
 | dz r ih=>intro x; simp only [eF,bM,aB,ih]
theorem aiR (κ:List Nat):∀ (q:PM) (x:jK q) (i:Nat),o6 q=true->oJ fq κ (blk (bM q x) i)=blk (eF κ q x) i:=by
 intro q
 induction q with
 | nil=>intro x i h; rfl
 | cells e p r ih =>
  intro x i h
  simp only [o6,Bool.and_eq_true] at h
  cases i with
  | zero =>
   show bT.cells e (mapA (dx fq κ 3) (dX p x.1)) = .cells e (oZ κ p x.1)
   rw [YD κ p 3 _ h.1]
  | succ i=>exact ih _ i h.2
 | rows e t r ih=>intro x i h; cases i with
  | zero=>rfl
  | succ i=>exact ih _ i h
 | arr e t r ih=>intro x i h; cases i with
  | zero=>rfl
  | succ i=>exact ih _ i h
 | map t u r ih=>intro x i h; cases i with
  | zero=>rfl
  | succ i=>exact ih _ i h
 | dV e t r ih=>intro x i h; cases i with
  | zero=>rfl
  | succ i=>exact ih _ i h
 | dead r ih=>intro x i h; cases i with
  | zero=>rfl
  | succ i=>exact ih _ i h
 | dW r ih=>intro x i h; cases i with
  | zero=>rfl
  | succ i=>exact ih _ i h
 | dz r ih=>intro x i h; cases i with
  | zero=>rfl
  | succ i=>exact ih _ i h
def YE (κ:List Nat) (e:Nat) (p:PS):bT->Option (eD p)
 | .cells e' cs=>match Nat.beq e e',o5 κ p cs with | true,some (x,[])=>some x | _,_=>none
 | _=>none
def jM (κ:List Nat):(q:PM)->Mem->Option (jK q×Mem)
 | .nil,l=>some ((),l)
 | .cells e p r,l=>match l with
  | []=>none
  | B::l=>match YE κ e p B,jM κ r l with
   | some x,some (y,l')=>some ((x,y),l')
   | _,_=>none
 | .rows e t r,l=>match l with
  | []=>none
  | B::l=>match QE e t B,jM κ r l with
   | some x,some (y,l')=>some ((x,y),l')
   | _,_=>none
 | .arr e t r,l=>match l with
  | []=>none
  | B::l=>match QF e t B,jM κ r l with
   | some x,some (y,l')=>some ((x,y),l')
   | _,_=>none
 | .map t u r,l=>match l with
  | []=>none
  | B::l=>match QG t u B,jM κ r l with
   | some x,some (y,l')=>some ((x,y),l')
   | _,_=>none
 | .dV e t r,l=>match l with
  | []=>none
  | B::l=>match QH e t B,jM κ r l with
   | some x,some (y,l')=>some ((x,y),l')
   | _,_=>none
 | .dead r,l=>match l with
  | []=>none
  | B::l=>match isCells B with
   | true=>none
   | false=>jM κ r l
 | .dW r,l=>match l with
  | []=>none
  | B::l=>match QI B,jM κ r l with
   | some x,some (y,l')=>some ((x,y),l')
   | _,_=>none
 | .dz r,l=>match l with
  | []=>none
  | B::l=>match QJ B,jM κ r l with
   | some x,some (y,l')=>some ((x,y),l')
   | _,_=>none
theorem aiS {κ:List Nat} {q:PM} {M r:Mem} {x:jK q} (h:jM κ q M=some (x,r)):aB (eF κ q x)+aB r=aB M/\∀ i,i<aB (eF κ q x)->il (blk M i) (blk (eF κ q x) i):=by
 induction q generalizing M r with
 | nil=>cases h; exact ⟨by simp [eF,aB],fun i hi=>absurd hi (Nat.not_lt_zero i)⟩
 | cells e p q ih =>
  simp only [jM] at h
  split at h
  ·cases h
  ·rename_i B l
   split at h
   ·rename_i y z r' hd hr
    cases h
    obtain ⟨h1,h2⟩:=ih hr
    refine ⟨by simp only [eF,aB]; omega,fun i hi=>?_⟩
    cases i with
    | zero =>
     show il B (.cells e (oZ κ p y))
     unfold YE at hd
     split at hd
     ·split at hd
      ·rename_i he hc
       injection hd with hd; subst hd
       have he:=Nat.eq_of_beq_eq_true he
       subst he
       obtain ⟨pre,q1,q2⟩:=YB hc
       rw [kF,List.append_nil] at q1
       subst q1
       exact il.cells q2
      ·cases hd
     ·cases hd
    | succ i=>exact h2 i (by simp only [eF,aB] at hi; omega)
   ·cases h
 | rows e t q ih =>
  simp only [jM] at h
  split at h
  ·cases h
  ·rename_i B l
   split at h
   ·rename_i y z r' hd hr
    cases h
    obtain ⟨h1,h2⟩:=ih hr
    refine ⟨by simp only [eF,aB]; omega,fun i hi=>?_⟩
    cases i with
    | zero =>
     have hd':fT (.rows e t .nil) [B]=some ((y,()),[]):=by simp only [fT,hd]
     exact (uD hd').2 0 (by simp [bM,aB])
    | succ i=>exact h2 i (by simp only [eF,aB] at hi; omega)
   ·cases h
 | map t u q ih =>
  simp only [jM] at h
  split at h
  ·cases h
  ·rename_i B l
   split at h
   ·rename_i y z r' hd hr
    cases h
    obtain ⟨h1,h2⟩:=ih hr
    refine ⟨by simp only [eF,aB]; omega,fun i hi=>?_⟩
    cases i with
    | zero =>
     have hd':fT (.map t u .nil) [B]=some ((y,()),[]):=by simp only [fT,hd]
     exact (uD hd').2 0 (by simp [bM,aB])
    | succ i=>exact h2 i (by simp only [eF,aB] at hi; omega)
   ·cases h
 | arr e t q ih =>
  simp only [jM] at h
  split at h
  ·cases h
  ·rename_i B l
   split at h
   ·rename_i y z r' hd hr
    cases h
    obtain ⟨h1,h2⟩:=ih hr
    refine ⟨by simp only [eF,aB]; omega,fun i hi=>?_⟩
    cases i with
    | zero =>
     have hd':fT (.arr e t .nil) [B]=some ((y,()),[]):=by simp only [fT,hd]
     exact (uD hd').2 0 (by simp [bM,aB])
    | succ i=>exact h2 i (by simp only [eF,aB] at hi; omega)
   ·cases h
 | dV e t q ih =>
  simp only [jM] at h
  split at h
  ·cases h
  ·rename_i B l
   split at h
   ·rename_i y z r' hd hr
    cases h
    obtain ⟨h1,h2⟩:=ih hr
    refine ⟨by simp only [eF,aB]; omega,fun i hi=>?_⟩
    cases i with
    | zero =>
     have hd':fT (.dV e t .nil) [B]=some ((y,()),[]):=by simp only [fT,hd]
     exact (uD hd').2 0 (by simp [bM,aB])
    | succ i=>exact h2 i (by simp only [eF,aB] at hi; omega)
   ·cases h
 | dead q ih =>
  simp only [jM] at h
  split at h
  ·cases h
  ·rename_i B l
   split at h
   ·cases h
   ·rename_i hB
    obtain ⟨h1,h2⟩:=ih h
    refine ⟨by simp only [eF,aB]; omega,fun i hi=>?_⟩
    cases i with
    | zero=>exact ⟨fun _ _ _ l _=>by cases l <;> trivial,fun h=>by rw [show isCells (blk (B::l) 0)=isCells B from rfl,hB] at h; cases h⟩
    | succ i=>exact h2 i (by simp only [eF,aB] at hi; omega)
 | dW q ih =>
  simp only [jM] at h
  split at h
  ·cases h
  ·rename_i B l
   split at h
   ·rename_i y z r' hd hr
    cases h
    obtain ⟨h1,h2⟩:=ih hr
    refine ⟨by simp only [eF,aB]; omega,fun i hi=>?_⟩
    cases i with
    | zero =>
     have hd':fT (.dW .nil) [B]=some ((y,()),[]):=by simp only [fT,hd]
     exact (uD hd').2 0 (by simp [bM,aB])
    | succ i=>exact h2 i (by simp only [eF,aB] at hi; omega)
   ·cases h
 | dz q ih =>
  simp only [jM] at h
  split at h
  ·cases h
  ·rename_i B l
   split at h
   ·rename_i y z r' hd hr
    cases h
    obtain ⟨h1,h2⟩:=ih hr
    refine ⟨by simp only [eF,aB]; omega,fun i hi=>?_⟩
    cases i with
    | zero =>
     have hd':fT (.dz .nil) [B]=some ((y,()),[]):=by simp only [fT,hd]
     exact (uD hd').2 0 (by simp [bM,aB])
    | succ i=>exact h2 i (by simp only [eF,aB] at hi; omega)
   ·cases h
def JA (M:Mem):List Nat->Mem
 | []=>[]
 | j::κ=>blk M j::JA M κ
def JB:List Nat->Bool
 | []=>true
 | a::l=>(l.all fun b=>!Nat.beq a b)&&JB l
def JC (n:Nat):List Nat->Bool
 | []=>true
 | a::l=>Nat.blt a n&&JC n l
def addN (b:Nat) (κ:List Nat):List Nat:=match κ.any fun c=>Nat.beq b c with | true=>κ | false=>rz κ [b]
def xC:Nat->List AV->List Nat->List Nat
 | 0,_,κ=>κ
 | _,[],κ=>κ
 | f+1,a::l,κ=>xC f l (match a with
  | .ref b _=>addN b κ
  | .bz b=>addN b κ
  | .mp b=>addN b κ
  | .fn _ x y=>xC f y (xC f x κ)
  | .dN _ x=>xC f x κ
  | _=>κ)
def QS (M:Mem):List Nat->List Nat->List Nat
 | [],κ=>κ
 | b::l,κ=>QS M l (match blk M b with | .cells _ cs=>xC 40 cs κ | _=>κ)
def QT (M:Mem) (args:List AV):List Nat:=QS M (xC 20 args []) (xC 20 args [])
def aiT (M:Mem) (args:List AV):List Nat:=QS M (QT M args) (QT M args)
def jD:PM->Nat
 | .nil=>0
 | .cells _ _ r=>jD r+1
 | .rows _ _ r=>jD r+1
 | .arr _ _ r=>jD r+1
 | .map _ _ r=>jD r+1
 | .dV _ _ r=>jD r+1
 | .dead r=>jD r+1
 | .dW r=>jD r+1
 | .dz r=>jD r+1
theorem YF (q:PM) (x:jK q):aB (bM q x)=jD q:=by
 induction q with
 | nil=>rfl
 | cells e p r ih=>simp only [bM,aB,jD]; rw [ih]
 | rows e t r ih=>simp only [bM,aB,jD]; rw [ih]
 | arr e t r ih=>simp only [bM,aB,jD]; rw [ih]
 | map t u r ih=>simp only [bM,aB,jD]; rw [ih]
 | dV e t r ih=>simp only [bM,aB,jD]; rw [ih]
 | dead r ih=>simp only [bM,aB,jD]; rw [ih]
 | dW r ih=>simp only [bM,aB,jD]; rw [ih]
 | dz r ih=>simp only [bM,aB,jD]; rw [ih]
def JD (g:fH) (κ:List Nat) (args:List AV) (M:Mem):Option xn :=
 match o5 κ g.ps args,jM κ g.q (JA M κ) with
 | some (x,[]),some (y,[]) =>
  match JB κ&&JC (aB M) κ&&mM 4 g.ps&&o6 g.q&&Nat.beq (aB (bM g.q y)) κ.length with
  | true=>match Nat.ble (jD g.q) (jD g.q') with
   | true=>some ⟨jf g.rs g.q',g.f (x,y),fun z=>LA κ (setMs M κ (eF κ g.q y)) (bM g.q y) (Jy g z)⟩
   | false=>none
  | false=>none
 | _,_=>none
theorem YG:∀ {l:List Nat},JB l=true->l.Nodup
 | [],_=>List.nodup_nil
 | a::l,h=>by
  simp only [JB,Bool.and_eq_true,List.all_eq_true] at h
  refine List.nodup_cons.2 ⟨fun hm=>?_,YG h.2⟩
  have:=h.1 a hm
  rw [Nat.beq_refl] at this; cases this
theorem YH {n:Nat}:∀ {l:List Nat},JC n l=true->∀ j∈l,j<n
 | [],_,_,h=>by cases h
 | a::l,h,j,hj=>by
  simp only [JC,Bool.and_eq_true] at h
  rcases List.mem_cons.1 hj with e | hj
  ·subst e; exact Nat.blt_eq▸h.1
  ·exact YH h.2 j hj
theorem YI (M:Mem):∀ (κ:List Nat) (i j:Nat),κ[i]? = some j->blk (JA M κ) i=blk M j
 | a::κ,0,j,h=>by simp at h; subst h; rfl
 | a::κ,i+1,j,h=>by show blk (JA M κ) i=_; exact YI M κ i j (by simpa using h)
 | [],i,j,h=>by simp at h
theorem YJ {g:fH} (hg:g.ok P) {κ:List Nat} {args:List AV} {M:Mem} {c:xn} {a:c.α} (h:JD g κ args M=some c) (hr:c.t.run=some a):nz P g.id args M (c.r a):=by
 unfold JD at h
 split at h
 case h_2=>cases h
 rename_i x y hx hy
 split at h
 case h_2=>cases h
 rename_i hck
 simp only [Bool.and_eq_true] at hck
 obtain ⟨⟨⟨⟨c1,c2⟩,c3⟩,c4⟩,c5⟩:=hck
 split at h
 case h_2=>cases h
 rename_i hge
 cases h
 obtain ⟨z,hz,e⟩:∃ z:jf g.rs g.q',(g.f (x,y)).run=some z/\z=a:=⟨a,hr,rfl⟩
 have hge:aB (bM g.q y)<=aB (bM g.q' z.2):=by rw [YF,YF]; exact Nat.le_of_ble_eq_true hge
 have hs:=hg (x,y) z hz
 subst e
 have hlen:κ.length=aB (bM g.q y):=(Nat.eq_of_beq_eq_true c5).symm
 have hnd:=YG c1
 have hlt:=YH c2
 obtain ⟨m1,m2⟩:=aiS hy
 have hKl:=aiQ κ g.q y
 obtain ⟨s0,s1,s2,s3⟩:=UB κ M (eF κ g.q y) hnd hlt (by rw [hKl]; exact Nat.le_of_eq hlen)
 have hNl:aB (setMs M κ (eF κ g.q y))=aB M:=by rw [s0,hKl,hlen]; omega
 have hN:∀ i,i<aB M->il (blk M i) (blk (setMs M κ (eF κ g.q y)) i):=fun i hi=>by
  by_cases hk:i∈κ
  ·obtain ⟨k,hk⟩:=List.getElem?_of_mem hk
   rw [s1 k i hk,<- YI M κ k i hk]
   have:k<κ.length:=(List.getElem?_eq_some_iff.1 hk).1
   exact m2 k (by omega)
  ·rw [s2 i hi hk]; exact il.refl _
 have hf:=nz.frame (M:=setMs M κ (eF κ g.q y)) (args:=oZ κ g.ps x) hs hge κ hlen hnd (fun i j hj=>⟨by rw [hNl]; exact hlt j (List.mem_of_getElem? hj),by rw [s1 i j hj]; exact aiR κ g.q y i c4⟩)
  (YD κ g.ps 4 x c3).symm
 intro Z w S m vs hM hargs
 have hlt':∀ {i:Nat} {l:Option Loc},m[i]? = some l->i<aB M:=fun hi=>by
  rw [<- hM.len]; exact (List.getElem?_eq_some_iff.1 hi).1
 refine hf Z w S m vs (hM.to hNl (fun i l hi hb=>(hN i (hlt' hi)).1 _ _ _ _ hb) (fun i hc=>?_)) ?_
 ·by_cases hi:i<aB M
  ·exact (hN i hi).2 hc
  ·rw [qZ,List.getD_eq_getElem?_getD,List.getElem?_eq_none (by rw [<- oh]; omega)] at hc
   simp [isCells] at hc
 ·obtain ⟨pre,h1,h2⟩:=YB hx
  rw [kF,List.append_nil] at h1
  subst h1
  exact ⟨hargs.1.trans h2.1,fun i hi=>h2.2 i _ _ _ _ (hargs.2 i (by rw [h2.1]; exact hi))⟩
open Classical in
noncomputable def uG {α:Type} (F:Nat->Tree α):Tree α:=if h:∃ n a,(F n).run=some a then F (Classical.choose h) else .fail
theorem Vp {α:Type} {F:Nat->Tree α} {a:α} (h:(uG F).run=some a):∃ n,(F n).run=some a:=by
 unfold uG at h
 split at h
 ·exact ⟨_,h⟩
 ·cases h
theorem ZI {α:Type} {F:Nat->Tree α} {n:Nat} {a:α} (h:(F n).run=some a):∃ m b,(F m).run=some b/\(uG F).run=some b:=by
 have hx:∃ n a,(F n).run=some a:=⟨n,a,h⟩
 obtain ⟨b,hb⟩:=Classical.choose_spec hx
 refine ⟨_,b,hb,?_⟩
 unfold uG
 rw [dif_pos hx]
 exact hb
def QU (P:Program):List fH->Prop
 | []=>True
 | g::l=>g.ok P/\QU P l
def meOf:List fH->Nat->List AV->Mem->Option xn
 | [],_,_,_=>none
 | g::l,id,args,M=>match Nat.beq g.id id with
  | true=>match JD g (QT M args) args M with
   | some c=>some c
   | none=>match JD g (aiT M args) args M with
    | some c=>some c
    | none=>meOf l id args M
  | false=>meOf l id args M
theorem aiU:∀ {l:List fH},QU P l->∀ id args M c a,meOf l id args M=some c->c.t.run=some a->aG (c.r a).ks->nz P id args M (c.r a):=by
 intro l
 induction l with
 | nil=>intro _ id args M c a h; cases h
 | cons g l ih =>
  intro hl id args M c a h ha hk
  simp only [meOf] at h
  split at h
  ·rename_i hid
   have:=Nat.eq_of_beq_eq_true hid
   subst this
   split at h
   ·rename_i c' hc
    cases h
    exact YJ hl.1 hc ha
   ·split at h
    ·rename_i c' hc
     cases h
     exact YJ hl.1 hc ha
    ·exact ih hl.2 _ _ _ _ _ h ha hk
  ·exact ih hl.2 _ _ _ _ _ h ha hk
def orM (l:List aA) (ml:List fH) (lps:List Lp) (fz:Nat->List Pre):bW:=⟨Bb l,meOf ml,Bd lps,fz⟩
theorem jW {l:List aA} {ml:List fH} {lps:List Lp} {fz:Nat->List Pre} (h:Ju P l) (hm:QU P ml):lD P (orM l ml lps fz):=⟨Yp h,aiU hm⟩
theorem YK {o o':bW} (h:o.lp=o'.lp):∀ {ds:List Code},j6 P o ds->j6 P o' ds
 | [],_=>trivial
 | d::l,⟨h1,h2⟩=>⟨fun A t Q e=>h1 A t Q (by rw [h]; exact e),YK h h2⟩
theorem jX {sg:List aA} {ml:List fH} {fz:Nat->List Pre} {lps:List Lp} {c:Code} (ds:List Code) (hd:aK c=ds) (h:Jv P lps ds) (hk:Ew lps ds=true):j6 P (orM sg ml lps fz) (aK c) :=
 YK (o:=aO sg lps fz) (o':=orM sg ml lps fz) rfl (aQ ds hd h hk)
end Go.aT
