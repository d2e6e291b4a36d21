/- Contracts over plain data: shapes of arguments and results. -/
import Derived.Test.YtjkhncojgilbaaaGreatDoorTrA
namespace Go.aT
open Go Go.RowKit
def encS:(g:Bool)->(t:Ty)->El t->AV
 | true,t,x=>.agg (dB t x)
 | false,t,x=>nth (dB t x) 0
def Ba (g:Bool) (t:Ty) (v:AV):Option (El t) :=
 match g with
 | true=>match v with | .agg cs=>ic t cs | _=>none
 | false=>ic t [v]
inductive PS where
 |val (g:Bool) (t:Ty)
 |ptr (t:Ty)
 |mv (t u:Ty)
 |jZ
 |full (t:Ty)
 |flat (t:Ty)
 |cp (a:PS)
 |dN (a:PS)
 |xw
 |xx
 |ref (b off:Nat)
 |dJ (b:Nat)
 |mp (b:Nat)
 |own (b:Nat)
 |any
 |fn (id:Nat) (first cap:PS)
 |nil
 |cons (a b:PS)
@[reducible] def eD:PS->Type
 | .val _ t=>El t
 | .ptr t=>El t
 | .mv t u=>List (El t×El u)
 | .full t=>List (El t)
 | .flat t=>El t
 | .cp a=>eD a
 | .dN a=>eD a
 | .fn _ f c=>eD f×eD c
 | .cons a b=>eD a×eD b
 | _=>Unit
def dX:(p:PS)->eD p->List AV
 | .val g t,x=>[encS g t x]
 | .ptr t,x=>[.bS (aW t) (nth (dB t x))]
 | .mv t u,x=>[.mv t u x]
 | .jZ,_=>[.dZ]
 | .full t,x=>[.bF t x true]
 | .flat t,x=>dB t x
 | .cp a,x=>[.bS (au (dX a x)) (nth (dX a x))]
 | .dN a,x=>[.dN 0 (dX a x)]
 | .xw,_=>[.dG]
 | .xx,_=>[.bR]
 | .ref b off,_=>[.ref b off]
 | .dJ b,_=>[.dJ b]
 | .mp b,_=>[.mp b]
 | .own b,_=>[.bz b]
 | .any,_=>[.undef]
 | .fn id f c,x=>[.fn (.func id) (dX f x.1) (dX c x.2)]
 | .nil,_=>[]
 | .cons a b,x=>bK (dX a x.1) (dX b x.2)
abbrev ca (r:PS):PS:=.cons .any r
abbrev aF (r:PS):PS:=ca (ca r)
abbrev aJ (r:PS):PS:=aF (aF r)
abbrev ca8 (r:PS):PS:=aJ (aJ r)
abbrev bB (r:PS):PS:=ca8 (ca8 r)
abbrev aZ (r:PS):PS:=bB (bB r)
abbrev cu {r:PS} (x:eD r):eD (ca r):=((),x)
abbrev ah {r:PS} (x:eD r):eD (aF r):=cu (r:=ca r) (cu x)
abbrev ai {r:PS} (x:eD r):eD (aJ r):=ah (r:=aF r) (ah x)
abbrev az {r:PS} (x:eD r):eD (ca8 r):=ai (r:=aJ r) (ai x)
abbrev aC {r:PS} (x:eD r):eD (bB r):=az (r:=ca8 r) (az x)
abbrev aj {r:PS} (x:eD r):eD (aZ r):=aC (r:=bB r) (aC x)
def gH {α:Type} (f:AV->Option α):List AV->Option (α×List AV)
 | []=>none
 | v::r=>match f v with | some x=>some (x,r) | none=>none
def Qw (t:Ty):AV->Option (El t)
 | .bS n c=>match Nat.ble (aW t) n with | true=>ic t (tab c 0 (aW t)) | false=>none
 | _=>none
def Qx (t u:Ty):AV->Option (List (El t×El u))
 | .mv t' u' l=>jr (.pair t' u') (.pair t u) l
 | _=>none
def Qy (t:Ty):AV->Option (List (El t))
 | .bF t' l true=>jr t' t l
 | _=>none
def Qz:AV->Option Unit
 | .dZ=>some ()
 | _=>none
def QA:AV->Option Unit
 | .dG=>some ()
 | _=>none
def QB:AV->Option Unit
 | .bR=>some ()
 | _=>none
def X3 (b off:Nat):AV->Option Unit
 | .ref b' off'=>match Nat.beq b b',Nat.beq off off' with | true,true=>some () | _,_=>none
 | _=>none
def QC (b:Nat):AV->Option Unit
 | .dG=>some ()
 | .dJ b'=>match Nat.beq b b' with | true=>some () | false=>none
 | .ref b' 0=>match Nat.beq b b' with | true=>some () | false=>none
 | _=>none
def QD (b:Nat):AV->Option Unit
 | .mp b'=>match Nat.beq b b' with | true=>some () | false=>none
 | _=>none
def X4 (b:Nat):AV->Option Unit
 | .bz b'=>match Nat.beq b b' with | true=>some () | _=>none
 | _=>none
def gY:(p:PS)->List AV->Option (eD p×List AV)
 | .val g t,l=>gH (Ba g t) l
 | .ptr t,l=>gH (Qw t) l
 | .mv t u,l=>gH (Qx t u) l
 | .jZ,l=>gH Qz l
 | .full t,l=>gH (Qy t) l
 | .flat t,l=>mg t l
 | .cp a,l=>match l with
  | .bS n c::r=>match gY a (tab c 0 n) with
   | some (x,[])=>some (x,r)
   | _=>none
  | _=>none
 | .dN a,l=>match l with
  | .dN 0 vs::r=>match gY a vs with
   | some (x,[])=>some (x,r)
   | _=>none
  | _=>none
 | .xw,l=>gH QA l
 | .xx,l=>gH QB l
 | .ref b off,l=>gH (X3 b off) l
 | .dJ b,l=>gH (QC b) l
 | .mp b,l=>gH (QD b) l
 | .own b,l=>gH (X4 b) l
 | .any,l=>gH (fun _=>some ()) l
 | .fn id f c,l=>match l with
  | .fn (.func id') a b::r=>match Nat.beq id id',gY f a,gY c b with
   | true,some (x,[]),some (y,[])=>some ((x,y),r)
   | _,_,_=>none
  | _=>none
 | .nil,l=>some ((),l)
 | .cons a b,l=>match gY a l with
  | some (x,r)=>match gY b r with
   | some (y,r')=>some ((x,y),r')
   | none=>none
  | none=>none
inductive RS where
 |fresh (e:Nat) (u:Ty)
 |kJ (e:Nat) (u:Ty)
 |vals (p:PS)
 |one (p:PS)
@[reducible] def lZ:RS->Type
 | .fresh _ u=>List (El u)
 | .kJ _ u=>List (El u)
 | .vals p=>eD p
 | .one p=>eD p
def xy:(r:RS)->lZ r->CR
 | .fresh e u,l=>.nY e u l
 | .kJ e u,l=>.pU e u l
 | .vals (.val g t),x=>.val (encS g t x)
 | .vals p,x=>.val (.bN (dX p x))
 | .one p,x=>.val (nth (dX p x) 0)
def qG (T:aX) (A:AS) (vars:List ResultVar):(rs:RS)->Tree (lZ rs)
 | .kJ _ _=>.fail
 | .fresh e u=>match vars with
  | [v]=>match (iQ T A v).v with
   | .bR=>.ret []
   | .emp=>.ret []
   | .bz b=>match blk A.m b with
    | .bC e' u' l=>match Nat.beq e e',jr u' u l with
     | true,some l=>.ret l
     | _,_=>.fail
    | _=>.fail
   | .own b n=>match blk A.m b with
    | .bC e' u' l=>match Nat.beq e e',jr u' u l with
     | true,some l=>.ret (l.take n)
     | _,_=>.fail
    | _=>.fail
   | _=>.fail
  | _=>.fail
 | .vals (.val g t)=>match vars with
  | [v]=>match Ba g t (borrow A.m (iQ T A v).v) with
   | some x=>.ret x
   | none=>.fail
  | _=>.fail
 | .vals p=>match vars with
  | [_]=>.fail
  | vars=>match gY p (oF T A vars) with
   | some (x,[])=>.ret x
   | _=>.fail
 | .one p=>match vars with
  | [v]=>match gY p [borrow A.m (iQ T A v).v] with
   | some (x,[])=>.ret x
   | _=>.fail
  | _=>.fail
def Jn (T:aX) (vars:List ResultVar) (rs:RS) (r:Exit×AS):Tree (lZ rs) :=
 match r with
 | (.ret,A)=>uB (mr T A vars) (qG T A vars rs)
 | (.normal,A)=>uB (mr T A vars) (qG T A vars rs)
 | _=>.fail
def evF (T:aX) (o:bW) (c:Code) (nt:Nat) (vars:List ResultVar) (ps:PS) (rs:RS) (x:eD ps):Tree (lZ rs) :=
 (jC ae T o c ⟨bK (dX ps x) (und (nt-au (dX ps x))),[],0⟩).bind (Jn T vars rs)
structure aA where
 id:Nat
 ps:PS
 rs:RS
 f:eD ps->Tree (lZ rs)
 d:lZ rs
def Bb:List aA->Nat->List AV->Option rO
 | [],_,_=>none
 | g::l,id,args=>match Nat.beq g.id id with
  | true=>match gY g.ps args with
   | some (x,[])=>some ⟨lZ g.rs,g.f x,xy g.rs,g.d⟩
   | _=>Bb l id args
  | false=>Bb l id args
inductive PM where
 |nil
 |cells (e:Nat) (p:PS) (r:PM)
 |rows (e:Nat) (t:Ty) (r:PM)
 |arr (e:Nat) (t:Ty) (r:PM)
 |map (t u:Ty) (r:PM)
 |dV (e:Nat) (t:Ty) (r:PM)
 |dead (r:PM)
 |dW (r:PM)
 |dz (r:PM)
@[reducible] def jK:PM->Type
 | .nil=>Unit
 | .cells _ p r=>eD p×jK r
 | .rows _ t r=>List (El t)×jK r
 | .arr _ t r=>List (El t)×jK r
 | .map t u r=>List (El t×El u)×jK r
 | .dV _ t r=>List (El t)×jK r
 | .dead r=>jK r
 | .dW r=>(List UInt8×Nat)×jK r
 | .dz r=>(List (List UInt8×(Int×(List UInt8×Int)))×List (List (List UInt8×Int)))×jK r
def bM:(q:PM)->jK q->Mem
 | .nil,_=>[]
 | .cells e p r,x=>.cells e (dX p x.1)::bM r x.2
 | .rows e t r,x=>.bC e t x.1::bM r x.2
 | .arr e t r,x=>.arr e t x.1::bM r x.2
 | .map t u r,x=>.map t u x.1::bM r x.2
 | .dV e t r,x=>.dV e t x.1::bM r x.2
 | .dead r,x=>.dead::bM r x
 | .dW r,x=>.dW x.1.1 x.1.2::bM r x.2
 | .dz r,x=>.dz x.1.1 x.1.2::bM r x.2
def X5 (e:Nat) (p:PS):bT->Option (eD p)
 | .cells e' cs=>match Nat.beq e e',gY p cs with | true,some (x,[])=>some x | _,_=>none
 | _=>none
def QE (e:Nat) (t:Ty):bT->Option (List (El t))
 | .bC e' t' l=>match Nat.beq e e' with | true=>jr t' t l | false=>none
 | _=>none
def QF (e:Nat) (t:Ty):bT->Option (List (El t))
 | .arr e' t' l=>match Nat.beq e e' with | true=>jr t' t l | false=>none
 | _=>none
def QG (t u:Ty):bT->Option (List (El t×El u))
 | .map t' u' l=>jr (.pair t' u') (.pair t u) l
 | _=>none
def QH (e:Nat) (t:Ty):bT->Option (List (El t))
 | .dV e' t' l=>match Nat.beq e e' with | true=>jr t' t l | false=>none
 | _=>none
def QI:bT->Option (List UInt8×Nat)
 | .dW s n=>some (s,n)
 | _=>none
def QJ:bT->Option (List (List UInt8×(Int×(List UInt8×Int)))×List (List (List UInt8×Int)))
 | .dz x y=>some (x,y)
 | _=>none
def fT:(q:PM)->Mem->Option (jK q×Mem)
 | .nil,l=>some ((),l)
 | .cells e p r,l=>match l with
  | []=>none
  | B::l=>match X5 e p B,fT r l with
   | some x,some (y,l')=>some ((x,y),l')
   | _,_=>none
 | .rows e t r,l=>match l with
  | []=>none
  | B::l=>match QE e t B,fT r l with
   | some x,some (y,l')=>some ((x,y),l')
   | _,_=>none
 | .arr e t r,l=>match l with
  | []=>none
  | B::l=>match QF e t B,fT r l with
   | some x,some (y,l')=>some ((x,y),l')
   | _,_=>none
 | .map t u r,l=>match l with
  | []=>none
  | B::l=>match QG t u B,fT r l with
   | some x,some (y,l')=>some ((x,y),l')
   | _,_=>none
 | .dV e t r,l=>match l with
  | []=>none
  | B::l=>match QH e t B,fT r l with
   | some x,some (y,l')=>some ((x,y),l')
   | _,_=>none
 | .dead r,l=>match l with
  | []=>none
  | B::l=>match isCells B with
   | true=>none
   | false=>fT r l
 | .dW r,l=>match l with
  | []=>none
  | B::l=>match QI B,fT r l with
   | some x,some (y,l')=>some ((x,y),l')
   | _,_=>none
 | .dz r,l=>match l with
  | []=>none
  | B::l=>match QJ B,fT r l with
   | some x,some (y,l')=>some ((x,y),l')
   | _,_=>none
@[reducible] def jf (p:PS) (q:PM):Type:=eD p×jK q
def qH (p:PS) (q:PM) (np:Nat) (z:jf p q):AS:=⟨dX p z.1,bM q z.2,np⟩
def Bc (p:PS) (q:PM) (np:Nat) (A:AS):Option (jf p q) :=
 match Nat.beq A.np np,gY p A.ts,fT q A.m with
 | true,some (x,[]),some (y,l)=>match l with
  | []=>some (x,y)
  | _::_=>match Nat.ble np (aB (bM q y)),qm (aB (bM q y)) (dX p x),oH (aB (bM q y)) (bM q y) with
   | true,true,true=>some (x,y)
   | _,_,_=>none
 | _,_,_=>none
inductive XS where
 |one (x:Nat) (pre:List Pre) (p:PS) (q:PM)
 |more (x:Nat) (pre:List Pre) (p:PS) (q:PM) (r:XS)
 |norm (p:PS) (q:PM)
@[reducible] def oV:XS->Type
 | .one _ _ p q=>jf p q
 | .more _ _ p q r=>jf p q⊕oV r
 | .norm p q=>jf p q
def QK:Nat->Exit
 | 0=>.ret
 | i+1=>.exit i
def Jo (x:Nat):Exit->Bool
 | .ret=>match x with | 0=>true | _=>false
 | .exit i=>match x with | 0=>false | j+1=>Nat.beq i j
 | _=>false
def xz (np:Nat):(xs:XS)->oV xs->Tree (Exit×AS)
 | .one x _ p q,z=>.ret (QK x,qH p q np z)
 | .more x _ p q r,z=>match z with
  | .inl z=>.ret (QK x,qH p q np z)
  | .inr z=>xz np r z
 | .norm p q,z=>.ret (.normal,qH p q np z)
def Es (np:Nat) (e:Exit) (A:AS):(xs:XS)->Option (oV xs)
 | .one x pre p q=>match Jo x e with | true=>Bc p q np (tX pre A) | false=>none
 | .more x pre p q r=>match Jo x e with
  | true=>match Bc p q np (tX pre A) with | some z=>some (.inl z) | none=>none
  | false=>match Es np e A r with | some z=>some (.inr z) | none=>none
 | .norm _ _=>none
def endRound (pre:List Pre) (p:PS) (q:PM) (np:Nat) (xs:XS) (r:Exit×AS):Tree (jf p q⊕oV xs) :=
 match r with
 | (.normal,A)=>match Bc p q np (tX pre A) with | some z=>.ret (.inl z) | none=>.fail
 | (e,A)=>match Es np e A xs with | some z=>.ret (.inr z) | none=>.fail
structure Lp where
 key:Nat
 pre:List Pre
 X6:List Pre
 p:PS
 q:PM
 np:Nat
 xs:XS
 f:jf p q->Tree (oV xs)
def Bd:List Lp->Nat->AS->Option (Tree (Exit×AS))
 | [],_,_=>none
 | g::l,k,A=>match Nat.beq g.key k with
  | true=>match Bc g.p g.q g.np (tX g.pre A) with
   | some z=>some ((g.f z).bind (xz g.np g.xs))
   | none=>Bd l k A
  | false=>Bd l k A
def aO (l:List aA) (lps:List Lp) (fz:Nat->List Pre):bW:=⟨Bb l,fun _ _ _=>none,Bd lps,fz⟩
def aU:Nat->List Pre:=fun _=>[]
abbrev Str:=List UInt8
@[reducible] def ask {α:Type} (k:Bool) (t:Tree α):Tree α:=.ite k t .fail
abbrev ay (x:Int):Int:=IntKind.i64.wrap x
abbrev aD (i:Int) (n:Nat):Bool:=ae.aD i n
abbrev df (i:Int) (n:Nat):Bool:=ae.df i n
abbrev eY (a b:Str):Bool:=Op.bytesLess a b
abbrev gU (s:Str) (i:Int):Int:=ae.E9 s i.toNat
abbrev jd (s:Str) (l h:Nat):Str:=ae.BB s l h
end Go.aT
