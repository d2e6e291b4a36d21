/- An abstract machine for Go code: abstract values, abstract memory, the operations on them. Nothing is proved here. -/
import Derived.WalkKit
namespace Go.aT
open Go
inductive Ty where
 |int (k:IntKind)
 |bool
 |str
 |pair (a b:Ty)
 |list (e:Ty)
 |smap
 |dm (k:IntKind)
 deriving DecidableEq,Inhabited
@[reducible] def El:Ty->Type
 | .int _=>Int
 | .bool=>Bool
 | .str=>List UInt8
 | .pair a b=>El a×El b
 | .list e=>List (El e)
 | .smap=>List (List UInt8×Int)
 | .dm _=>Int
def aW:Ty->Nat
 | .pair a b=>aW a+aW b
 | _=>1
def aS:(t:Ty)->El t
 | .int _=>(0:Int)
 | .bool=>false
 | .str=>[]
 | .pair a b=>(aS a,aS b)
 | .list _=>[]
 | .smap=>[]
 | .dm _=>(0:Int)
inductive AV where
 |undef
 |int (k:IntKind) (n:Int)
 |bool (b:Bool)
 |str (s:List UInt8)
 |agg (cs:List AV)
 |bN (vs:List AV)
 |dG
 |bS (n:Nat) (c:Nat->AV)
 |ref (b off:Nat)
 |dJ (b:Nat)
 |fA (b n:Nat)
 |mp (b:Nat)
 |sub (b j:Nat)
 |mv (t u:Ty) (l:List (El t×El u))
 |dN (k:Nat) (vs:List AV)
 |bY (b i off:Nat)
 |slice (sz n:Nat) (full:Bool) (c:Nat->Nat->AV)
 |bF (t:Ty) (l:List (El t)) (full:Bool)
 |bR
 |emp
 |own (b n:Nat)
 |bz (b:Nat)
 |tail (b lo n:Nat)
 |fn (f:Fn) (first captured:List AV)
 |bu
 |dZ
 |gM
 |sF (b:Bool) (vs:List AV)
 |eG (n:Nat)
 |eU (id:Nat) (first cap:List AV)
 deriving Inhabited
inductive bT where
 |cells (e:TypeId) (cs:List AV)
 |rows (e:TypeId) (sz n:Nat) (c:Nat->Nat->AV)
 |bC (e:TypeId) (t:Ty) (l:List (El t))
 |arr (e:TypeId) (t:Ty) (l:List (El t))
 |dV (e:TypeId) (t:Ty) (l:List (El t))
 |map (t u:Ty) (l:List (El t×El u))
 |dW (s:List UInt8) (pos:Nat)
 |dz (x:List (List UInt8×(Int×(List UInt8×Int)))) (y:List (List (List UInt8×Int)))
 |dead
 deriving Inhabited
abbrev Mem:=List bT
inductive TD where
 |int (k:IntKind) | bool | str
 |struct (fs:List (Nat×Nat))
 |array (n e:Nat)
 |slice (e:Nat)
 |map (k e:Nat)
 |ptr (e:Nat)
 |func
 |other
 deriving Inhabited
structure pE where
 d:TD
 sz:Nat
 bytes:Nat
 z:List AV
 ty:Option Ty:=none
 deriving Inhabited
abbrev aX:=List pE
structure bg where
 arith:BinOp->IntKind->Int->Int->Int
 shift:BinOp->IntKind->Int->Int->Int
 conv:IntKind->Int->Int
 lt:Int->Int->Bool
 le:Int->Int->Bool
 eq:Int->Int->Bool
 imax:Int->Int->Int
 jh:Int->Int->Int
 not:Bool->Bool
 and:Bool->Bool->Bool
 or:Bool->Bool->Bool
 beq:Bool->Bool->Bool
 imp:Bool->Bool->Bool
 aD:Int->Nat->Bool
 df:Int->Nat->Bool
 ble:Nat->Nat->Bool
 ofNat:Nat->Int
 toNat:Int->Nat
 jH:Nat->Nat->Nat
 uR:Nat->Nat->Nat
 ky:Nat->Nat->Nat
 aal:Nat->Nat->Nat
 neq:Nat->Nat->Bool
 mZ:List UInt8->Nat
 E9:List UInt8->Nat->Int
 BB:List UInt8->Nat->Nat->List UInt8
 RU:List UInt8->List UInt8->List UInt8
 seq:List UInt8->List UInt8->Bool
 slt:List UInt8->List UInt8->Bool
 rune:List UInt8->Nat->Int
 sG:List UInt8->Nat->Nat
def Kh:BinOp->IntKind->Int->Int->Int
 | .add,k,a,b=>k.wrap (a+b)
 | .sub,k,a,b=>k.wrap (a-b)
 | .mul,k,a,b=>k.wrap (a*b)
 | .quo,k,a,b=>k.wrap (a.tdiv b)
 | .rem,_,a,b=>a.tmod b
 | .and,k,a,b=>k.wrap ((BitVec.ofInt k.bits a &&& BitVec.ofInt k.bits b).toNat:Int)
 | .or,k,a,b=>k.wrap ((BitVec.ofInt k.bits a ||| BitVec.ofInt k.bits b).toNat:Int)
 | .xor,k,a,b=>k.wrap ((BitVec.ofInt k.bits a ^^^ BitVec.ofInt k.bits b).toNat:Int)
 | .andNot,k,a,b=>k.wrap ((BitVec.ofInt k.bits a &&& ~~~(BitVec.ofInt k.bits b)).toNat:Int)
 | _,_,_,_=>0
def aam:BinOp->IntKind->Int->Int->Int
 | .shl,k,a,b=>k.wrap (a*2 ^ (min b.toNat k.bits))
 | _,k,a,b=>a.fdiv (2 ^ (min b.toNat k.bits))
def bytes (s:List UInt8):ByteArray:=⟨s.toArray⟩
def ae:bg where
 arith:=Kh
 shift:=aam
 conv:=fun k n=>k.wrap n
 lt:=fun a b=>decide (a<b)
 le:=fun a b=>decide (a<=b)
 eq:=fun a b=>decide (a=b)
 imax:=fun a b=>if b > a then b else a
 jh:=fun a b=>if b<a then b else a
 not:=fun a=>!a
 and:=fun a b=>a&&b
 or:=fun a b=>a||b
 beq:=fun a b=>a==b
 imp:=fun a b=>!a||b
 aD:=fun i n=>decide (0<=i/\i<n)
 df:=fun i n=>decide (0<=i/\i<=n)
 ble:=fun a b=>decide (a<=b)
 ofNat:=fun n=>(n:Int)
 toNat:=fun i=>i.toNat
 jH:=fun a b=>a+b
 uR:=fun a b=>a-b
 ky:=fun a b=>a*b
 aal:=fun a b=>min a b
 neq:=fun a b=>decide (a=b)
 mZ:=fun s=>s.length
 E9:=fun s i=>((s.getD i 0).toNat:Int)
 BB:=fun s l h=>(s.drop l).take (h-l)
 RU:=fun a b=>a++b
 seq:=fun a b=>a==b
 slt:=fun a b=>Op.bytesLess a b
 rune:=fun s i=>(Utf8.decode (bytes s) i).1
 sG:=fun s i=>if i<s.length then i+(Utf8.decode (bytes s) i).2 else i
def nth:List AV->Nat->AV
 | [],_=>.undef
 | a::_,0=>a
 | _::l,n+1=>nth l n
def put:List AV->Nat->AV->List AV
 | [],_,_=>[]
 | _::l,0,v=>v::l
 | a::l,n+1,v=>a::put l n v
def blk:Mem->Nat->bT
 | [],_=>.dead
 | a::_,0=>a
 | _::l,n+1=>blk l n
def dA:Mem->Nat->bT->Mem
 | [],_,_=>[]
 | _::l,0,v=>v::l
 | a::l,n+1,v=>a::dA l n v
def ag:aX->Nat->pE
 | [],_=>⟨.other,0,0,[],none⟩
 | a::_,0=>a
 | _::l,n+1=>ag l n
def xW (f:Nat->Option Ty):List (Nat×Nat)->Option Ty
 | []=>none
 | [(t,_)]=>f t
 | (t,_)::l=>match f t,xW f l with
  | some a,some b=>some (.pair a b)
  | _,_=>none
def BC (u:Ty):Nat->Ty
 | 0=>u
 | n+1=>.pair u (BC u n)
def sH (T:aX):Nat->Nat->Option Ty
 | 0,_=>none
 | n+1,t=>match (ag T t).d with
  | .int k=>some (.int k)
  | .bool=>some .bool
  | .str=>some .str
  | .slice e=>match sH T n e with | some u=>some (.list u) | none=>none
  | .struct fs=>xW (sH T n) fs
  | .array 0 _=>none
  | .array (k+1) e=>match Nat.ble k 8,sH T n e with | true,some u=>some (BC u k) | _,_=>none
  | _=>none
def tab (c:Nat->AV):Nat->Nat->List AV
 | _,0=>[]
 | i,n+1=>c i::tab c (i+1) n
def takeN:Nat->List AV->List AV
 | 0,_=>[]
 | _,[]=>[]
 | n+1,a::l=>a::takeN n l
def jP:Nat->List AV->List AV
 | 0,l=>l
 | _,[]=>[]
 | n+1,_::l=>jP n l
def au:List AV->Nat
 | []=>0
 | _::l=>au l+1
def aB:Mem->Nat
 | []=>0
 | _::l=>aB l+1
def bK:List AV->List AV->List AV
 | [],l=>l
 | a::k,l=>a::bK k l
def fI:Mem->bT->Mem
 | [],b=>[b]
 | a::l,b=>a::fI l b
abbrev xX:Ty:=.pair (.int .i64) (.pair .str .smap)
def uS (x:List (List UInt8×(Int×(List UInt8×Int)))) (y:List (List (List UInt8×Int))):List (El .str×El xX):=x.map fun p=>(p.1,(p.2.1,(p.2.2.1,y.getD (p.2.2.2.toNat+1) [])))
def xY:Ty->Bool
 | .pair (.int .i64) (.pair .str .smap)=>true
 | _=>false
def Ki:bT->Option Bool
 | .map _ _ _=>some false
 | .dz _ y=>some (Nat.beq y.length 0)
 | _=>none
def isCells:bT->Bool
 | .cells _ _=>true
 | .map _ _ _=>true
 | _=>false
def xZ:AV->Bool
 | .int .. | .bool _ | .str _ | .dG | .bS .. | .ref .. | .dJ _ | .fA .. | .mp _ | .sub .. | .mv .. | .bY .. | .slice .. | .bF .. | .bR | .emp | .own .. | .bz _ | .tail .. | .fn .. | .eU .. | .bu | .dZ | .gM=>true
 | _=>false
def iH:List AV->Bool
 | []=>true
 | a::l=>match xZ a with | true=>iH l | false=>false
def dB:(t:Ty)->El t->List AV
 | .int k,n=>[.int k n]
 | .bool,b=>[.bool b]
 | .str,s=>[.str s]
 | .pair a b,x=>bK (dB a x.1) (dB b x.2)
 | .list e,l=>[.bF e l false]
 | .smap,l=>[.mv .str (.int .i64) l]
 | .dm k,n=>[.int k n]
def jk (t:Ty) (l:List (El t)) (i:Nat):List AV:=dB t (l.getD i (aS t))
def vw (t:Ty) (l:List (El t)) (i j:Nat):AV:=nth (jk t l i) j
def jr (t t':Ty) (l:List (El t)):Option (List (El t')) :=
 match decEq t t' with
 | isTrue h=>some (Eq.rec (motive:=fun u _=>List (El u)) l h)
 | isFalse _=>none
def Fa (k:IntKind):List AV->Option (Int×List AV)
 | .int k' n::r=>match decide (k=k') with | true=>some (n,r) | false=>none
 | _=>none
def RV:List AV->Option (Bool×List AV)
 | .bool b::r=>some (b,r)
 | _=>none
def RX:List AV->Option (List UInt8×List AV)
 | .str s::r=>some (s,r)
 | _=>none
def RY (e:Ty):List AV->Option (List (El e)×List AV)
 | .bF e' l _::r=>match jr e' e l with | some l=>some (l,r) | none=>none
 | .bR::r=>some ([],r)
 | .emp::r=>some ([],r)
 | _=>none
def mg:(t:Ty)->List AV->Option (El t×List AV)
 | .int k,cs=>Fa k cs
 | .bool,cs=>RV cs
 | .str,cs=>RX cs
 | .pair a b,cs=>match mg a cs with
  | some (x,r)=>match mg b r with
   | some (y,r')=>some ((x,y),r')
   | none=>none
  | none=>none
 | .list e,cs=>RY e cs
 | .smap,_=>none
 | .dm k,cs=>Fa k cs
def ic (t:Ty) (cs:List AV):Option (El t):=match mg t cs with | some (x,[])=>some x | _=>none
def uT (t:Ty):Nat->List AV->Option (List (El t))
 | 0,[]=>some []
 | 0,_=>none
 | n+1,cs=>match mg t cs with
  | some (x,r)=>match uT t n r with
   | some l=>some (x::l)
   | none=>none
  | none=>none
def lK {α:Type} (lo n:Nat) (x:α) (l:List α):List α:=l.mapIdx fun i y=>match decide (lo<=i/\i<lo+n) with | true=>x | false=>y
def cellsOf:AV->List AV
 | .agg cs=>cs
 | v=>[v]
def scalar:AV->Bool
 | .int .. | .bool _ | .str _=>true
 | _=>false
def Kj:List AV->Bool
 | []=>true
 | a::l=>match scalar a with | true=>Kj l | false=>false
def outside:AV->Bool
 | .int .. | .bool _ | .str _ | .dG | .bS .. | .slice .. | .bF .. | .mv .. | .bR | .emp | .eU .. | .bu | .dZ | .gM=>true
 | _=>false
def jl:List AV->Bool
 | []=>true
 | a::l=>match outside a with | true=>jl l | false=>false
def ng:AV->Bool
 | .agg cs=>jl cs
 | v=>outside v
def BD:List AV->Bool
 | []=>true
 | a::l=>match ng a with | true=>BD l | false=>false
def Fb:List UInt8->Nat
 | []=>0
 | _::l=>Fb l+1
def x8:Value->AV
 | .int k n=>match (Lit.int k n).wf with | true=>.int k n | false=>.undef
 | .bool b=>.bool b
 | .string s=>match Nat.ble (Fb s.data.toList) 100000 with | true=>.str s.data.toList | false=>.undef
 | .pointer none=>.dG
 | .slice none 0 0=>.bR
 | .nilFunc=>.bu
 | .map none=>.dZ
 | .nilIface=>.gM
 | _=>.undef
def kR:List Value->List AV
 | []=>[]
 | v::l=>x8 v::kR l
def bE (ts:List AV):Operand->AV
 | .tmp t=>nth ts t
 | .const (.agg cs)=>match iH (kR cs.toList) with | true=>.agg (kR cs.toList) | false=>.undef
 | .const v=>x8 v
 | .func f=>.fn (.func f) [] []
 | .global _=>.undef
def dC (ts:List AV):List Operand->List AV
 | []=>[]
 | o::l=>bE ts o::dC ts l
structure R where
 v:AV
 m:Mem
 ks:List Bool
 inv:Option Nat
def bad (m:Mem):R:=⟨.undef,m,[false],none⟩
def val (m:Mem) (v:AV):R:=⟨v,m,[],none⟩
def cz (m:Mem) (k:Bool) (v:AV):R:=⟨v,m,[k],none⟩
def uU (p:bg) (m:Mem) (op:BinOp) (k:IntKind) (a b:Int):R :=
 match op with
 | .add | .sub | .mul | .and | .or | .xor | .andNot=>val m (.int k (p.arith op k a b))
 | .quo | .rem=>cz m (p.not (p.eq b 0)) (.int k (p.arith op k a b))
 | .eql=>val m (.bool (p.eq a b))
 | .neq=>val m (.bool (p.not (p.eq a b)))
 | .lss=>val m (.bool (p.lt a b))
 | .leq=>val m (.bool (p.le a b))
 | .gtr=>val m (.bool (p.lt b a))
 | .geq=>val m (.bool (p.le b a))
 | .shl | .shr=>bad m
def BF (p:bg) (m:Mem) (op:BinOp) (k:IntKind) (a b:Int):R:=bad m
def x9 (p:bg) (m:Mem) (op:BinOp) (a b:List UInt8):R :=
 match op with
 | .add=>cz m (p.ble (p.jH (p.mZ a) (p.mZ b)) 9223372036854775807) (.str (p.RU a b))
 | .eql=>val m (.bool (p.seq a b))
 | .neq=>val m (.bool (p.not (p.seq a b)))
 | .lss=>val m (.bool (p.slt a b))
 | .leq=>val m (.bool (p.or (p.slt a b) (p.seq a b)))
 | .gtr=>val m (.bool (p.not (p.or (p.slt a b) (p.seq a b))))
 | .geq=>val m (.bool (p.not (p.slt a b)))
 | _=>bad m
def qQ (p:bg) (T:aX) (t:Nat) (x y:AV):Option Bool :=
 match (ag T t).d,x,y with
 | .int _,.int k a,.int k' b=>match decide (k=k') with | true=>some (p.eq a b) | false=>none
 | .bool,.bool a,.bool b=>some (p.beq a b)
 | .str,.str a,.str b=>some (p.seq a b)
 | _,_,_=>none
def uV (p:bg):Option Bool->Option Bool->Option Bool
 | some a,some b=>some (p.and a b)
 | _,_=>none
def BG (p:bg) (T:aX) (e:Nat) (xs ys:List AV):Nat->Nat->Option Bool
 | _,0=>some true
 | i,n+1=>uV p (qQ p T e (nth xs i) (nth ys i)) (BG p T e xs ys (i+1) n)
def uW:TD->Bool
 | .int _=>true
 | .bool=>true
 | .str=>true
 | _=>false
mutual
def uX (p:bg) (T:aX):Nat->Nat->List AV->List AV->Option Bool
 | 0,_,_,_=>none
 | n+1,t,xs,ys =>
  match (ag T t).d with
  | .struct fs=>eqFields p T n fs xs ys
  | .array k e=>match uW (ag T e).d,Nat.beq (ag T e).sz 1,Nat.ble k (au xs),Nat.ble k (au ys) with
   | true,true,true,true=>BG p T e xs ys 0 k
   | _,_,_,_=>none
  | _=>none
def eqFields (p:bg) (T:aX):Nat->List (Nat×Nat)->List AV->List AV->Option Bool
 | _,[],_,_=>some true
 | 0,_,_,_=>none
 | n+1,(t,off)::fs,xs,ys =>
  match Nat.ble 1 (ag T t).sz,Nat.ble (off+(ag T t).sz) (au xs),Nat.ble (off+(ag T t).sz) (au ys) with
  | true,true,true=>match (ag T t).d with
   | .struct _=>uV p (uX p T n t (takeN (ag T t).sz (jP off xs)) (takeN (ag T t).sz (jP off ys))) (eqFields p T n fs xs ys)
   | .array _ _=>none
   | _=>uV p (qQ p T t (nth xs off) (nth ys off)) (eqFields p T n fs xs ys)
  | _,_,_=>none
end
def uY (p:bg) (T:aX) (m:Mem) (op:BinOp) (t:Nat) (x y:AV):R :=
 match op,x,y with
 | .shl,.int k a,.int _ b=>BF p m .shl k a b
 | .shr,.int k a,.int _ b=>BF p m .shr k a b
 | op,.int k a,.int k' b=>match decide (k=k') with | true=>uU p m op k a b | false=>bad m
 | op,.str a,.str b=>x9 p m op a b
 | .eql,.bool a,.bool b=>match (ag T t).d with | .bool=>val m (.bool (p.beq a b)) | _=>bad m
 | .neq,.bool a,.bool b=>match (ag T t).d with | .bool=>val m (.bool (p.not (p.beq a b))) | _=>bad m
 | .eql,.agg xs,.agg ys=>match uX p T 40 t xs ys with | some b=>val m (.bool b) | none=>bad m
 | .eql,.slice _ n _ _,.bR=>match (ag T t).d with | .slice _=>val m (.eG n) | _=>bad m
 | .eql,.bF _ l _,.bR=>match (ag T t).d with | .slice _=>val m (.eG l.length) | _=>bad m
 | .eql,.bz b,.bR=>match (ag T t).d,blk m b with | .slice _,.bC _ _ l=>val m (.eG l.length) | _,_=>bad m
 | .eql,.own _ n,.bR=>match (ag T t).d with | .slice _=>val m (.eG n) | _=>bad m
 | .eql,.emp,.bR=>match (ag T t).d with | .slice _=>val m (.eG 0) | _=>bad m
 | .eql,.bR,.bR=>match (ag T t).d with | .slice _=>val m (.bool true) | _=>bad m
 | .eql,.ref _ _,.dG=>match (ag T t).d with | .ptr _=>val m (.bool false) | _=>bad m
 | .eql,.bS _ _,.dG=>match (ag T t).d with | .ptr _=>val m (.bool false) | _=>bad m
 | .eql,.dG,.dG=>match (ag T t).d with | .ptr _=>val m (.bool true) | _=>bad m
 | .neq,.ref _ _,.dG=>match (ag T t).d with | .ptr _=>val m (.bool true) | _=>bad m
 | .neq,.bS _ _,.dG=>match (ag T t).d with | .ptr _=>val m (.bool true) | _=>bad m
 | .neq,.dG,.dG=>match (ag T t).d with | .ptr _=>val m (.bool false) | _=>bad m
 | .eql,.mp b,.dZ=>match (ag T t).d,Ki (blk m b) with | .map _ _,some q=>val m (.bool q) | _,_=>bad m
 | .eql,.mv _ u _,.dZ=>match (ag T t).d,xY u with | .map _ _,false=>val m (.bool false) | _,_=>bad m
 | .eql,.dZ,.dZ=>match (ag T t).d with | .map _ _=>val m (.bool true) | _=>bad m
 | .neq,.mp b,.dZ=>match (ag T t).d,Ki (blk m b) with | .map _ _,some q=>val m (.bool (p.not q)) | _,_=>bad m
 | .neq,.mv _ u _,.dZ=>match (ag T t).d,xY u with | .map _ _,false=>val m (.bool true) | _,_=>bad m
 | .neq,.dZ,.dZ=>match (ag T t).d with | .map _ _=>val m (.bool false) | _=>bad m
 | .neq,.agg xs,.agg ys=>match uX p T 40 t xs ys with | some b=>val m (.bool (p.not b)) | none=>bad m
 | _,_,_=>bad m
def uZ (p:bg) (m:Mem) (op:UnOp) (x:AV):R :=
 match op,x with
 | .not,.bool b=>val m (.bool (p.not b))
 | .neg,.int k n=>val m (.int k (p.arith .sub k 0 n))
 | .xor,.int k n=>val m (.int k (p.arith .xor k (match k.signed with | true => -1 | false=>k.max) n))
 | _,_=>bad m
def u6 (p:bg) (T:aX) (m:Mem) (s d:Nat) (x:AV):R :=
 match (ag T s).d,(ag T d).d,x with
 | .int _,.int k,.int _ n=>val m (.int k (p.conv k n))
 | .str,.str,.str s=>val m (.str s)
 | _,_,_=>bad m
def gp (T:aX) (t:Nat):Bool :=
 match (ag T t).d with
 | .struct _ | .array _ _=>true
 | _=>false
def yc:TD->Bool
 | .other=>true
 | _=>false
def pF (T:aX) (m:Mem) (t:Nat) (a:AV):R :=
 match gp T t,a with
 | true,.bS n c=>match Nat.ble (ag T t).sz n with | true=>val m (.agg (tab c 0 (ag T t).sz)) | false=>bad m
 | true,.ref b off=>match blk m b with
  | .cells _ cs=>match Nat.ble (off+(ag T t).sz) (au cs) with | true=>val m (.agg (takeN (ag T t).sz (jP off cs))) | false=>bad m
  | .arr _ u l=>match Nat.beq (aW u) 1 with | true=>cz m (Nat.ble (off+(ag T t).sz) l.length) (.agg (tab (fun j=>vw u l (off+j) 0) 0 (ag T t).sz)) | false=>bad m
  | _=>bad m
 | true,.bY b i off=>match blk m b with
  | .rows _ sz _ c=>match Nat.ble (off+(ag T t).sz) sz with | true=>val m (.agg (tab (c i) off (ag T t).sz)) | false=>bad m
  | .bC _ u l=>match Nat.ble (off+(ag T t).sz) (aW u) with | true=>val m (.agg (takeN (ag T t).sz (jP off (jk u l i)))) | false=>bad m
  | _=>bad m
 | false,a=>match yc (ag T t).d,a with
  | false,.bS n c=>match Nat.ble 1 n with | true=>val m (c 0) | false=>bad m
  | false,.dN (k+1) cs=>match Nat.blt k (au cs) with | true=>val m (nth cs k) | false=>bad m
  | false,.ref b off=>match blk m b with
   | .cells _ cs=>match Nat.ble (off+1) (au cs) with | true=>val m (nth cs off) | false=>bad m
   | .arr _ u l=>match Nat.beq (aW u) 1 with | true=>cz m (Nat.ble (off+1) l.length) (vw u l off 0) | false=>bad m
   | _=>bad m
  | false,.bY b i off=>match blk m b with
   | .rows _ sz _ c=>match Nat.ble (off+1) sz with | true=>val m (c i off) | false=>bad m
   | .bC _ u l=>match Nat.ble (off+1) (aW u) with | true=>val m (nth (jk u l i) off) | false=>bad m
   | _=>bad m
  | _,_=>bad m
 | _,_=>bad m
def nV:List AV->Nat->List AV->List AV
 | cs,_,[]=>cs
 | cs,off,v::l=>nV (put cs off v) (off+1) l
def Fe (c:Nat->Nat->AV) (i off sz:Nat) (cs:List AV):Nat->Nat->AV :=
 fun i' j=>if i'=i then (if off<=j/\j<off+sz then nth cs (j-off) else c i' j) else c i' j
def u7 (T:aX) (m:Mem) (t:Nat) (a v:AV):R :=
 match Nat.ble 1 (ag T t).sz,Nat.beq (au (cellsOf v)) (ag T t).sz,iH (cellsOf v),a with
 | true,true,true,.ref b off=>match blk m b with
  | .cells e old=>match Nat.ble (off+(ag T t).sz) (au old) with | true=>⟨.undef,dA m b (.cells e (nV old off (cellsOf v))),[],none⟩ | false=>bad m
  | .arr e u l=>match Nat.beq (ag T t).sz 1,Nat.beq (aW u) 1,jl (cellsOf v),ic u (cellsOf v) with
   | true,true,true,some x=>⟨.undef,dA m b (.arr e u (l.set off x)),[Nat.ble (off+1) l.length],none⟩
   | _,_,_,_=>bad m
  | _=>bad m
 | true,true,true,.bY b i off=>match blk m b,jl (cellsOf v) with
  | .rows e sz n c,true=>match Nat.ble (off+(ag T t).sz) sz with
   | true=>⟨.undef,dA m b (.rows e sz n (Fe c i off (ag T t).sz (cellsOf v))),[],none⟩
   | false=>bad m
  | .bC e u l,true=>match Nat.ble (off+(ag T t).sz) (aW u),ic u (nV (jk u l i) off (cellsOf v)) with
   | true,some x=>⟨.undef,dA m b (.bC e u (l.set i x)),[],none⟩
   | _,_=>bad m
  | _,_=>bad m
 | _,_,_,_=>bad m
def Ff (m:Mem) (b:bT):R:=⟨.ref (aB m) 0,fI m b,[],none⟩
def Fg (T:aX) (m:Mem) (t:Nat) (v:AV):R :=
 let cs:=cellsOf v
 match iH cs with
 | true=>Ff m (.cells t cs)
 | false=>bad m
def Fh (T:aX) (m:Mem) (t:Nat):R :=
 match Nat.ble 1 (ag T t).sz,iH (ag T t).z with
 | true,true=>Ff m (.cells t (ag T t).z)
 | _,_=>bad m
def nW (place:Nat->Option (Nat×Nat)) (cells:List AV):List (Nat×AV)->Option (List AV)
 | []=>some cells
 | (i,v)::rest =>
  match place i with
  | none=>none
  | some (off,size) =>
   match Nat.beq (au (cellsOf v)) size,Nat.ble (off+size) (au cells),iH (cellsOf v) with
   | true,true,true=>nW place (nV cells off (cellsOf v)) rest
   | _,_,_=>none
def yf (T:aX):List (Nat×Nat)->Nat->Option (Nat×Nat)
 | [],_=>none
 | (t,off)::_,0=>some (off,(ag T t).sz)
 | _::fs,n+1=>yf T fs n
def kS (ts:List AV):List (Nat×Operand)->List (Nat×AV)
 | []=>[]
 | (i,o)::l=>(i,bE ts o)::kS ts l
def Fj (T:aX):List (Nat×Nat)->Bool
 | []=>true
 | (t,_)::l=>match Nat.ble 1 (ag T t).sz with | true=>Fj T l | false=>false
def ve (T:aX) (m:Mem) (t:Nat) (ps:List (Nat×AV)):R :=
 match (ag T t).d with
 | .struct fs=>match iH (ag T t).z,Fj T fs,nW (yf T fs) (ag T t).z ps with | true,true,some cs=>val m (.agg cs) | _,_,_=>bad m
 | .array _ e=>match iH (ag T t).z,Nat.ble 1 (ag T e).sz,nW (fun i=>some (i*(ag T e).sz,(ag T e).sz)) (ag T t).z ps with | true,true,some cs=>val m (.agg cs) | _,_,_=>bad m
 | _=>bad m
def pG:Nat->List AV->List AV
 | 0,_=>[]
 | n+1,z=>bK z (pG n z)
def Fp (sz:Nat) (cs:List AV):Nat->Nat->AV:=fun i j=>nth cs (i*sz+j)
def Fq (ty:Option Ty) (sz n:Nat) (cs:List AV):AV :=
 match ty with
 | none=>.slice sz n true (Fp sz cs)
 | some t=>match Nat.beq (aW t) sz,uT t n cs with
  | true,some l=>.bF t l true
  | _,_=>.slice sz n true (Fp sz cs)
def vg (T:aX) (m:Mem) (t len:Nat) (ps:List (Nat×AV)):R :=
 match (ag T t).d,len,ps with
 | .slice e,0,[]=>match Nat.ble 1 (ag T e).sz,iH (ag T e).z,Nat.beq (au (ag T e).z) (ag T e).sz with
  | true,true,true=>val m .emp
  | _,_,_=>bad m
 | .slice e,len,ps =>
  match Nat.ble 1 (ag T e).sz,Nat.ble (len*(ag T e).sz) 1000,iH (ag T e).z,Nat.beq (au (ag T e).z) (ag T e).sz,
    nW (fun i=>some (i*(ag T e).sz,(ag T e).sz)) (pG len (ag T e).z) ps with
  | true,true,true,true,some cs=>match jl cs with
   | true=>val m (Fq (ag T e).ty (ag T e).sz len cs)
   | false=>match Nat.beq (ag T e).sz 1 with | true=>val m (.dN 0 cs) | false=>bad m
  | _,_,_,_,_=>bad m
 | _,_,_=>bad m
def BH (T:aX) (m:Mem) (t len:Nat) (ps:List (Nat×AV)):R :=
 match (ag T t).d with
 | .slice e =>
  match Nat.ble 1 (ag T e).sz,Nat.ble (len*(ag T e).sz) 1000,iH (ag T e).z,Nat.beq (au (ag T e).z) (ag T e).sz,
    nW (fun i=>some (i*(ag T e).sz,(ag T e).sz)) (pG len (ag T e).z) ps with
  | true,true,true,true,some cs=>match jl cs,(ag T e).ty with
   | true,some u=>match Nat.beq (aW u) (ag T e).sz,uT u len cs with
    | true,some l=>⟨.bz (aB m),fI m (.bC e u l),[],none⟩
    | _,_=>bad m
   | _,_=>bad m
  | _,_,_,_,_=>bad m
 | _=>bad m
def pJ:List (Nat×Nat)->Nat->Option (Nat×Nat)
 | [],_=>none
 | f::_,0=>some f
 | _::l,n+1=>pJ l n
def vo (T:aX) (m:Mem) (t:Nat) (x:AV) (f:Nat):R :=
 match (ag T t).d with
 | .struct fs=>match pJ fs f with
  | some (ft,off)=>match Nat.ble 1 (ag T ft).sz,x with
   | true,.ref b o=>val m (.ref b (o+off))
   | true,.bY b i o=>val m (.bY b i (o+off))
   | true,.bS n c=>match Nat.ble off n with | true=>val m (.bS (n-off) fun j=>c (off+j)) | false=>bad m
   | _,_=>bad m
  | none=>bad m
 | _=>bad m
def vz (T:aX) (m:Mem) (t:Nat) (x:AV) (f:Nat):R :=
 match (ag T t).d,x with
 | .struct fs,.agg cs=>match pJ fs f with
  | some (ft,off)=>match gp T ft with
   | true=>match Nat.ble 1 (ag T ft).sz,Nat.ble (off+(ag T ft).sz) (au cs) with | true,true=>val m (.agg (takeN (ag T ft).sz (jP off cs))) | _,_=>bad m
   | false=>match yc (ag T ft).d,Nat.ble (off+1) (au cs) with | false,true=>val m (nth cs off) | _,_=>bad m
  | none=>bad m
 | _,_=>bad m
def BI (p:bg):Option Nat->Int->Nat
 | some k,_=>k
 | none,i=>p.toNat i
def Kk (o k sz:Nat):Nat:=match o,sz with | 0,1=>k | o,sz=>o+k*sz
theorem aan (o k sz:Nat):Kk o k sz=o+k*sz:=by
 unfold Kk
 split
 ·omega
 ·rfl
def yg:Option Nat->Int->Option Nat
 | some k,_=>some k
 | none,.ofNat k=>some k
 | none,_=>none
def vB (p:bg) (T:aX) (m:Mem) (t:Nat) (lit:Option Nat) (x i:AV):R :=
 match (ag T t).d,x,i with
 | .slice e,.slice sz n _ c,.int _ i=>match Nat.beq sz (ag T e).sz,Nat.ble 1 (ag T e).sz with
  | true,true=>cz m (p.aD i n) (.bS sz (c (p.toNat i)))
  | _,_=>bad m
 | .slice e,.bF u l _,.int _ i=>match Nat.beq (aW u) (ag T e).sz,Nat.ble 1 (ag T e).sz with
  | true,true=>cz m (p.aD i l.length) (.bS (aW u) (nth (jk u l (p.toNat i))))
  | _,_=>bad m
 | .slice e,.own b n,.int _ i=>match blk m b with
  | .rows _ sz _ _=>match Nat.beq sz (ag T e).sz,Nat.ble 1 (ag T e).sz with
   | true,true=>cz m (p.aD i n) (.bY b (p.toNat i) 0)
   | _,_=>bad m
  | _=>bad m
 | .slice e,.bz b,.int _ i=>match blk m b with
  | .bC _ u l=>match Nat.beq (aW u) (ag T e).sz,Nat.ble 1 (ag T e).sz with
   | true,true=>cz m (p.aD i l.length) (.bY b (p.toNat i) 0)
   | _,_=>bad m
  | _=>bad m
 | .slice e,.tail b lo n,.int _ i=>match blk m b with
  | .bC _ u _=>match Nat.beq (aW u) (ag T e).sz,Nat.ble 1 (ag T e).sz with
   | true,true=>cz m (p.aD i n) (.bY b (p.jH lo (p.toNat i)) 0)
   | _,_=>bad m
  | .rows _ sz _ _=>match Nat.beq sz (ag T e).sz,Nat.ble 1 (ag T e).sz with
   | true,true=>cz m (p.aD i n) (.bY b (p.jH lo (p.toNat i)) 0)
   | _,_=>bad m
  | _=>bad m
 | .slice e,.dN 0 cs,.int _ i=>match Nat.beq (ag T e).sz 1,yg lit i with
  | true,some k=>match Nat.blt k (au cs) with | true=>val m (.dN (k+1) cs) | false=>bad m
  | _,_=>bad m
 | .array n e,.ref b o,.int _ i=>match Nat.ble 1 (ag T e).sz with
  | true=>cz m (p.aD i n) (.ref b (Kk o (BI p lit i) (ag T e).sz))
  | false=>bad m
 | .array n e,.bY b r o,.int _ i=>match Nat.ble 1 (ag T e).sz with
  | true=>cz m (p.aD i n) (.bY b r (o+BI p lit i*(ag T e).sz))
  | false=>bad m
 | .array n e,.bS k c,.int _ i=>match Nat.ble 1 (ag T e).sz,Nat.ble (n*(ag T e).sz) k with
  | true,true=>cz m (p.aD i n) (.bS (ag T e).sz fun j=>c (BI p lit i*(ag T e).sz+j))
  | _,_=>bad m
 | _,_,_=>bad m
def vC (p:bg) (T:aX) (m:Mem) (t:Nat) (lit:Option Nat) (x i:AV):R :=
 match (ag T t).d,x,i with
 | .str,.str s,.int _ i=>cz m (p.aD i (p.mZ s)) (.int .u8 (p.E9 s (p.toNat i)))
 | .array n e,.agg cs,.int _ i=>match yg lit i with
  | some k=>match gp T e with
   | true=>match Nat.ble 1 (ag T e).sz,Nat.ble (k*(ag T e).sz+(ag T e).sz) (au cs) with | true,true=>cz m (p.aD i n) (.agg (takeN (ag T e).sz (jP (k*(ag T e).sz) cs))) | _,_=>bad m
   | false=>match yc (ag T e).d,Nat.ble (k*(ag T e).sz+1) (au cs) with | false,true=>cz m (p.aD i n) (nth cs (k*(ag T e).sz)) | _,_=>bad m
  | none=>bad m
 | _,_,_=>bad m
def ni (p:bg) (T:aX) (m:Mem) (t:Nat) (x:AV) (lo hi:Option AV):R :=
 match (ag T t).d,x with
 | .str,.str s=>match lo,hi with
  | none,none=>val m (.str s)
  | some (.int _ l),none=>cz m (p.df l (p.mZ s)) (.str (p.BB s (p.toNat l) (p.mZ s)))
  | none,some (.int _ h)=>cz m (p.df h (p.mZ s)) (.str (p.BB s 0 (p.toNat h)))
  | some (.int _ l),some (.int _ h)=>⟨.str (p.BB s (p.toNat l) (p.toNat h)),m,[p.df h (p.mZ s),p.df l (p.toNat h)],none⟩
  | _,_=>bad m
 | .slice e,.slice sz n f c=>match Nat.beq sz (ag T e).sz,Nat.ble 1 (ag T e).sz with
  | true,true=>match lo,hi with
   | none,none=>val m (.slice sz n f c)
   | some (.int _ l),none=>cz m (p.df l n) (.slice sz (p.uR n (p.toNat l)) f fun i j=>c (p.jH (p.toNat l) i) j)
   | none,some (.int _ h)=>cz m (p.df h n) (.slice sz (p.toNat h) false c)
   | some (.int _ l),some (.int _ h)=>⟨.slice sz (p.uR (p.toNat h) (p.toNat l)) false (fun i j=>c (p.jH (p.toNat l) i) j),m,[p.df h n,p.df l (p.toNat h)],none⟩
   | _,_=>bad m
  | _,_=>bad m
 | .slice e,.bF u l f=>match Nat.beq (aW u) (ag T e).sz,Nat.ble 1 (ag T e).sz with
  | true,true=>match lo,hi with
   | none,none=>val m (.bF u l f)
   | some (.int _ i),none=>cz m (p.df i l.length) (.bF u (l.drop (p.toNat i)) f)
   | none,some (.int _ h)=>cz m (p.df h l.length) (.bF u (l.take (p.toNat h)) false)
   | some (.int _ i),some (.int _ h)=>⟨.bF u ((l.take (p.toNat h)).drop (p.toNat i)) false,m,[p.df h l.length,p.df i (p.toNat h)],none⟩
   | _,_=>bad m
  | _,_=>bad m
 | .slice e,.bz b=>match Nat.ble 1 (ag T e).sz,blk m b with
  | true,.bC _ u l=>match Nat.beq (aW u) (ag T e).sz with
   | true=>match lo,hi with
    | none,none=>val m (.bz b)
    | none,some (.int _ h)=>cz m (p.df h l.length) (.own b (p.toNat h))
    | some (.int _ i),none=>cz m (p.df i l.length) (.tail b (p.toNat i) (p.uR l.length (p.toNat i)))
    | some (.int _ i),some (.int _ h)=>⟨.tail b (p.toNat i) (p.uR (p.toNat h) (p.toNat i)),m,[p.df h l.length,p.df i (p.toNat h)],none⟩
    | _,_=>bad m
   | false=>bad m
  | _,_=>bad m
 | .slice e,.own b n=>match Nat.ble 1 (ag T e).sz,blk m b,lo,hi with
  | true,_,none,none=>val m (.own b n)
  | true,_,none,some (.int _ h)=>cz m (p.df h n) (.own b (p.toNat h))
  | true,.rows _ sz _ _,some (.int _ l),none=>match Nat.beq sz (ag T e).sz with
   | true=>cz m (p.df l n) (.tail b (p.toNat l) (p.uR n (p.toNat l)))
   | false=>bad m
  | true,.rows _ sz _ _,some (.int _ l),some (.int _ h)=>match Nat.beq sz (ag T e).sz with
   | true=>⟨.tail b (p.toNat l) (p.uR (p.toNat h) (p.toNat l)),m,[p.df h n,p.df l (p.toNat h)],none⟩
   | false=>bad m
  | _,_,_,_=>bad m
 | .slice e,.bR=>match Nat.ble 1 (ag T e).sz,lo,hi with
  | true,none,none=>val m .bR
  | true,none,some (.int _ h)=>cz m (p.df h 0) .bR
  | _,_,_=>bad m
 | .array n e,.ref b 0=>match Nat.ble 1 (ag T e).sz,lo,hi with
  | true,none,none=>cz m (p.ble n 9223372036854775807) (.fA b n)
  | _,_,_=>bad m
 | .array n e,.bS k c=>match Nat.beq (ag T e).sz 1,Nat.ble n k,lo,hi with
  | true,true,none,none=>cz m (p.ble n 9223372036854775807) (Fq (ag T e).ty 1 n (tab c 0 n))
  | _,_,_,_=>bad m
 | _,_=>bad m
def pK (p:bg) (T:aX) (m:Mem) (t:Nat) (x:AV) (hi mx:Operand) (h:AV):R :=
 match (ag T t).d with
 | .slice e=>match Nat.ble 1 (ag T e).sz,hi,mx with
  | true,.const (.int _ (.ofNat 0)),.const (.int _ (.ofNat 0))=>match x with
   | .slice .. | .bF .. | .bR | .emp | .own .. | .bz _ | .tail .. => val m .emp
   | _=>bad m
  | true,.tmp i,.tmp j=>match Nat.beq i j,x,h with
   | true,.slice sz n _ c,.int _ k=>match Nat.beq sz (ag T e).sz with
    | true=>cz m (p.df k n) (.slice sz (p.toNat k) true c)
    | false=>bad m
   | true,.bF u l _,.int _ k=>match Nat.beq (aW u) (ag T e).sz with
    | true=>cz m (p.df k l.length) (.bF u (l.take (p.toNat k)) true)
    | false=>bad m
   | _,_,_=>bad m
  | _,_,_=>bad m
 | _=>bad m
def BJ (p:bg) (T:aX) (m:Mem) (t:Nat) (x h g:AV):R :=
 match (ag T t).d with
 | .slice e=>match Nat.ble 1 (ag T e).sz,x,h,g with
  | true,.bF u l _,.int kd k,.int kd' k'=>match decide (kd=kd'),Nat.beq (aW u) (ag T e).sz with
   | true,true=>cz m (p.and (p.eq k k') (p.df k l.length)) (.bF u (l.take (p.toNat k)) true)
   | _,_=>bad m
  | _,_,_,_=>bad m
 | _=>bad m
def vD (p:bg) (T:aX) (m:Mem) (t:Nat) (x:AV) (hi mx:Operand) (h g:AV):R :=
 match hi,mx with
 | .tmp i,.tmp j=>match Nat.beq i j with
  | true=>pK p T m t x (.tmp i) (.tmp j) h
  | false=>BJ p T m t x h g
 | _,_=>pK p T m t x hi mx h
def vE (m:Mem) (x:AV) (i:Nat):R :=
 match x with
 | .bN vs=>match Nat.ble (i+1) (au vs) with | true=>val m (nth vs i) | false=>bad m
 | .sF b vs=>match i with
  | 0=>val m (.bool b)
  | i+1=>match Nat.ble (i+1) (au vs) with | true=>cz m b (nth vs i) | false=>bad m
 | _=>bad m
def Fs (m:Mem) (x:AV):R :=
 match x with
 | .ref b o=>val m (.ref b o)
 | .bY b i o=>val m (.bY b i o)
 | .bS n c=>val m (.bS n c)
 | _=>bad m
def Fu (T:aX) (m:Mem) (t:Nat) (x:AV):R :=
 match (ag T t).d,x with
 | .str,.str s=>Ff m (.dW s 0)
 | _,_=>bad m
def Fv (p:bg) (m:Mem) (x:AV) (isS:Bool):R :=
 match x,isS with
 | .ref b 0,true=>match blk m b with
  | .dW s pos=>⟨.sF (p.lt (p.ofNat pos) (p.ofNat (p.mZ s))) [.int .i64 (p.ofNat pos),.int .i32 (p.rune s pos)],
    dA m b (.dW s (p.sG s pos)),[],none⟩
  | _=>bad m
 | _,_=>bad m
def vF (p:bg) (T:aX) (m:Mem) (t:Nat) (x:AV):R :=
 match (ag T t).d,x with
 | .str,.str s=>val m (.int .i64 (p.ofNat (p.mZ s)))
 | .slice _,.slice _ n _ _=>val m (.int .i64 (p.ofNat n))
 | .slice _,.bF _ l _=>val m (.int .i64 (p.ofNat l.length))
 | .slice _,.bz b=>match blk m b with | .bC _ _ l=>val m (.int .i64 (p.ofNat l.length)) | _=>bad m
 | .slice _,.own _ n=>val m (.int .i64 (p.ofNat n))
 | .slice _,.tail _ _ n=>val m (.int .i64 (p.ofNat n))
 | .slice _,.bR=>val m (.int .i64 0)
 | .slice _,.emp=>val m (.int .i64 0)
 | .slice _,.dN 0 cs=>val m (.int .i64 (p.ofNat (au cs)))
 | .array n _,_=>cz m (p.ble n 9223372036854775807) (.int .i64 (p.ofNat n))
 | .map _ _,.dZ=>val m (.int .i64 0)
 | .map _ _,.mv _ _ l=>val m (.int .i64 (p.ofNat l.length))
 | .map _ _,.mp b=>match blk m b with | .map _ _ l=>val m (.int .i64 (p.ofNat l.length)) | _=>bad m
 | _,_=>bad m
def vG (p:bg) (T:aX) (m:Mem) (t:Nat) (x:AV):R:=bad m
def yh (lo n:Nat) (z:List AV) (c:Nat->Nat->AV):Nat->Nat->AV:=fun i j=>if lo<=i/\i<lo+n then nth z j else c i j
def vH (T:aX) (m:Mem) (t:Nat) (x:AV):R :=
 match (ag T t).d with
 | .slice e=>match Nat.ble 1 (ag T e).sz,jl (ag T e).z,Nat.beq (au (ag T e).z) (ag T e).sz,x with
  | true,true,true,.tail b lo n=>match blk m b with
   | .rows e' sz k c=>match Nat.beq sz (ag T e).sz with
    | true=>⟨.bN [],dA m b (.rows e' sz k (yh lo n (ag T e).z c)),[],none⟩
    | false=>bad m
   | .bC e' u l=>match Nat.beq (aW u) (ag T e).sz,ic u (ag T e).z with
    | true,some x=>⟨.bN [],dA m b (.bC e' u (lK lo n x l)),[],none⟩
    | _,_=>bad m
   | _=>bad m
  | _,_,_,_=>bad m
 | _=>bad m
def sI (p:bg) (m:Mem) (k:IntKind) (a:Int):List AV->R
 | []=>val m (.int k a)
 | .int k' b::l=>match decide (k=k') with | true=>sI p m k (p.imax a b) l | false=>bad m
 | _=>bad m
def sJ (p:bg) (m:Mem) (k:IntKind) (a:Int):List AV->R
 | []=>val m (.int k a)
 | .int k' b::l=>match decide (k=k') with | true=>sJ p m k (p.jh a b) l | false=>bad m
 | _=>bad m
def content (m:Mem) (sz:Nat):AV->Option (Nat×(Nat->Nat->AV))
 | .slice sz' n _ c=>match Nat.beq sz sz' with | true=>some (n,c) | false=>none
 | .bR=>some (0,fun _ _=>.undef)
 | .emp=>some (0,fun _ _=>.undef)
 | .tail b lo n=>match blk m b with | .rows _ sz' _ c=>(match Nat.beq sz sz' with | true=>some (n,fun i j=>c (lo+i) j) | false=>none) | _=>none
 | .own b n=>match blk m b with | .rows _ sz' _ c=>(match Nat.beq sz sz' with | true=>some (n,c) | false=>none) | _=>none
 | _=>none
def Fw (m:Mem) (t:Ty):AV->Option (List (El t))
 | .bF u l _=>jr u t l
 | .bR=>some []
 | .emp=>some []
 | .bz b=>match blk m b with | .bC _ u l=>jr u t l | _=>none
 | .tail b lo n=>match blk m b with | .bC _ u l=>jr u t ((l.drop lo).take n) | _=>none
 | .own b n=>match blk m b with | .bC _ u l=>jr u t (l.take n) | _=>none
 | _=>none
def kz (s:List UInt8):List Int:=s.map fun b=>(b.toNat:Int)
def isByte:TD->Bool
 | .int .u8=>true
 | _=>false
def BK (p:bg) (T:aX) (m:Mem) (s d:Nat) (x:AV):R:=u6 p T m s d x
def Fx (p:bg) (T:aX) (m:Mem) (t u:Nat) (d s:AV):R:=bad m
def kC (n:Nat) (c d:Nat->Nat->AV):Nat->Nat->AV:=fun i j=>if i<n then c i j else d (i-n) j
def bD:Nat:=140737488355328
def hit (b i:Nat):Bool :=
 match Nat.beq b i with
 | true=>true
 | false=>match Nat.ble 1000000 b with
  | true=>Nat.testBit (Nat.sub b 1000000) i
  | false=>false
def eT (b:Nat):AV->AV
 | .own b' n=>match hit b b' with | true=>.undef | false=>.own b' n
 | .bz b'=>match hit b b' with | true=>.undef | false=>.bz b'
 | .tail b' lo n=>match hit b b' with | true=>.undef | false=>.tail b' lo n
 | .bY b' i o=>match hit b b' with | true=>.undef | false=>.bY b' i o
 | .ref b' o=>match hit b b' with | true=>.undef | false=>.ref b' o
 | .dJ b'=>match hit b b' with | true=>.undef | false=>.dJ b'
 | .fA b' n=>match hit b b' with | true=>.undef | false=>.fA b' n
 | .mp b'=>match hit b b' with | true=>.undef | false=>.mp b'
 | .sub b' j=>match hit b b' with | true=>.undef | false=>.sub b' j
 | .fn _ _ _=>.undef
 | .bN _=>.undef
 | .dN _ _=>.undef
 | v=>v
def nk (b:Nat):List AV->List AV
 | []=>[]
 | a::l=>eT b a::nk b l
def sK (b:Nat):AV->AV
 | .agg cs=>.agg (nk b cs)
 | .fn f a c=>.fn f (nk b a) (nk b c)
 | v=>eT b v
def vI (b:Nat):List AV->List AV
 | []=>[]
 | a::l=>sK b a::vI b l
def jv (b:Nat):AV->AV
 | .bN vs=>.bN (vI b vs)
 | .dN k vs=>.dN k (vI b vs)
 | v=>sK b v
def pM (b:Nat):List AV->List AV
 | []=>[]
 | a::l=>jv b a::pM b l
def nX (b:Nat):bT->bT
 | .cells e cs=>.cells e (nk b cs)
 | x=>x
def iI (b:Nat):Mem->Mem
 | []=>[]
 | a::l=>nX b a::iI b l
def Fy (p:bg) (T:aX) (m:Mem) (t e:Nat) (u:Ty) (s x:AV):R :=
 match Fw m u x,Nat.beq (aW u) (ag T e).sz,Nat.ble 1 (ag T e).sz,Nat.ble 1 (ag T e).bytes with
 | some k,true,true,true=>match s with
  | .bR=>⟨.bz (aB m),fI m (.bC e u k),[p.ble (p.ky k.length (ag T e).bytes) bD],none⟩
  | .emp=>⟨.bz (aB m),fI m (.bC e u k),[p.ble (p.ky k.length (ag T e).bytes) bD],none⟩
  | .bz b=>match blk m b with
   | .bC e' u' l=>match Nat.beq e e',jr u' u l with
    | true,some l=>⟨.bz b,iI b (dA m b (.bC e u (l++k))),[p.ble (p.ky (l++k).length (ag T e).bytes) bD],some b⟩
    | _,_=>bad m
   | _=>bad m
  | .bF u' l true=>match jr u' u l with
   | some l=>⟨.bF u (l++k) false,m,[p.ble (p.ky (l++k).length (ag T e).bytes) bD],none⟩
   | none=>bad m
  | _=>bad m
 | _,_,_,_=>bad m
def qR (p:bg) (T:aX) (m:Mem) (t:Nat) (s x:AV):R :=
 match (ag T t).d with
 | .slice e=>match content m (ag T e).sz x with
  | some (k,d)=>match Nat.ble 1 (ag T e).sz,Nat.ble 1 (ag T e).bytes,s with
   | true,true,.bR=>⟨.own (aB m) k,fI m (.rows e (ag T e).sz k d),[p.ble (p.ky k (ag T e).bytes) bD],none⟩
   | true,true,.emp=>⟨.own (aB m) k,fI m (.rows e (ag T e).sz k d),[p.ble (p.ky k (ag T e).bytes) bD],none⟩
   | true,true,.own b n=>match blk m b with
    | .rows e' sz _ c=>match Nat.beq e e',Nat.beq sz (ag T e).sz with
     | true,true=>⟨.own b (p.jH n k),iI b (dA m b (.rows e' sz (p.jH n k) (kC n c d))),[p.ble (p.ky (p.jH n k) (ag T e).bytes) bD],some b⟩
     | _,_=>bad m
    | _=>bad m
   | true,true,.slice sz n true c=>match Nat.beq sz (ag T e).sz with
    | true=>⟨.slice sz (p.jH n k) false (kC n c d),m,[p.ble (p.ky (p.jH n k) (ag T e).bytes) bD],none⟩
    | false=>bad m
   | _,_,_=>bad m
  | none=>bad m
 | _=>bad m
def Fz (p:bg) (T:aX) (m:Mem) (t:Nat) (s x:AV):R :=
 match (ag T t).d with
 | .slice e=>match (ag T e).ty with
  | some u=>match Fw m u x with
   | some _=>Fy p T m t e u s x
   | none=>qR p T m t s x
  | none=>qR p T m t s x
 | _=>bad m
def pO (ty:Option Ty) (z:List AV) (sz:Nat) (m:Mem) (e n:Nat):AV×Mem :=
 match ty with
 | none=>(.own (aB m) n,fI m (.rows e sz n fun _ j=>nth z j))
 | some u=>match Nat.beq (aW u) sz,ic u z with
  | true,some x=>(.bz (aB m),fI m (.bC e u (List.replicate n x)))
  | _,_=>(.own (aB m) n,fI m (.rows e sz n fun _ j=>nth z j))
def FB (p:bg) (T:aX) (m:Mem) (t u:Nat) (s x:AV):R :=
 match (ag T t).d,(ag T u).d,s,x with
 | .slice e,.int _,.bR,.int _ n=>match iH (ag T e).z,Nat.ble 1 (ag T e).sz,Nat.beq (au (ag T e).z) (ag T e).sz,Nat.ble 1 (ag T e).bytes with
  | true,true,true,true=>⟨(pO (ag T e).ty (ag T e).z (ag T e).sz m e (p.toNat n)).1,(pO (ag T e).ty (ag T e).z (ag T e).sz m e (p.toNat n)).2,[p.lt 0 n,p.ble (p.ky (p.toNat n) (ag T e).bytes) bD],none⟩
  | _,_,_,_=>bad m
 | _,_,_,_=>bad m
def FC (p:bg) (T:aX) (m:Mem) (t u:Nat) (s:AV) (x:List UInt8):R :=
 match (ag T t).d,(ag T u).d,s with
 | .slice e,.str,.bz b=>match isByte (ag T e).d,Nat.beq (ag T e).sz 1,Nat.beq (ag T e).bytes 1,blk m b with
  | true,true,true,.bC e' u' l=>match Nat.beq e e',jr u' (.int .u8) l with
   | true,some l=>⟨.bz b,iI b (dA m b (.bC e (.int .u8) (l++kz x))),[p.ble (p.ky (l++kz x).length 1) bD],some b⟩
   | _,_=>bad m
  | _,_,_,_=>bad m
 | _,_,_=>bad m
def FD (p:bg) (T:aX) (m:Mem) (t u:Nat) (s x:AV):R :=
 match x with
 | .str x=>FC p T m t u s x
 | x=>FB p T m t u s x
def FE (p:bg) (T:aX) (m:Mem) (t:Nat) (l c:AV):R :=
 match (ag T t).d,l,c with
 | .slice e,.int _ l,.int _ c=>match iH (ag T e).z,Nat.ble 1 (ag T e).sz,Nat.beq (au (ag T e).z) (ag T e).sz,Nat.ble 1 (ag T e).bytes with
  | true,true,true,true=>⟨(pO (ag T e).ty (ag T e).z (ag T e).sz m e (p.toNat l)).1,(pO (ag T e).ty (ag T e).z (ag T e).sz m e (p.toNat l)).2,[p.le 0 l,p.le l c,p.ble (p.ky (p.toNat c) (ag T e).bytes) bD],none⟩
  | _,_,_,_=>bad m
 | _,_,_=>bad m
def mapA (f:AV->AV):List AV->List AV
 | []=>[]
 | a::l=>f a::mapA f l
def fB (m:Mem):Nat->AV->AV
 | _,.own b n=>match blk m b with
  | .rows _ sz _ c=>.slice sz n false (fun i j=>c i j)
  | .bC _ u l=>.bF u (l.take n) false
  | _=>.undef
 | _,.bz b=>match blk m b with | .bC _ u l=>.bF u l false | _=>.undef
 | _,.tail b lo n=>match blk m b with
  | .rows _ sz _ c=>.slice sz n false (fun i j=>c (lo+i) j)
  | .bC _ u l=>.bF u ((l.drop lo).take n) false
  | _=>.undef
 | _,.bY b i off=>match blk m b with
  | .rows _ sz _ c=>.bS (sz-off) (fun j=>c i (off+j))
  | .bC _ u l=>.bS (aW u-off) (fun j=>nth (jk u l i) (off+j))
  | _=>.undef
 | _,.dJ _=>.undef
 | _,.fA _ _=>.undef
 | _,.mp b=>match blk m b with | .map t u l=>.mv t u l | .dz x y=>.mv .str xX (uS x y) | _=>.undef
 | _,.sub b j=>match blk m b with | .dz _ y=>.mv .str (.int .i64) (y.getD (j+1) []) | _=>.undef
 | 0,.ref _ _=>.undef
 | k+1,.ref b off=>match blk m b with | .cells _ cs=>.bS (au cs-off) (fun j=>nth (mapA (fB m k) cs) (off+j)) | _=>.undef
 | 0,.fn _ _ _=>.undef
 | k+1,.fn f a c=>.fn f (mapA (fB m k) a) (mapA (fB m k) c)
 | 0,.agg _=>.undef
 | k+1,.agg cs=>.agg (mapA (fB m k) cs)
 | 0,.bN _=>.undef
 | k+1,.bN cs=>.bN (mapA (fB m k) cs)
 | 0,.dN _ _=>.undef
 | k+1,.dN i cs=>.dN i (mapA (fB m k) cs)
 | _,v=>v
def borrow (m:Mem) (v:AV):AV:=fB m 5 v
def borrows (m:Mem) (l:List AV):List AV:=mapA (fB m 5) l
def yj:AV->Bool
 | .agg cs=>jl cs
 | .fn _ a c=>match jl a,jl c with | true,true=>true | _,_=>false
 | v=>outside v
def pQ:List AV->Bool
 | []=>true
 | a::l=>match yj a with | true=>pQ l | false=>false
def flat:AV->Bool
 | .agg cs=>Kj cs
 | v=>scalar v
def FH:List AV->Bool
 | []=>true
 | a::l=>match flat a with | true=>FH l | false=>false
def pR:AV->Bool
 | .bN vs=>FH vs
 | v=>flat v
inductive CR where
 |val (v:AV)
 |fresh (e sz n:Nat) (c:Nat->Nat->AV)
 |nY (e:Nat) (t:Ty) (l:List (El t))
 |pU (e:Nat) (t:Ty) (l:List (El t))
structure aao where
 r:CR
 ks:List Bool
abbrev RZ:=bg->Nat->List AV->Option aao
abbrev R3:=bg->Nat->List AV->Mem->Option R
structure dD where
 pu:RZ
 me:R3
def aap:R3:=fun _ _ _ _=>none
def aaq:RZ:=fun _ _ _=>none
def lL:Ty->Bool
 | .list _=>false
 | .smap=>false
 | .pair a b=>match lL a with | true=>lL b | false=>false
 | _=>true
def BL:Bool->Bool->Bool
 | true,_=>true
 | false,b=>b
def lM (p:bg) (call:dD) (m:Mem) (id:Nat) (bargs:List AV) (oo:Bool):R :=
  match call.pu p id bargs with
  | some ⟨.val v,ks⟩=>match oo with
   | true=>⟨v,m,ks,none⟩
   | false=>match pR v with
    | true=>⟨v,m,ks,none⟩
    | false=>bad m
  | some ⟨.fresh e sz n c,ks⟩=>match oo with
   | true=>⟨.own (aB m) n,fI m (.rows e sz n c),ks,none⟩
   | false=>bad m
  | some ⟨.nY e u l,ks⟩=>match BL oo (lL u) with
   | true=>⟨.bz (aB m),fI m (.bC e u l),ks,none⟩
   | false=>bad m
  | some ⟨.pU _ u l,ks⟩=>match lL u with
   | true=>⟨.bF u l false,m,ks,none⟩
   | false=>bad m
  | none=>bad m
def kT (p:bg) (call:dD) (m:Mem) (f:AV) (args:List AV):R :=
 match f with
 | .fn (.func id) first cap =>
  match call.me p id (bK first (bK args cap)) m with
  | some r=>r
  | none=>lM p call m id (borrows m (bK first (bK args cap))) (pQ (bK first (bK args cap)))
 | .eU id first cap=>lM p call m id (bK first (bK (borrows m args) cap)) (pQ args)
 | _=>bad m
def hd:List AV->AV
 | []=>.undef
 | a::_=>a
def BM:List Nat->Option Nat
 | [t,u]=>match Nat.beq t u with | true=>some t | false=>none
 | _=>none
def jw:(t:Ty)->El t->El t->Bool
 | .int _,a,b=>decide ((a:Int)=b)
 | .bool,a,b=>(a:Bool)==b
 | .str,a,b=>(a:List UInt8)==b
 | .pair _ _,_,_=>false
 | .list _,_,_=>false
 | .smap,_,_=>false
 | .dm _,a,b=>decide ((a:Int)=b)
def getM (t u:Ty):List (El t×El u)->El t->Option (El u)
 | [],_=>none
 | p::l,k=>bif jw t k p.1 then some p.2 else getM t u l k
def dn (t u:Ty):List (El t×El u)->El t->El u->List (El t×El u)
 | [],k,v=>[(k,v)]
 | p::l,k,v=>bif jw t k p.1 then (k,v)::l else p::dn t u l k v
def iV (t u:Ty):List (El t×El u)->El t->List (El t×El u)
 | [],_=>[]
 | p::l,k=>bif jw t k p.1 then l else p::iV t u l k
def vJ:TD->Option Ty
 | .int k=>some (.int k)
 | .bool=>some .bool
 | .str=>some .str
 | _=>none
def vK (t' u' t u:Ty) (l:List (El t'×El u')):Option (List (El t×El u)):=jr (.pair t' u') (.pair t u) l
def BN:TD->Bool
 | .struct _=>true
 | .array _ _=>true
 | .other=>true
 | _=>false
def yl (T:aX) (t:Nat):Option (Ty×((u:Ty)×El u)) :=
 match (ag T t).d with
 | .map k e=>match vJ (ag T k).d,(ag T e).ty with
  | some a,some b=>match ic b (ag T e).z,Nat.beq (aW b) 1,Nat.beq (ag T e).sz 1,BN (ag T e).d with
   | some z,true,true,false=>some (a,⟨b,z⟩)
   | _,_,_,_=>none
  | _,_=>none
 | _=>none
def R4:Ty->Bool
 | .dm _=>true
 | _=>false
def isD (m:Mem):AV->Bool
 | .mp i=>match blk m i with
  | .map a _ _=>R4 a
  | _=>false
 | .mv a _ _=>R4 a
 | _=>false
def FI (d:Bool):Ty->Ty
 | .int k=>match d with | true=>.dm k | false=>.int k
 | a=>a
def BO (T:aX) (m:Mem) (t:Nat) (x:AV):Option (Ty×((u:Ty)×El u)) :=
 match yl T t with
 | some (a,q)=>some (FI (isD m x) a,q)
 | none=>none
def FJ:Ty->Bool
 | .int _=>true
 | _=>false
def iF (t u:Ty):List (El t×El u)->El t->Nat
 | [],_=>0
 | p::l,k=>bif jw t k p.1 then 0 else iF t u l k+1
def fK (t u:Ty) (l:List (El t×El u)) (k:El t) (z:El u):List (El t×El u):=match getM t u l k with | some _=>l | none=>l++[(k,z)]
def FK (T:aX) (m:Mem) (t:Nat):R :=
 match yl T t with
 | some (a,⟨b,_⟩)=>⟨.mp (aB m),fI m (.map a b []),[],none⟩
 | none=>bad m
def ym (m:Mem) (ok:Bool) (u:Ty) (r:Option (El u)) (z:El u):R :=
 match ok with
 | true=>val m (.bN [nth (dB u (r.getD z)) 0,.bool r.isSome])
 | false=>val m (nth (dB u (r.getD z)) 0)
def vL (T:aX) (m:Mem) (t:Nat) (x k:AV) (ok:Bool):R :=
 match BO T m t x with
 | some (a,⟨b,z⟩)=>match ic a [k] with
  | some k=>match x with
   | .dZ=>ym m ok b none z
   | .mv a' b' l=>match vK a' b' a b l with
    | some l=>ym m ok b (getM a b l k) z
    | none=>bad m
   | .mp i=>match blk m i with
    | .map a' b' l=>match vK a' b' a b l with
     | some l=>ym m ok b (getM a b l k) z
     | none=>bad m
    | _=>bad m
   | _=>bad m
  | none=>bad m
 | none=>bad m
def sM (p:bg) (T:aX) (m:Mem) (t:Nat) (x k v:AV):R :=
 match BO T m t x with
 | some (a,⟨b,_⟩)=>match ic a [k],ic b [v] with
  | some k,some v=>match x with
   | .mp i=>match blk m i with
    | .map a' b' l=>match vK a' b' a b l with
     | some l=>⟨.undef,dA m i (.map a b (dn a b l k v)),[p.ble (dn a b l k v).length 9223372036854775807],none⟩
     | none=>bad m
    | _=>bad m
   | _=>bad m
  | _,_=>bad m
 | none=>bad m
def R5 (b:Nat) (r:R):R:=match r with | ⟨v,m,ks,_⟩=>⟨v,m,ks,some b⟩
def FL (p:bg) (T:aX) (m:Mem) (t:Nat) (x k v:AV):R :=
 match v with
 | .bz b=>match blk m b with
  | .bC _ u l=>R5 b (sM p T (iI b (dA m b .dead)) t (jv b x) (jv b k) (.bF u l false))
  | _=>bad m
 | v=>sM p T m t x k v
def FM (T:aX) (m:Mem) (t:Nat) (x k:AV):R :=
 match BO T m t x with
 | some (a,⟨b,_⟩)=>match ic a [k] with
  | some k=>match x with
   | .dZ=>val m (.bN [])
   | .mp i=>match blk m i with
    | .map a' b' l=>match vK a' b' a b l,FJ a with
     | some l,false=>⟨.bN [],dA m i (.map a b (iV a b l k)),[],none⟩
     | _,_=>bad m
    | _=>bad m
   | _=>bad m
  | none=>bad m
 | none=>bad m
def FN (p:bg) (T:aX) (m:Mem) (t:Nat) (x k:AV):R :=
 match yl T t with
 | some (a,⟨b,z⟩)=>match ic a [k],FJ a with
  | some k,true=>match x with
   | .mp i=>match blk m i with
    | .map a' b' l=>match vK a' b' a b l with
     | some l=>⟨.bN [nth (dB b ((getM a b l k).getD z)) 0,.int .i64 (iF a b l k:Nat)],dA m i (.map a b (fK a b l k z)),[p.ble (fK a b l k z).length 9223372036854775807],none⟩
     | none=>bad m
    | _=>bad m
   | _=>bad m
  | _,_=>bad m
 | none=>bad m
def FO (p:bg) (T:aX) (m:Mem) (t:Nat) (x s v:AV):R :=
 match yl T t with
 | some (a,⟨b,_⟩)=>match ic b [v],FJ a with
  | some v,true=>match x,s with
   | .mp i,.int .i64 n=>match blk m i with
    | .map a' b' l=>match vK a' b' a b l with
     | some l=>⟨.undef,dA m i (.map a b (l.modify n.toNat fun q=>(q.1,v))),[p.aD n l.length],none⟩
     | none=>bad m
    | _=>bad m
   | _,_=>bad m
  | _,_=>bad m
 | none=>bad m
abbrev aj5:Ty:=.pair (.int .i64) (.pair .str (.int .i64))
def Kl (T:aX) (m:Mem) (t:Nat):R:=FK T m t
def BP (T:aX) (m:Mem) (t:Nat) (x k:AV) (ok:Bool):R:=vL T m t x k ok
def Km (T:aX) (m:Mem) (t:Nat) (x k:AV):R:=FM T m t x k
def Kn (p:bg) (T:aX) (m:Mem) (t:Nat) (x k v:AV):R:=FL p T m t x k v
def BQ (p:bg) (T:aX) (m:Mem) (b:Builtin) (at_:List Nat) (args:List AV):R :=
 match b,args with
 | .len,[x]=>match at_ with | [t]=>vF p T m t x | _=>bad m
 | .cap,[x]=>match at_ with | [t]=>vG p T m t x | _=>bad m
 | .clear,[x]=>match at_ with | [t]=>vH T m t x | _=>bad m
 | .delete,[x,k]=>match at_ with | [t,_]=>Km T m t x k | _=>bad m
 | .copy,[d,s]=>match at_ with | [t,u]=>Fx p T m t u d s | _=>bad m
 | .append,[s,x]=>match BM at_ with
  | some t=>Fz p T m t s x
  | none=>match at_ with
   | [t,u]=>FD p T m t u s x
   | _=>bad m
 | .max,.int k a::l=>sI p m k a l
 | .min,.int k a::l=>sJ p m k a l
 | _,_=>bad m
def pV (ts:List AV):Option Operand->Option AV
 | none=>none
 | some o=>some (bE ts o)
def FP:Operand->Option Nat
 | .const (.int _ (.ofNat k))=>some k
 | _=>none
def dw (p:bg) (T:aX) (call:dD) (ts:List AV) (m:Mem) (o:Op):R :=
 match o with
 | .move x | .assign x=>val m (bE ts x)
 | .alloc t=>Fh T m t
 | .box t x=>Fg T m t (bE ts x)
 | .build t ps=>ve T m t (kS ts ps.toList)
 | .buildSlice t n ps=>vg T m t n (kS ts ps.toList)
 | .load t x=>pF T m t (bE ts x)
 | .store t x y=>u7 T m t (bE ts x) (bE ts y)
 | .binOp op t x y _=>uY p T m op t (bE ts x) (bE ts y)
 | .unOp op _ x=>uZ p m op (bE ts x)
 | .convert s d x=>BK p T m s d (bE ts x)
 | .makeFunc f a c=>match iH (dC ts a.toList),iH (dC ts c.toList) with
  | true,true=>val m (.fn f (dC ts a.toList) (dC ts c.toList))
  | _,_=>match f,BD (dC ts a.toList),BD (dC ts c.toList) with
   | .func id,true,true=>val m (.eU id (dC ts a.toList) (dC ts c.toList))
   | _,_,_=>bad m
 | .makeSlice t l c=>FE p T m t (bE ts l) (bE ts c)
 | .slice t x lo hi mx=>match mx with
  | none=>ni p T m t (bE ts x) (pV ts lo) (pV ts hi)
  | some mx=>match lo,hi with
   | none,some hi=>vD p T m t (bE ts x) hi mx (bE ts hi) (bE ts mx)
   | _,_=>bad m
 | .fieldAddr t x f=>vo T m t (bE ts x) f
 | .field t x f=>vz T m t (bE ts x) f
 | .indexAddr t x i=>vB p T m t (FP i) (bE ts x) (bE ts i)
 | .index t x i=>vC p T m t (FP i) (bE ts x) (bE ts i)
 | .makeMap t none=>Kl T m t
 | .lookup t x k ok=>BP T m t (bE ts x) (bE ts k) ok
 | .mapUpdate t x k v=>Kn p T m t (bE ts x) (bE ts k) (bE ts v)
 | .mapEntry t x k=>FN p T m t (bE ts x) (bE ts k)
 | .entryStore t x s v=>FO p T m t (bE ts x) (bE ts s) (bE ts v)
 | .range t x=>Fu T m t (bE ts x)
 | .next x s=>Fv p m (bE ts x) s
 | .extract x i=>vE m (bE ts x) i
 | .nilCheck x=>Fs m (bE ts x)
 | .call ⟨.builtin b,args,ats⟩=>BQ p T m b ats.toList (dC ts args.toList)
 | .call ⟨.value f,args,_⟩=>kT p call m (bE ts f) (dC ts args.toList)
 | _=>bad m
abbrev bO:=List (Nat×Bool)
abbrev fM:=List (Nat×bO)
def bU:fM->Nat->bO
 | [],_=>[]
 | (s,c)::l,t=>match Nat.beq s t with | true=>c | false=>bU l t
def qU:bO->bO->Bool
 | [],_=>true
 | _,[]=>false
 | (a,b)::k,(c,d)::l=>match Nat.beq a c,b==d with | true,true=>qU k l | _,_=>false
def sN:bO->bO->bO
 | [],l=>l
 | a::k,l=>a::sN k l
def gq (tg:fM) (C:bO):List Operand->Bool
 | []=>true
 | .tmp t::l=>match qU (bU tg t) C with | true=>gq tg C l | false=>false
 | _::l=>gq tg C l
def mh (p:bg) (ts:List AV) (s:Nat) (b:Bool):Option Bool :=
 match nth ts s,b with
 | .bool x,true=>some x
 | .bool x,false=>some (p.not x)
 | _,_=>none
def lN (p:bg) (ts:List AV):bO->Option Bool
 | []=>some true
 | [(s,b)]=>mh p ts s b
 | (s,b)::c=>match mh p ts s b,lN p ts c with
  | some x,some y=>some (p.and x y)
  | _,_=>none
def kD (p:bg) (g:Bool):List Bool->List Bool
 | []=>[]
 | k::l=>p.imp g k::kD p g l
def jQ:List Bool->List Bool->List Bool
 | [],l=>l
 | a::k,l=>a::jQ k l
structure St where
 ts:List AV
 m:Mem
 tg:fM
 ks:List Bool
def mentions (s:Nat):bO->Bool
 | []=>false
 | (t,_)::l=>match Nat.beq s t with | true=>true | false=>mentions s l
def mentioned (s:Nat):fM->Bool
 | []=>false
 | (_,c)::l=>match mentions s c with | true=>true | false=>mentioned s l
def setTag (tg:fM) (s:Nat) (c:bO):fM :=
 match c,bU tg s with
 | [],[]=>tg
 | c,_=>(s,c)::tg
def pW (p:bg) (ts:List AV) (c a b:Operand):Option AV :=
 match bE ts c with
 | .bool x =>
  match a,b with
  | a,.const (.bool false)=>match bE ts a with | .bool y=>some (.bool (p.and x y)) | _=>none
  | .const (.bool true),b=>match bE ts b with | .bool y=>some (.bool (p.or x y)) | _=>none
  | _,_=>none
 | _=>none
def nZ (tg:fM) (C:bO) (c a b:Operand):Bool :=
 match c with
 | .tmp s=>match qU (bU tg s) C,gq tg (sN C [(s,true)]) [a],gq tg (sN C [(s,false)]) [b] with
  | true,true,true=>true
  | _,_,_=>false
 | _=>false
def kE (s:St):St:={ s with ks:=[false] }
def lay (s:St) (C:bO) (dst:Option Nat) (v:AV) (m:Mem) (ks:List Bool) (inv:Option Nat):St :=
 match dst with
 | some d =>
  match mentioned d s.tg,mentions d C with
  | false,false =>
   match inv with
   | none=>⟨put s.ts d v,m,setTag s.tg d C,jQ s.ks ks⟩
   | some b=>⟨put (pM b s.ts) d v,m,setTag s.tg d C,jQ s.ks ks⟩
  | _,_=>kE s
 | none =>
  match inv with
  | none=>⟨s.ts,m,s.tg,jQ s.ks ks⟩
  | some b=>⟨pM b s.ts,m,s.tg,jQ s.ks ks⟩
def kU (T:aX):Op->Bool
 | .convert _ d _=>match (ag T d).d with | .slice _=>false | _=>true
 |.move _ | .assign _ | .load .. | .binOp .. | .unOp .. | .makeFunc .. | .fieldAddr .. | .field .. | .indexAddr .. | .index .. | .lookup .. | .extract .. | .nilCheck _
 | .build .. | .buildSlice .. | .slice .. | .call ⟨.builtin .len,_,_⟩ | .call ⟨.builtin .cap,_,_⟩ | .call ⟨.builtin .max,_,_⟩ | .call ⟨.builtin .min,_,_⟩=>true
 | _=>false
def sO:List Oper->Nat->Option Oper
 | [],_=>none
 | o::_,0=>some o
 | _::l,n+1=>sO l n
def chainOf (ops:List Oper) (tg:fM):Option (Nat×Bool)->Option bO
 | none=>some []
 | some (j,b)=>match sO ops j with
  | some ⟨some d,_,_,_,_,_⟩=>some (sN (bU tg d) [(d,b)])
  | _=>none
def iJ (p:bg) (call:dD) (ts:List AV) (m:Mem):Op->Bool
 | .call ⟨.value f,args,_⟩=>match bE ts f with
  | .fn (.func id) first cap=>match call.me p id (bK first (bK (dC ts args.toList) cap)) m with
   | none=>true
   | some _=>false
  | _=>true
 | _=>true
def qV (p:bg) (T:aX) (call:dD) (s:St) (C:bO) (dst:Option Nat) (op:Op):St :=
 match lN p s.ts C with
 | none=>kE s
 | some g =>
  match kU T op with
  | true=>lay s C dst (dw p T call s.ts s.m op).v s.m (kD p g (dw p T call s.ts s.m op).ks) none
  | false=>match op with
   | .call ⟨.value _,_,_⟩=>match iJ p call s.ts s.m op,(dw p T call s.ts s.m op).v with
    | true,.own _ _=>kE s
    | true,.bz _=>kE s
    | true,v=>lay s C dst v s.m (kD p g (dw p T call s.ts s.m op).ks) none
    | false,_=>kE s
   | _=>kE s
def vM (p:bg) (T:aX) (call:dD) (s:St) (dst:Option Nat) (op:Op):St :=
 match dw p T call s.ts s.m op with
 | ⟨v,m,ks,inv⟩=>lay s [] dst v m ks inv
def pX (p:bg) (T:aX) (call:dD) (s:St) (C:bO) (dst:Option Nat) (op:Op):St :=
 match gq s.tg C op.operands.toList with
 | false=>kE s
 | true=>match C with
  | []=>vM p T call s dst op
  | x::C=>qV p T call s (x::C) dst op
def qW (p:bg) (s:St) (C:bO) (dst:Option Nat) (c a b:Operand):St :=
 match nZ s.tg C c a b,pW p s.ts c a b with
 | true,some v=>lay s C dst v s.m [] none
 | _,_=>kE s
def BR (p:bg) (T:aX) (call:dD) (s:St) (C:bO) (dst:Option Nat):Op->St
 | .pick c a b=>qW p s C dst c a b
 | op=>pX p T call s C dst op
def eH (p:bg) (T:aX) (call:dD) (ops:List Oper) (s:St) (o:Oper):St :=
 match chainOf ops s.tg o.guard with
 | none=>kE s
 | some C=>BR p T call s C o.dst o.op
def sP (p:bg) (T:aX) (call:dD) (all:List Oper):List Oper->St->St
 | [],s=>s
 | o::l,s=>sP p T call all l (eH p T call all s o)
def iK (ts:List AV):fM->List AV
 | []=>ts
 | (s,[])::l=>iK ts l
 | (s,_::_)::l=>put (iK ts l) s .undef
structure AS where
 ts:List AV
 m:Mem
 np:Nat
end Go.aT
