/- The operations of the abstract machine are sound: types, memory, numbers. -/
import Derived.Test.YtjkhncojgilbaaaGreatDoorEngB
import Derived.WalkSpells
import Derived.ChangeKeysEq
namespace Go.aT
open Go Go.RowKit
def aG:List Bool->Prop
 | []=>True
 | [b]=>b=true
 | b::l=>b=true/\aG l
theorem aG.cons {b:Bool} {l:List Bool}:aG (b::l)↔b=true/\aG l:=by
 cases l with
 | nil=>simp [aG]
 | cons c l=>exact Iff.rfl
theorem aG.cat {k l:List Bool}:aG (jQ k l)↔aG k/\aG l:=by
 induction k with
 | nil=>simp [jQ,aG]
 | cons b k ih=>simp only [jQ,aG.cons,ih,and_assoc]
def fO (P:Program) (t:TypeId):TypeDesc->TD
 | .int k=>.int k
 | .bool=>.bool
 | .string=>.str
 | .struct fs => match (fs.toList.all fun f => f.name != "_") && !P.stoodInHeld t && !P.eqGuardType P.depth t with
  | true=>.struct (fs.toList.map fun f=>(f.type,f.offset))
  | false=>.other
 | .array n e=>.array n e
 | .slice e=>.slice e
 | .map k e=>.map k e
 | .pointer e=>.ptr e
 | .func .. => .func
 | _=>.other
def yB:pE:=⟨.other,0,0,[],none⟩
def FV (d:TD) (z:Value):Bool :=
 match BN d,z with
 | false,.agg _=>false
 | _,_=>true
def FW (P:Program) (t:TypeId):pE :=
 match P.underlying t,P.info? t with
 | some d,some i=>match i.zero with
  | some z=>match Nat.beq z.cells.size i.size&&FV (fO P t d) z with
   | true=>⟨fO P t d,i.size,i.bytes,kR z.cells.toList,none⟩
   | false=>yB
  | none=>yB
 | _,_=>yB
def Ca (P:Program):Nat->Nat->aX
 | _,0=>[]
 | i,n+1=>FW P i::Ca P (i+1) n
def strip (x:pE):pE:=⟨x.d,x.sz,x.bytes,x.z,none⟩
def KE:aX->aX
 | []=>[]
 | a::l=>strip a::KE l
theorem aav (T:aX) (t:Nat):ag (KE T) t=strip (ag T t):=by
 induction T generalizing t with
 | nil=>rfl
 | cons a l ih=>cases t with
  | zero=>rfl
  | succ t=>exact ih t
def bG (P:Program) (T:aX):Prop:=∀ t,strip (ag T t)=FW P t\/strip (ag T t)=yB
theorem aaw (P:Program) (n i t:Nat):ag (Ca P i n) t=FW P (i+t)\/ag (Ca P i n) t=yB:=by
 induction n generalizing i t with
 | zero=>exact .inr rfl
 | succ n ih=>cases t with
  | zero=>exact .inl rfl
  | succ t=>simp only [Ca,ag]; rw [show i+(t+1)=i+1+t from by omega]; exact ih (i+1) t
theorem aax {P:Program} {T:aX} (n:Nat) (h:Ca P 0 n=KE T):bG P T:=by
 intro t; rw [<- aav,<- h]; have:=aaw P n 0 t; simpa using this
variable {P:Program} {T:aX}
structure yC (P:Program) (ti:pE) (t:Nat) (d:TypeDesc) (i:TypeInfo) (z:Value):Prop where
 und:P.underlying t=some d
 info:P.info? t=some i
 zero:i.zero=some z
 sZ:z.cells.size=i.size
 d:ti.d=fO P t d
 sz:ti.sz=i.size
 lg:ti.bytes=i.bytes
 zk:FV ti.d z=true
 z:ti.z=kR z.cells.toList
theorem bG.facts (h:bG P T) {t:Nat} (hne:strip (ag T t)≠yB):∃ d i z,yC P (ag T t) t d i z:=by
 suffices hs:∃ d i z,yC P (strip (ag T t)) t d i z by
  obtain ⟨d,i,z,f⟩:=hs; exact ⟨d,i,z,f.und,f.info,f.zero,f.sZ,f.d,f.sz,f.lg,f.zk,f.z⟩
 rcases h t with e | e
 ·rw [e] at hne ⊢
  unfold FW at hne ⊢
  cases hd:P.underlying t with
  | none=>simp [hd] at hne
  | some d =>
   cases hi:P.info? t with
   | none=>simp [hd,hi] at hne
   | some i =>
    simp only [hd,hi] at hne ⊢
    cases hz:i.zero with
    | none=>simp [hz] at hne
    | some z =>
     simp only [hz] at hne ⊢
     cases hb:Nat.beq z.cells.size i.size&&FV (fO P t d) z with
     | false=>simp [hb] at hne
     | true =>
      rw [Bool.and_eq_true] at hb
      exact ⟨d,i,z,hd,hi,hz,Nat.eq_of_beq_eq_true hb.1,rfl,rfl,rfl,hb.2,rfl⟩
 ·exact absurd e hne
theorem bG.bJ (h:bG P T) {t:Nat} {x:TD} (hx:(ag T t).d=x) (hne:x≠.other):∃ d i z,yC P (ag T t) t d i z :=
 h.facts (fun e=>hne (by rw [<- hx]; exact congrArg pE.d e))
theorem bG.eO (h:bG P T) {t:Nat} (hx:1<=(ag T t).sz):∃ d i z,yC P (ag T t) t d i z :=
 h.facts (fun e=>by have e':(ag T t).sz=0:=congrArg pE.sz e; omega)
theorem vQ {t:Nat} {d:TypeDesc} {k:IntKind} (h:fO P t d = .int k):d = .int k:=by
 cases d <;> simp [fO] at h ⊢ <;> first | exact h | (split at h <;> simp at h)
theorem Cb {t:Nat} {d:TypeDesc} (h:fO P t d = .bool):d = .bool:=by
 cases d <;> simp [fO] at h ⊢ <;> (split at h <;> simp at h)
theorem oq {t:Nat} {d:TypeDesc} (h:fO P t d = .str):d = .string:=by
 cases d <;> simp [fO] at h ⊢ <;> (split at h <;> simp at h)
theorem fF {t:Nat} {d:TypeDesc} {e:Nat} (h:fO P t d = .slice e):d = .slice e:=by
 cases d <;> simp [fO] at h ⊢ <;> first | exact h | (split at h <;> simp at h)
theorem yD {t:Nat} {d:TypeDesc} {e:Nat} (h:fO P t d = .ptr e):d = .pointer e:=by
 cases d <;> simp [fO] at h ⊢ <;> first | exact h | (split at h <;> simp at h)
theorem p8 {t:Nat} {d:TypeDesc} {k e:Nat} (h:fO P t d = .map k e):d = .map k e:=by
 cases d <;> simp [fO] at h ⊢ <;> first | exact h | (split at h <;> simp at h)
theorem ou {t:Nat} {d:TypeDesc} {n e:Nat} (h:fO P t d = .array n e):d = .array n e:=by
 cases d <;> simp [fO] at h ⊢ <;> first | exact h | (split at h <;> simp at h)
theorem rq {t:Nat} {d:TypeDesc} {fs:List (Nat×Nat)} (h:fO P t d = .struct fs) :
  ∃ l : Array Field, d = .struct l /\ fs = (l.toList.map fun f => (f.type, f.offset)) /\ (∀ f ∈ l.toList, (f.name != "_") = true) /\ P.stoodInHeld t = false /\ P.eqGuardType P.depth t = false := by
 cases d with
 | struct l =>
  simp only [fO] at h
  cases hb : (l.toList.all fun f => f.name != "_") && !P.stoodInHeld t && !P.eqGuardType P.depth t with
  | false=>rw [hb] at h; simp at h
  | true =>
   rw [hb] at h
   simp only [Bool.and_eq_true,Bool.not_eq_true',List.all_eq_true] at hb
   exact ⟨l,rfl,by injection h with h; exact h.symm,fun f hf=>hb.1.1 f hf,hb.1.2,hb.2⟩
 | _=>simp [fO] at h
def cB (base:Env) (w:World) (S:Nat->Prop) (m:aY) (P:Program) (r:R) (x:Sem Value):Prop :=
 ∃ v w' S' m',x.run P w = .ok v w'/\Trans base w S m w' S' m' r.inv/\aV base w' S' m' (r.m)/\Rel w' S' m' v r.v
theorem cB.val {base:Env} {w:World} {S:Nat->Prop} {m:aY} {M:Mem} (hM:aV base w S m M) {x:Sem Value} {v:Value} {a:AV} {ks:List Bool} (hx:x.run P w = .ok v w) (hr:Rel w S m v a) :
  cB base w S m P ⟨a,M,ks,none⟩ x:=⟨v,w,S,m,hx,.refl _ _ _ _,hM,hr⟩
theorem aH {M:Mem} (h:aG (bad M).ks):False:=by simp [bad,aG] at h
section ops
variable {base:Env} {w:World} {S:Nat->Prop} {m:aY} {M:Mem}
theorem aay (k:IntKind):k.min<=0:=by cases k <;> decide
theorem aaz (k:IntKind):0<=k.max:=by cases k <;> decide
theorem tq (k:IntKind) (n:Int):(Lit.int k n).wf=true↔k.min<=n/\n<=k.max:=by simp [Lit.wf]
theorem aaA {k:IntKind} {a n:Int} (h:(Lit.int k a).wf=true) (h1:0<=a->0<=n/\n<=a) (h2:a<0->a<=n/\n<=0):(Lit.int k n).wf=true:=by
 rw [tq] at *
 have:=aay k
 have:=aaz k
 by_cases ha:0<=a
 ·have:=h1 ha; omega
 ·have:=h2 (by omega); omega
theorem wf_wrap (k:IntKind) (n:Int):(Lit.int k (k.wrap n)).wf=true:=(tq k _).2 (wrap_within k n)
theorem Sd {a:Int} (b:Int) (h:0<=a):a.tmod b<=a:=by
 obtain ⟨n,rfl⟩:=Int.eq_ofNat_of_zero_le h
 cases b with
 | ofNat b=>exact Int.ofNat_le.2 (Nat.mod_le n b)
 | negSucc b=>exact Int.ofNat_le.2 (Nat.mod_le n (b+1))
theorem aaB {k:IntKind} {a:Int} (b:Int) (h:(Lit.int k a).wf=true):(Lit.int k (a.tmod b)).wf=true:=by
 refine aaA h (fun ha=>?_) (fun ha=>?_)
 ·exact ⟨Int.tmod_nonneg b ha,Sd b ha⟩
 ·have e:a.tmod b = -((-a).tmod b):=by rw [Int.neg_tmod,Int.neg_neg]
  rw [e]
  have h1:=Int.tmod_nonneg b (show (0:Int) <= -a by omega)
  have h2:(-a).tmod b <= -a:=Sd b (by omega)
  omega
theorem aaC (hM:aV base w S m M) (op:BinOp) (t:TypeId) (xo yo:Operand) (k:IntKind) (a b:Int) (ha:(Lit.int k a).wf=true) (hk:aG (uU ae M op k a b).ks) :
  cB base w S m P (uU ae M op k a b) (do eqGuard op t xo yo (.int k a) (.int k b); binOp op t (.int k a) (.int k b)):=by
 cases op
 case add=>exact .val hM (by simp [eqGuard,binOp,Op.intArith]; rfl) (.int _ _ _ (wf_wrap k _))
 case sub=>exact .val hM (by simp [eqGuard,binOp,Op.intArith]; rfl) (.int _ _ _ (wf_wrap k _))
 case mul=>exact .val hM (by simp [eqGuard,binOp,Op.intArith]; rfl) (.int _ _ _ (wf_wrap k _))
 case and=>exact .val hM (by simp [eqGuard,binOp,Op.intBits]; rfl) (.int _ _ _ (wf_wrap k _))
 case or=>exact .val hM (by simp [eqGuard,binOp,Op.intBits]; rfl) (.int _ _ _ (wf_wrap k _))
 case xor=>exact .val hM (by simp [eqGuard,binOp,Op.intBits]; rfl) (.int _ _ _ (wf_wrap k _))
 case andNot=>exact .val hM (by simp [eqGuard,binOp,Op.intBits,ae,Kh]) (.int _ _ _ (wf_wrap k _))
 case quo =>
  have h0:b≠0:=by simpa [uU,cz,aG,ae] using hk
  exact .val hM (by simp [eqGuard,binOp,Op.intDiv,h0]; rfl) (.int _ _ _ (wf_wrap k _))
 case rem =>
  have h0:b≠0:=by simpa [uU,cz,aG,ae] using hk
  exact .val hM (by simp [eqGuard,binOp,Op.intDiv,h0]; rfl) (.int _ _ _ (aaB b ha))
 case shl=>exact (aH hk).elim
 case shr=>exact (aH hk).elim
 case eql=>exact .val hM (v:=.bool (decide (a=b))) (by simp [eqGuard,binOp,Op.intCmp]; rfl) (.bool _ _)
 case neq=>exact .val hM (v:=.bool (!decide (a=b))) (by simp [eqGuard,binOp,Op.intCmp]; rfl) (.bool _ _)
 case lss=>exact .val hM (v:=.bool (decide (a<b))) (by simp [eqGuard,binOp,Op.intCmp]) (.bool _ _)
 case leq=>exact .val hM (v:=.bool (decide (a<=b))) (by simp [eqGuard,binOp,Op.intCmp]) (.bool _ _)
 case gtr=>exact .val hM (v:=.bool (decide (b<a))) (by simp [eqGuard,binOp,Op.intCmp]) (.bool _ _)
 case geq=>exact .val hM (v:=.bool (decide (b<=a))) (by simp [eqGuard,binOp,Op.intCmp]) (.bool _ _)
theorem Sg (hM:aV base w S m M) (op:BinOp) (hop:op = .shl\/op = .shr) (t:TypeId) (xo yo:Operand) (k k':IntKind) (a b:Int) (ha:(Lit.int k a).wf=true) (hk:aG (BF ae M op k a b).ks) :
  cB base w S m P (BF ae M op k a b) (do eqGuard op t xo yo (.int k a) (.int k' b); binOp op t (.int k a) (.int k' b)):=by
 unfold BF at hk
 exact (aH hk).elim
theorem gT (s:List UInt8):(bytes s).size=s.length:=by simp [bytes,ByteArray.size]
theorem yE (s:List UInt8):(bytes s).toList=s:=by
 rw [ByteArray.toList_eq]; simp [bytes]
theorem aaD (hM:aV base w S m M) (op:BinOp) (t:TypeId) (xo yo:Operand) (a b:List UInt8) (hk:aG (x9 ae M op a b).ks) :
  cB base w S m P (x9 ae M op a b) (do eqGuard op t xo yo (.string (bytes a)) (.string (bytes b)); binOp op t (.string (bytes a)) (.string (bytes b))):=by
 have hne:eqGuard op t xo yo (.string (bytes a)) (.string (bytes b))=pure ():=by unfold eqGuard; split <;> rfl
 rw [hne]
 cases op <;> first
  |exact (aH hk).elim
  |(refine .val hM (v:=.bool _) ?_ (.bool _ _); simp [binOp,Op.stringOp,yE]; rfl)
  |(refine .val hM (v:=.bool _) ?_ (.bool _ _); simp [binOp,Op.stringOp,yE,ae]; done)
  |skip
 have hl:a.length+b.length<=9223372036854775807:=by simpa [x9,cz,aG,ae] using hk
 refine .val hM (v:=.string (bytes (a++b))) ?_ (.str _ _ (by simp [ae,maxLen]; omega))
 have h1:¬ (((bytes a).size+(bytes b).size:Nat):Int) > IntKind.i64.max:=by
  rw [gT,gT]; simp [IntKind.max,IntKind.signed,IntKind.bits]; omega
 have h2:bytes a++bytes b=bytes (a++b):=by
  apply ByteArray.ext; simp [bytes,ByteArray.data_append]
 simp only [binOp,Op.stringOp,if_neg h1,h2]
 rfl
theorem FX (hT:bG P T) {t:Nat} {x y:AV} {r:Bool} (h:qQ ae T t x y=some r) {vx vy:Value} (hx:Rel w S m vx x) (hy:Rel w S m vy y) (d:Nat) :
  (Op.equalIn (d+1) t vx vy).run P w = .ok r w:=by
 unfold qQ at h
 cases ht:(ag T t).d with
 | int k0 =>
  obtain ⟨d0,i,z,f⟩:=hT.bJ ht (by simp)
  have hd:=f.d; rw [ht] at hd
  have hd:=vQ hd.symm; subst hd
  rw [ht] at h
  cases x <;> try (simp at h; done)
  cases y <;> try (simp at h; done)
  rename_i k a k' b
  cases hx; cases hy
  by_cases hkk:k=k'
  ·subst hkk
   simp only [decide_true] at h
   injection h with h; subst h
   simp [Op.equalIn,run_underlying f.und,ae]
   rfl
  ·simp [hkk] at h
 | bool =>
  obtain ⟨d0,i,z,f⟩:=hT.bJ ht (by simp)
  have hd:=f.d; rw [ht] at hd
  have hd:=Cb hd.symm; subst hd
  rw [ht] at h
  cases x <;> try (simp at h; done)
  cases y <;> try (simp at h; done)
  cases hx; cases hy
  simp only [] at h
  injection h with h; subst h
  simp [Op.equalIn,run_underlying f.und,ae]
 | str =>
  obtain ⟨d0,i,z,f⟩:=hT.bJ ht (by simp)
  have hd:=f.d; rw [ht] at hd
  have hd:=oq hd.symm; subst hd
  rw [ht] at h
  cases x <;> try (simp at h; done)
  cases y <;> try (simp at h; done)
  rename_i a b
  cases hx; cases hy
  simp only [] at h
  injection h with h; subst h
  have e:(bytes a==bytes b)=(a==b):=by rw [beq_toListBytes,yE,yE]
  simp [Op.equalIn,run_underlying f.und,ae,e]
 | _=>rw [ht] at h; simp at h
theorem getD_extract (xs:Array Value) (off n i:Nat) (h:off+n<=xs.size) (hi:i<n):(xs.extract off (off+n)).getD i Go.undef=xs.getD (off+i) Go.undef:=by
 simp only [Array.getD_eq_getD_getElem?]
 rw [Array.getElem?_extract]
 rw [if_pos (by omega)]
theorem FY (hT:bG P T) {t off:Nat} {xs:Array Value} {cs:List AV} (hx:Rel w S m (.agg xs) (.agg cs)) (hagg:gp T t=true) (hsz:1<=(ag T t).sz) (hl:off+(ag T t).sz<=au cs) :
  ∃ v,(part t xs off).run P w = .ok (.agg v) w/\Rel w S m (.agg v) (.agg (takeN (ag T t).sz (jP off cs))):=by
 obtain ⟨d,i,z,f⟩:=hT.eO hsz
 cases hx with
 | agg _ _ _ hlen h1 h =>
  have hd:=f.d
  have hag:∃ b,(isAgg t).run P w = .ok b w/\b=true:=by
   unfold gp at hagg
   rw [hd] at hagg
   refine ⟨true,?_,rfl⟩
   cases d <;> simp [fO] at hagg <;> simp [isAgg,run_underlying f.und]
  obtain ⟨b,hb,rfl⟩:=hag
  refine ⟨xs.extract off (off+i.size),?_,?_⟩
  ·simp [part,hb,sizeOf,typeInfo,f.info]
  ·rw [f.sz] at hl ⊢
   have e:au (takeN i.size (jP off cs))=i.size:=Kq _ _ (by rw [Kr]; omega)
   refine .agg _ _ _ (by rw [e]; simp; omega) (fun j hj=>?_) (fun j hj=>?_)
   ·rw [e] at hj; rw [getD_extract _ _ _ _ (by omega) hj]; exact h1 _ (by omega)
   ·rw [e] at hj; rw [getD_extract _ _ _ _ (by omega) hj,Kt _ _ _ _ hj]; exact h _ (by omega)
theorem p9 (hT:bG P T) {t off:Nat} {xs:Array Value} {cs:List AV} (hx:Rel w S m (.agg xs) (.agg cs)) (hagg:gp T t=false) (hd:(ag T t).d≠.other) (hl:off+1<=au cs) :
  (part t xs off).run P w = .ok (xs.getD off Go.undef) w/\Rel w S m (xs.getD off Go.undef) (nth cs off):=by
 obtain ⟨d,i,z,f⟩:=hT.bJ rfl hd
 cases hx with
 | agg _ _ _ hlen h1 h =>
  refine ⟨?_,h _ (by omega)⟩
  have hb:(isAgg t).run P w = .ok false w:=by
   unfold gp at hagg
   rw [f.d] at hagg hd
   cases d with
   | struct l=>exfalso; revert hagg hd; simp only [fO]; split <;> simp
   | array n e=>simp [fO] at hagg
   | _=>simp [isAgg,run_underlying f.und]
  have hlt:off<xs.size:=by omega
  simp [part,hb,hlt]
theorem Si {t:Nat} {fs:List (Nat×Nat)} (h:(ag T t).d = .struct fs):gp T t=true:=by unfold gp; rw [h]
theorem qa {a b:Option Bool} {r:Bool} (h:uV ae a b=some r):∃ x y,a=some x/\b=some y/\r=(x&&y):=by
 cases a with
 | none=>simp [uV] at h
 | some x=>cases b with
  | none=>simp [uV] at h
  | some y=>exact ⟨x,y,rfl,rfl,by simpa [uV,ae] using h.symm⟩
theorem aaE (hT:bG P T):∀ (n:Nat) (l:List Field) (xs ys:Array Value) (cs ds:List AV) (r:Bool) (d:Nat),n<=d ->
  (∀ f ∈ l, (f.name != "_") = true) -> eqFields ae T n (l.map fun f => (f.type, f.offset)) cs ds = some r ->
  Rel w S m (.agg xs) (.agg cs)->Rel w S m (.agg ys) (.agg ds)->(Op.eqFields d xs ys l).run P w = .ok r w:=by
 intro n
 induction n using Nat.strongRecOn with
 | _ n ih =>
 intro l xs ys cs ds r d hd hname h hx hy
 cases l with
 | nil=>cases n <;> (simp [eqFields] at h; subst h; rfl)
 | cons f l =>
  cases n with
  | zero=>simp [eqFields] at h
  | succ n =>
   obtain ⟨d,rfl⟩:∃ e,d=e+1:=⟨d-1,by omega⟩
   simp only [List.map_cons,eqFields] at h
   split at h
   case h_2=>simp at h
   rename_i h1 h2 h3
   have h1:=Nat.le_of_ble_eq_true h1
   have h2:=Nat.le_of_ble_eq_true h2
   have h3:=Nat.le_of_ble_eq_true h3
   have hn : f.name ≠ "_" := by simpa using hname f (by simp)
   have step:∀ (va vb:Value) (x y:Bool),(part f.type xs f.offset).run P w = .ok va w->(part f.type ys f.offset).run P w = .ok vb w->(Op.equalIn (d+1) f.type va vb).run P w = .ok x w ->
     eqFields ae T n (l.map fun f=>(f.type,f.offset)) cs ds=some y->(Op.eqFields (d+1) xs ys (f::l)).run P w = .ok (x&&y) w:=fun va vb x y ha hb hab hy'=>by
    have hl:=ih n (by omega) l xs ys cs ds y (d+1) (by omega) (fun g hg=>hname g (by simp [hg])) hy' hx hy
    simp only [Op.eqFields,ne_eq,hn,not_false_eq_true,if_true,Sem.run_bind,ha,hb,hab,Result.andThen_ok]
    cases x
    ·rfl
    ·simpa using hl
   cases htd:(ag T f.type).d with
   | struct fs =>
    rw [htd] at h
    obtain ⟨x,y,hxx,hyy,rfl⟩:=qa h
    obtain ⟨va,ha,hra⟩:=FY hT hx (Si htd) h1 h2
    obtain ⟨vb,hb,hrb⟩:=FY hT hy (Si htd) h1 h3
    refine step _ _ x y ha hb ?_ hyy
    cases n with
    | zero=>simp [uX] at hxx
    | succ n =>
     simp only [uX,htd] at hxx
     obtain ⟨dd,i,z,ff⟩:=hT.bJ htd (by simp)
     have hdd:=ff.d; rw [htd] at hdd
     obtain ⟨lf,rfl,rfl,hnm,hst,_⟩:=rq hdd.symm
     have hfo:P.fieldsOf f.type=lf:=by simp [Program.fieldsOf,ff.und]
     rw [run_equalIn_struct w d f.type va vb (by rw [hfo]; exact ff.und) hst,hfo]
     exact ih n (by omega) lf.toList va vb _ _ x d (by omega) hnm hxx hra hrb
   | array k e=>rw [htd] at h; simp at h
   | other=>rw [htd] at h; obtain ⟨x,y,hxx,hyy,rfl⟩:=qa h; simp [qQ,htd] at hxx
   | slice e=>rw [htd] at h; obtain ⟨x,y,hxx,hyy,rfl⟩:=qa h; simp [qQ,htd] at hxx
   | map k e=>rw [htd] at h; obtain ⟨x,y,hxx,hyy,rfl⟩:=qa h; simp [qQ,htd] at hxx
   | ptr e=>rw [htd] at h; obtain ⟨x,y,hxx,hyy,rfl⟩:=qa h; simp [qQ,htd] at hxx
   | func=>rw [htd] at h; obtain ⟨x,y,hxx,hyy,rfl⟩:=qa h; simp [qQ,htd] at hxx
   | int k =>
    rw [htd] at h
    obtain ⟨x,y,hxx,hyy,rfl⟩:=qa h
    obtain ⟨ha,hra⟩:=p9 (t:=f.type) (off:=f.offset) hT hx (by simp [gp,htd]) (by rw [htd]; simp) (show f.offset+1<=au cs by omega)
    obtain ⟨hb,hrb⟩:=p9 (t:=f.type) (off:=f.offset) hT hy (by simp [gp,htd]) (by rw [htd]; simp) (show f.offset+1<=au ds by omega)
    exact step _ _ x y ha hb (FX hT hxx hra hrb d) hyy
   | bool =>
    rw [htd] at h
    obtain ⟨x,y,hxx,hyy,rfl⟩:=qa h
    obtain ⟨ha,hra⟩:=p9 (t:=f.type) (off:=f.offset) hT hx (by simp [gp,htd]) (by rw [htd]; simp) (show f.offset+1<=au cs by omega)
    obtain ⟨hb,hrb⟩:=p9 (t:=f.type) (off:=f.offset) hT hy (by simp [gp,htd]) (by rw [htd]; simp) (show f.offset+1<=au ds by omega)
    exact step _ _ x y ha hb (FX hT hxx hra hrb d) hyy
   | str =>
    rw [htd] at h
    obtain ⟨x,y,hxx,hyy,rfl⟩:=qa h
    obtain ⟨ha,hra⟩:=p9 (t:=f.type) (off:=f.offset) hT hx (by simp [gp,htd]) (by rw [htd]; simp) (show f.offset+1<=au cs by omega)
    obtain ⟨hb,hrb⟩:=p9 (t:=f.type) (off:=f.offset) hT hy (by simp [gp,htd]) (by rw [htd]; simp) (show f.offset+1<=au ds by omega)
    exact step _ _ x y ha hb (FX hT hxx hra hrb d) hyy
theorem aaF {t:Nat} {d:TypeDesc} (h:uW (fO P t d)=true):(∃ k,d = .int k)\/d = .bool\/d = .string:=by
 cases d with
 | struct l =>
  simp only [fO] at h
  generalize ((l.toList.all fun f => f.name != "_") && !P.stoodInHeld t && !P.eqGuardType P.depth t) = b at h
  cases b <;> simp [uW] at h
 | int k=>exact .inl ⟨k,rfl⟩
 | bool=>exact .inr (.inl rfl)
 | string=>exact .inr (.inr rfl)
 | _=>simp [fO,uW] at h
theorem Sj {e:Nat} (h:uW (ag T e).d=true):gp T e=false/\(ag T e).d≠.other:=by
 unfold gp
 cases hd:(ag T e).d <;> rw [hd] at h <;> simp [uW] at h <;> exact ⟨rfl,by simp⟩
theorem aaG (hT:bG P T) {e:Nat} (he:uW (ag T e).d=true) {xs ys:Array Value} {cs ds:List AV} (hx:Rel w S m (.agg xs) (.agg cs)) (hy:Rel w S m (.agg ys) (.agg ds)) (d:Nat) :
  ∀ (n i:Nat) (r:Bool),i+n<=au cs->i+n<=au ds->BG ae T e cs ds i n=some r->(Op.eqItems (d+1) e 1 xs ys (List.range' i n)).run P w = .ok r w:=by
 intro n
 induction n with
 | zero=>intro i r _ _ h; simp [BG] at h; subst h; rfl
 | succ n ih =>
  intro i r h1 h2 h
  simp only [BG] at h
  obtain ⟨x,y,hxx,hyy,rfl⟩:=qa h
  obtain ⟨hag,hno⟩:=Sj he
  obtain ⟨ha,hra⟩:=p9 (t:=e) (off:=i) hT hx hag hno (by omega)
  obtain ⟨hb,hrb⟩:=p9 (t:=e) (off:=i) hT hy hag hno (by omega)
  have hl:=ih (i+1) y (by omega) (by omega) hyy
  simp only [List.range'_succ,Op.eqItems,Nat.mul_one,Sem.run_bind,ha,hb,FX hT hxx hra hrb d,Result.andThen_ok]
  cases x
  ·rfl
  ·simpa using hl
theorem Sk (hT:bG P T) {t:Nat} {xs ys:Array Value} {cs ds:List AV} {r:Bool} (h:uX ae T 40 t cs ds=some r) (hx:Rel w S m (.agg xs) (.agg cs)) (hy:Rel w S m (.agg ys) (.agg ds)) :
  (Op.equal t (.agg xs) (.agg ys)).run P w = .ok r w/\P.eqGuardType P.depth t=false:=by
 simp only [uX] at h
 split at h
 case h_3=>simp at h
 case h_2 k e htd =>
  split at h
  case h_2=>simp at h
  rename_i hs hz h1 h2
  have hz:=Nat.eq_of_beq_eq_true hz
  have h1:=Nat.le_of_ble_eq_true h1
  have h2:=Nat.le_of_ble_eq_true h2
  obtain ⟨dd,i,z,ff⟩:=hT.bJ htd (by simp)
  have hdd:=ff.d; rw [htd] at hdd
  have hu:P.underlying t=some (.array k e):=by
   rw [ff.und]
   cases dd with
   | array k' e'=>simp only [fO,TD.array.injEq] at hdd; rw [hdd.1,hdd.2]
   | struct l =>
    simp only [fO] at hdd
    generalize ((l.toList.all fun f => f.name != "_") && !P.stoodInHeld t && !P.eqGuardType P.depth t) = b at hdd
    cases b <;> simp at hdd
   | _=>simp [fO] at hdd
  obtain ⟨de,ie,ze,fe⟩:=hT.bJ (t:=e) rfl (Sj hs).2
  have hg:P.eqGuardType P.depth t=false:=by
   have:P.depth=2*(P.types.size+Made.depth)+1+1:=rfl
   rw [this]
   simp only [Program.eqGuardType,hu,fe.und]
   have hde:=fe.d
   rw [hde] at hs
   rcases aaF hs with ⟨k',rfl⟩ | rfl | rfl <;> rfl
  refine ⟨?_,hg⟩
  have hc:P.cellsOf e=1:=by rw [<- hz,fe.sz]; simp [Program.cellsOf,fe.info]
  unfold Op.equal Op.maxDepth
  rw [run_equalIn_array w 9999 xs ys hu fe.info,hc,List.range_eq_range']
  exact aaG hT hs hx hy 9998 k 0 r (by omega) (by omega) h
 rename_i fs htd
 obtain ⟨dd,i,z,ff⟩:=hT.bJ htd (by simp)
 have hdd:=ff.d; rw [htd] at hdd
 obtain ⟨lf,rfl,rfl,hnm,hst,hg⟩:=rq hdd.symm
 have hfo:P.fieldsOf t=lf:=by simp [Program.fieldsOf,ff.und]
 refine ⟨?_,hg⟩
 unfold Op.equal Op.maxDepth
 rw [run_equalIn_struct w 9999 t xs ys (by rw [hfo]; exact ff.und) hst,hfo]
 exact aaE hT 39 lf.toList xs ys cs ds r 9999 (by omega) hnm h hx hy
theorem run_equalIn_bool (hT:bG P T) {t:Nat} (htd:(ag T t).d = .bool) (a b:Bool) (d:Nat):(Op.equalIn (d+1) t (.bool a) (.bool b)).run P w = .ok (a==b) w:=by
 obtain ⟨dd,i,z,ff⟩:=hT.bJ htd (by simp)
 have hdd:=ff.d; rw [htd] at hdd
 have hdd:=Cb hdd.symm; subst hdd
 simp [Op.equalIn,run_underlying ff.und]
theorem run_equal_bool (hT:bG P T) {t:Nat} (htd:(ag T t).d = .bool) (a b:Bool):(Op.equal t (.bool a) (.bool b)).run P w = .ok (a==b) w :=
 run_equalIn_bool hT htd a b 9999
theorem Sl {t:TypeId} (hg:P.eqGuardType P.depth t=false) (op:BinOp) (xo yo:Operand) (xs ys:Array Value):(eqGuard op t xo yo (.agg xs) (.agg ys)).run P w = .ok () w:=by
 unfold eqGuard
 split <;> simp [hg]
theorem qb {t:TypeId} (op:BinOp) (xo yo:Operand) (a b:Option Addr) (n c n' c':Nat):(eqGuard op t xo yo (.slice a n c) (.slice b n' c')).run P w = .ok () w:=by
 simp [eqGuard]
theorem yF {t:TypeId} (op:BinOp) (xo yo:Operand) (a b:Option Addr):(eqGuard op t xo yo (.pointer a) (.pointer b)).run P w = .ok () w:=by
 simp [eqGuard]
theorem Sm (w:World) {t e:TypeId} (hu:P.underlying t=some (.pointer e)) (a:Option Addr):(Op.equal t (.pointer a) (.pointer none)).run P w = .ok a.isNone w:=by
 have h:∀ d:Nat,(Op.equalIn (d+1) t (.pointer a) (.pointer none)).run P w = .ok a.isNone w:=fun d=>by
  cases a <;> simp [Op.equalIn,run_underlying hu]
 exact h 9999
theorem KF (w:World) {t e:TypeId} (hu:P.underlying t=some (.pointer e)) (a:Option Addr):(binOp .eql t (.pointer a) (.pointer none)).run P w = .ok (.bool a.isNone) w:=by
 simp [binOp,Sm w hu a]
theorem KG (w:World) {t e:TypeId} (hu:P.underlying t=some (.pointer e)) (a:Option Addr):(binOp .neq t (.pointer a) (.pointer none)).run P w = .ok (.bool (!a.isNone)) w:=by
 simp [binOp,Sm w hu a]
theorem Sq (w:World) {t k e:TypeId} (hu:P.underlying t=some (.map k e)) (a:Option Nat):(Op.equal t (.map a) (.map none)).run P w = .ok a.isNone w:=by
 have h:∀ d:Nat,(Op.equalIn (d+1) t (.map a) (.map none)).run P w = .ok a.isNone w:=fun d=>by
  cases a <;> simp [Op.equalIn,run_underlying hu]
 exact h 9999
theorem Sr {base:Env} {w:World} {S:Nat->Prop} {m:aY} {M:Mem} (hM:aV base w S m M) {v:Value} {b:Nat} (h:Rel w S m v (.mp b)) {q:Bool} (hq:Ki (blk M b)=some q):∃ o,v = .map o/\o.isNone=q:=by
 cases h with
 | mp _ _ l h =>
  have hB:=hM.bk b _ h
  refine ⟨some l.g,rfl,?_⟩
  revert hB hq
  cases blk M b with
  | map t u x=>intro hq _; cases hq; rfl
  | dz x y =>
   intro hq hB
   cases hq
   have:y≠[]:=hB.2.1
   cases y with
   | nil=>exact absurd rfl this
   | cons a y=>rfl
  | _=>intro hq; cases hq
 | gy _ _ h =>
  have hB:=hM.bk b _ h
  refine ⟨none,rfl,?_⟩
  revert hB hq
  cases blk M b with
  | map t u x=>intro _ hB; exact hB.elim
  | dz x y=>intro hq hB; cases hq; have:y=[]:=hB.2; subst this; rfl
  | _=>intro hq; cases hq
theorem KH (w:World) {t k e:TypeId} (hu:P.underlying t=some (.map k e)) (a:Option Nat):(binOp .eql t (.map a) (.map none)).run P w = .ok (.bool a.isNone) w:=by
 simp [binOp,Sq w hu a]
theorem KI (w:World) {t k e:TypeId} (hu:P.underlying t=some (.map k e)) (a:Option Nat):(binOp .neq t (.map a) (.map none)).run P w = .ok (.bool (!a.isNone)) w:=by
 simp [binOp,Sq w hu a]
theorem yG (op:BinOp) (t:TypeId) (xo yo:Operand) (a b:Option Nat):(eqGuard op t xo yo (.map a) (.map b)).run P w = .ok () w:=by
 unfold eqGuard
 cases op <;> rfl
theorem aaH (hT:bG P T) (hM:aV base w S m M) (op:BinOp) (t:TypeId) (xo yo:Operand) {vx vy:Value} {x y:AV} (hx:Rel w S m vx x) (hy:Rel w S m vy y) (hk:aG (uY ae T M op t x y).ks) :
  cB base w S m P (uY ae T M op t x y) (do eqGuard op t xo yo vx vy; binOp op t vx vy):=by
 unfold uY at hk ⊢
 split at hk
 ·cases hx; cases hy; rename_i ha _ _ _; exact Sg hM _ (.inl rfl) _ _ _ _ _ _ _ (by assumption) hk
 ·cases hx; cases hy; exact Sg hM _ (.inr rfl) _ _ _ _ _ _ _ (by assumption) hk
 ·split at hk
  ·rename_i hkk
   have hkk:=of_decide_eq_true hkk; subst hkk
   cases hx; cases hy; exact aaC hM _ _ _ _ _ _ _ (by assumption) hk
  ·exact (aH hk).elim
 ·cases hx; cases hy; exact aaD hM _ _ _ _ _ _ hk
 ·split at hk
  ·rename_i htd
   cases hx; cases hy
   exact .val hM (v:=.bool _) (by simp [eqGuard,binOp,run_equal_bool hT htd]; rfl) (.bool _ _)
  ·exact (aH hk).elim
 ·split at hk
  ·rename_i htd
   cases hx; cases hy
   exact .val hM (v:=.bool _) (by simp [eqGuard,binOp,run_equal_bool hT htd,ae]) (.bool _ _)
  ·exact (aH hk).elim
 ·split at hk
  ·rename_i r hr
   cases hx with
   | agg _ xs _ h1 h2 h3 =>
    cases hy with
    | agg _ ys _ k1 k2 k3 =>
     obtain ⟨he,hg⟩:=Sk hT hr (.agg _ xs _ h1 h2 h3) (.agg _ ys _ k1 k2 k3)
     exact .val hM (v:=.bool r) (by simp only [Sem.run_bind,Sl hg,binOp,he,Result.andThen_ok]; rfl) (.bool _ _)
  ·exact (aH hk).elim
 ·split at hk
  ·rename_i e htd
   obtain ⟨_,_,_,g⟩:=hT.bJ htd (by simp)
   have hd:=g.d; rw [htd] at hd
   have:=fF hd.symm; subst this
   cases hy
   cases hx with
   | slice=>exact .val hM (v:=.bool _) (by simp only [Sem.run_bind,qb,Result.andThen_ok]; exact Lib.run_eql_slice_nil w t e _ _ _ 0 0 g.und) (.eG _ _ _ (fun h=>by simp at h))
   | dL=>exact .val hM (v:=.bool _) (by simp only [Sem.run_bind,qb,Result.andThen_ok]; exact Lib.run_eql_slice_nil w t e _ _ _ 0 0 g.und) (.eG _ _ _ (fun _=>rfl))
  ·exact (aH hk).elim
 ·split at hk
  ·rename_i e htd
   obtain ⟨_,_,_,g⟩:=hT.bJ htd (by simp)
   have hd:=g.d; rw [htd] at hd
   have:=fF hd.symm; subst this
   cases hy
   cases hx with
   | bF _ u l full v h =>
    obtain ⟨a,cap,rfl,_,_,_,h⟩:=h.yw
    rcases h with h | ⟨b,o,f,rfl,_⟩
    ·exact .val hM (v:=.bool _) (by simp only [Sem.run_bind,qb,Result.andThen_ok]; exact Lib.run_eql_slice_nil w t e _ _ _ 0 0 g.und) (.eG _ _ _ (fun _=>h))
    ·exact .val hM (v:=.bool _) (by simp only [Sem.run_bind,qb,Result.andThen_ok]; exact Lib.run_eql_slice_nil w t e _ _ _ 0 0 g.und) (.eG _ _ _ (fun h=>by simp at h))
  ·exact (aH hk).elim
 ·split at hk
  ·rename_i e _ u l htd hb
   obtain ⟨_,_,_,g⟩:=hT.bJ htd (by simp)
   have hd:=g.d; rw [htd] at hd
   have:=fF hd.symm; subst this
   cases hy
   cases hx with
   | bz=>exact .val hM (v:=.bool _) (by simp only [Sem.run_bind,qb,Result.andThen_ok]; exact Lib.run_eql_slice_nil w t e _ _ _ 0 0 g.und) (.eG _ _ _ (fun h=>by simp at h))
   | fD _ a _ h0 =>
    have hB:=hM.bk _ _ h0
    rw [hb] at hB
    exact .val hM (v:=.bool _) (by simp only [Sem.run_bind,qb,Result.andThen_ok]; exact Lib.run_eql_slice_nil w t e _ _ _ 0 0 g.und) (.eG _ _ _ (fun _=>hB))
  ·exact (aH hk).elim
 ·split at hk
  ·rename_i e htd
   obtain ⟨_,_,_,g⟩:=hT.bJ htd (by simp)
   have hd:=g.d; rw [htd] at hd
   have:=fF hd.symm; subst this
   cases hy
   cases hx with
   | own=>exact .val hM (v:=.bool _) (by simp only [Sem.run_bind,qb,Result.andThen_ok]; exact Lib.run_eql_slice_nil w t e _ _ _ 0 0 g.und) (.eG _ _ _ (fun h=>by simp at h))
   | eZ=>exact .val hM (v:=.bool _) (by simp only [Sem.run_bind,qb,Result.andThen_ok]; exact Lib.run_eql_slice_nil w t e _ _ _ 0 0 g.und) (.eG _ _ _ (fun _=>rfl))
  ·exact (aH hk).elim
 ·split at hk
  ·rename_i e htd
   obtain ⟨_,_,_,g⟩:=hT.bJ htd (by simp)
   have hd:=g.d; rw [htd] at hd
   have:=fF hd.symm; subst this
   cases hy
   cases hx with
   | emp=>exact .val hM (v:=.bool _) (by simp only [Sem.run_bind,qb,Result.andThen_ok]; exact Lib.run_eql_slice_nil w t e _ _ _ 0 0 g.und) (.eG _ _ _ (fun _=>rfl))
  ·exact (aH hk).elim
 ·split at hk
  ·rename_i e htd
   obtain ⟨_,_,_,g⟩:=hT.bJ htd (by simp)
   have hd:=g.d; rw [htd] at hd
   have:=fF hd.symm; subst this
   cases hy
   cases hx; exact .val hM (v:=.bool _) (by simp only [Sem.run_bind,qb,Result.andThen_ok]; exact Lib.run_eql_slice_nil w t e _ _ _ 0 0 g.und) (.bool _ _)
  ·exact (aH hk).elim
 ·split at hk
  ·rename_i e htd
   obtain ⟨_,_,_,g⟩:=hT.bJ htd (by simp)
   have hd:=g.d; rw [htd] at hd
   have:=yD hd.symm; subst this
   cases hy
   cases hx; exact .val hM (v:=.bool _) (by simp only [Sem.run_bind,yF,Result.andThen_ok]; exact KF w g.und _) (.bool _ _)
  ·exact (aH hk).elim
 ·split at hk
  ·rename_i e htd
   obtain ⟨_,_,_,g⟩:=hT.bJ htd (by simp)
   have hd:=g.d; rw [htd] at hd
   have:=yD hd.symm; subst this
   cases hy
   cases hx; exact .val hM (v:=.bool _) (by simp only [Sem.run_bind,yF,Result.andThen_ok]; exact KF w g.und _) (.bool _ _)
  ·exact (aH hk).elim
 ·split at hk
  ·rename_i e htd
   obtain ⟨_,_,_,g⟩:=hT.bJ htd (by simp)
   have hd:=g.d; rw [htd] at hd
   have:=yD hd.symm; subst this
   cases hy
   cases hx; exact .val hM (v:=.bool _) (by simp only [Sem.run_bind,yF,Result.andThen_ok]; exact KF w g.und _) (.bool _ _)
  ·exact (aH hk).elim
 ·split at hk
  ·rename_i e htd
   obtain ⟨_,_,_,g⟩:=hT.bJ htd (by simp)
   have hd:=g.d; rw [htd] at hd
   have:=yD hd.symm; subst this
   cases hy
   cases hx; exact .val hM (v:=.bool _) (by simp only [Sem.run_bind,yF,Result.andThen_ok]; exact KG w g.und _) (.bool _ _)
  ·exact (aH hk).elim
 ·split at hk
  ·rename_i e htd
   obtain ⟨_,_,_,g⟩:=hT.bJ htd (by simp)
   have hd:=g.d; rw [htd] at hd
   have:=yD hd.symm; subst this
   cases hy
   cases hx; exact .val hM (v:=.bool _) (by simp only [Sem.run_bind,yF,Result.andThen_ok]; exact KG w g.und _) (.bool _ _)
  ·exact (aH hk).elim
 ·split at hk
  ·rename_i e htd
   obtain ⟨_,_,_,g⟩:=hT.bJ htd (by simp)
   have hd:=g.d; rw [htd] at hd
   have:=yD hd.symm; subst this
   cases hy
   cases hx; exact .val hM (v:=.bool _) (by simp only [Sem.run_bind,yF,Result.andThen_ok]; exact KG w g.und _) (.bool _ _)
  ·exact (aH hk).elim
 ·split at hk
  ·rename_i q htd hq
   obtain ⟨_,_,_,g⟩:=hT.bJ htd (by simp)
   have hd:=g.d; rw [htd] at hd
   have:=p8 hd.symm; subst this
   cases hy
   obtain ⟨o,rfl,e⟩:=Sr hM hx hq
   subst e
   exact .val hM (v:=.bool _) (by simp only [Sem.run_bind,yG,Result.andThen_ok]; exact KH w g.und _) (.bool _ _)
  ·exact (aH hk).elim
 ·split at hk
  ·rename_i e htd hunk
   obtain ⟨_,_,_,g⟩:=hT.bJ htd (by simp)
   have hd:=g.d; rw [htd] at hd
   have:=p8 hd.symm; subst this
   cases hy
   cases hx with
   | iL=>cases hunk
   | mv=>exact .val hM (v:=.bool _) (by simp only [Sem.run_bind,yG,Result.andThen_ok]; exact KH w g.und _) (.bool _ _)
  ·exact (aH hk).elim
 ·split at hk
  ·rename_i e htd
   obtain ⟨_,_,_,g⟩:=hT.bJ htd (by simp)
   have hd:=g.d; rw [htd] at hd
   have:=p8 hd.symm; subst this
   cases hy
   cases hx; exact .val hM (v:=.bool _) (by simp only [Sem.run_bind,yG,Result.andThen_ok]; exact KH w g.und _) (.bool _ _)
  ·exact (aH hk).elim
 ·split at hk
  ·rename_i q htd hq
   obtain ⟨_,_,_,g⟩:=hT.bJ htd (by simp)
   have hd:=g.d; rw [htd] at hd
   have:=p8 hd.symm; subst this
   cases hy
   obtain ⟨o,rfl,e⟩:=Sr hM hx hq
   subst e
   exact .val hM (v:=.bool _) (by simp only [Sem.run_bind,yG,Result.andThen_ok]; exact KI w g.und _) (.bool _ _)
  ·exact (aH hk).elim
 ·split at hk
  ·rename_i e htd hunk
   obtain ⟨_,_,_,g⟩:=hT.bJ htd (by simp)
   have hd:=g.d; rw [htd] at hd
   have:=p8 hd.symm; subst this
   cases hy
   cases hx with
   | iL=>cases hunk
   | mv=>exact .val hM (v:=.bool _) (by simp only [Sem.run_bind,yG,Result.andThen_ok]; exact KI w g.und _) (.bool _ _)
  ·exact (aH hk).elim
 ·split at hk
  ·rename_i e htd
   obtain ⟨_,_,_,g⟩:=hT.bJ htd (by simp)
   have hd:=g.d; rw [htd] at hd
   have:=p8 hd.symm; subst this
   cases hy
   cases hx; exact .val hM (v:=.bool _) (by simp only [Sem.run_bind,yG,Result.andThen_ok]; exact KI w g.und _) (.bool _ _)
  ·exact (aH hk).elim
 ·split at hk
  ·rename_i r hr
   cases hx with
   | agg _ xs _ h1 h2 h3 =>
    cases hy with
    | agg _ ys _ k1 k2 k3 =>
     obtain ⟨he,hg⟩:=Sk hT hr (.agg _ xs _ h1 h2 h3) (.agg _ ys _ k1 k2 k3)
     exact .val hM (v:=.bool (!r)) (by simp only [Sem.run_bind,Sl hg,binOp,he,Result.andThen_ok]; rfl) (.bool _ _)
  ·exact (aH hk).elim
 ·exact (aH hk).elim
end ops
end Go.aT
