/- Contracts of Go's library on plain values (numbers, strings, lists of strings) as contracts of lifted functions. -/
import Derived.Test.YtjkhncojgilbaaaGreatDoorTrI
import Derived.Lib.AtoiAllCases
import Derived.Lib.Join
import Derived.Lib.Strings
import Derived.Lib.IndexMore
import Derived.Sort.Grow
import Derived.Deep.Draws
namespace Go.aT
open Go Go.RowKit
theorem YN (d:Nat) (h:d<10):(UInt8.ofNat (48+d)).toNat=48+d:=by
 rw [UInt8.toNat_ofNat']; exact Nat.mod_eq_of_lt (by omega)
theorem xc {u:Nat} (h:u<10):Lib.decDigits u=[UInt8.ofNat (48+u)]:=by rw [Lib.decDigits,dif_pos h]
theorem I8 {u:Nat} (h:¬ u<10):Lib.decDigits u=Lib.decDigits (u / 10)++[UInt8.ofNat (48+u % 10)]:=by rw [Lib.decDigits,dif_neg h]
def Bi:Nat->Nat->Str
 | 0,u=>[UInt8.ofNat (48+u % 10)]
 | k+1,u=>bif decide (u<10) then [UInt8.ofNat (48+u)] else Bi k (u / 10)++[UInt8.ofNat (48+u % 10)]
theorem YO (k u:Nat) (h:u<10 ^ (k+1)):Bi k u=Lib.decDigits u:=by
 induction k generalizing u with
 | zero =>
  have h:u<10:=by simpa using h
  rw [xc h]; unfold Bi; rw [Nat.mod_eq_of_lt h]
 | succ k ih =>
  unfold Bi
  by_cases hu:u<10
  ·rw [decide_eq_true hu,cond_true,xc hu]
  ·rw [decide_eq_false hu,cond_false,I8 hu,ih]
   rw [Nat.div_lt_iff_lt_mul (by omega)]
   exact Nat.lt_of_lt_of_le h (Nat.le_of_eq (Nat.pow_succ 10 (k+1)))
def qD (n:Int):Prop := -9223372036854775808<=n/\n<=9223372036854775807
def lq (n:Int):Str:=bif decide (n<0) then 45::Bi 19 n.natAbs else Bi 19 n.toNat
theorem PT {n:Int} (h:qD n):lq n=Lib.itoa n:=by
 obtain ⟨h0,h1⟩:=h
 have hp:(10:Nat) ^ (19+1)=100000000000000000000:=by decide
 unfold lq Lib.itoa
 by_cases hn:n<0
 ·rw [decide_eq_true hn,cond_true,if_pos hn,YO 19 _ (by omega)]
 ·rw [decide_eq_false hn,cond_false,if_neg hn,YO 19 _ (by omega)]
theorem ai0 (u:Nat):∃ c r,Lib.decDigits u=c::r/\48<=c.toNat/\c.toNat<=57:=by
 induction u using Nat.strongRecOn with
 | ind u ih =>
  by_cases hu:u<10
  ·exact ⟨_,_,xc hu,by rw [YN u hu]; omega,by rw [YN u hu]; omega⟩
  ·obtain ⟨c,r,e,h1,h2⟩:=ih (u / 10) (by omega)
   exact ⟨c,r++[UInt8.ofNat (48+u % 10)],by rw [I8 hu,e]; rfl,h1,h2⟩
theorem PU (u k:Nat) (h:u<10 ^ (k+1)):(Lib.decDigits u).length<=k+1:=by
 induction k generalizing u with
 | zero=>rw [xc (by simpa using h)]; exact Nat.le_refl _
 | succ k ih =>
  by_cases hu:u<10
  ·rw [xc hu]; simp
  ·rw [I8 hu,List.length_append]
   have:=ih (u / 10) (by
    rw [Nat.div_lt_iff_lt_mul (by omega)]
    exact Nat.lt_of_lt_of_le h (Nat.le_of_eq (Nat.pow_succ 10 (k+1))))
   simp only [List.length_cons,List.length_nil]; omega
theorem QW {n:Int} (h:qD n):(lq n).length<=20/\lq n≠[]:=by
 rw [PT h]
 obtain ⟨h0,h1⟩:=h
 have hp:(10:Nat) ^ (18+1)=10000000000000000000:=by decide
 unfold Lib.itoa
 by_cases hn:n<0
 ·rw [if_pos hn]
  have:=PU n.natAbs 18 (by omega)
  exact ⟨by simp only [List.length_cons]; omega,by simp⟩
 ·rw [if_neg hn]
  have:=PU n.toNat 18 (by omega)
  obtain ⟨c,r,e,_,_⟩:=ai0 n.toNat
  exact ⟨by omega,by rw [e]; simp⟩
variable {P:Program}
abbrev o7 (s:Str):Value:=.string (bytes s)
theorem JF {w:World} {S:Nat->Prop} {m:aY} {v:Value} {s:Str} (h:Rel w S m v (.str s)):v=o7 s/\s.length<=maxLen:=by cases h; exact ⟨rfl,by assumption⟩
theorem ai1 {w:World} {S:Nat->Prop} {m:aY} {v:Value} {k:IntKind} {n:Int} (h:Rel w S m v (.int k n)):v = .int k n/\(Lit.int k n).wf=true:=by cases h; exact ⟨rfl,by assumption⟩
theorem ai2 {vs:Array Value} (h:vs.size=1):vs = #[vs.getD 0 Go.undef]:=by
 obtain ⟨l⟩:=vs
 match l,h with
 | [a],_=>rfl
theorem YP {vs:Array Value} (h:vs.size=2):vs = #[vs.getD 0 Go.undef,vs.getD 1 Go.undef]:=by
 obtain ⟨l⟩:=vs
 match l,h with
 | [a,b],_=>rfl
theorem QX {f:Nat} {args:List AV} {r:CR} (hen:∀ vs w,(callFunc f vs).run P w = .ok (.enter f vs) w)
  (h:∀ (w:World) (S:Nat->Prop) (vs:Array Value),GL w->(∀ b,S b->b<w.heap.size)->lh w S [] vs args->Calls P f vs w (yP w S r)):iX P f args r :=
 fun w S vs hg hs hr=>.inl ⟨hen vs w,h w S vs hg hs hr⟩
theorem YQ {f:Nat} {rs:RS} {g:Str->Str->Tree (lZ rs)} {d:lZ rs} (hen:∀ vs w,(callFunc f vs).run P w = .ok (.enter f vs) w)
  (h:∀ s t y w (S:Nat->Prop),(g s t).run=some y->GL w->s.length<=maxLen->t.length<=maxLen->(∀ b,S b->b<w.heap.size)->Calls P f #[o7 s,o7 t] w (yP w S (xy rs y))) :
  (⟨f,.cons (.val false .str) (.cons (.val false .str) .nil),rs,fun z=>g z.1 z.2.1,d⟩:aA).ok P:=by
 rintro ⟨s,t,_⟩ y hy
 refine QX hen fun w S vs hg hs hr=>?_
 have h0:=hr.2 0 (by show 0<2; omega)
 have h1:=hr.2 1 (by show 1<2; omega)
 obtain ⟨e,hl⟩:=JF (s:=s) h0
 obtain ⟨e1,hl1⟩:=JF (s:=t) h1
 rw [YP hr.1,e,e1]
 exact h s t y w S hy hg hl hl1 hs
theorem ai3 {f:Nat} {rs:RS} {g:Int->lZ rs} {d:lZ rs} (hen:∀ vs w,(callFunc f vs).run P w = .ok (.enter f vs) w)
  (h:∀ n w (S:Nat->Prop),GL w -> -9223372036854775808<=n->n<=9223372036854775807->(∀ b,S b->b<w.heap.size)->Calls P f #[.int .i64 n] w (yP w S (xy rs (g n)))) :
  (⟨f,.cons (.val false (.int .i64)) .nil,rs,fun z=>.ret (g z.1),d⟩:aA).ok P:=by
 rintro ⟨n,_⟩ y hy
 cases hy
 refine QX hen fun w S vs hg hs hr=>?_
 have h0:=hr.2 0 (by show 0<1; omega)
 obtain ⟨e,hl⟩:=ai1 (k:=.i64) (n:=n) h0
 rw [ai2 hr.1,e]
 have e1:IntKind.i64.min = -9223372036854775808:=rfl
 have e2:IntKind.i64.max=9223372036854775807:=rfl
 simp only [Lit.wf,e1,e2,Bool.and_eq_true,decide_eq_true_eq] at hl
 exact h n w S hg hl.1 hl.2 hs
theorem ai4 {w:World} {S:Nat->Prop} {v:Value} {sz n:Nat} {full:Bool} {c:Nat->Nat->AV} (h:Rel w S [] v (.slice sz n full c)) :
  (∃ a cap,v = .slice a 0 cap/\n=0)\/∃ (b o cap:Nat) (f:Nat->Nat->Value),S b/\v = .slice (some ⟨b,o,none⟩) n cap/\n<=cap/\cap<=maxLen/\∀ i,i<n->∀ j,j<sz->w.cell? ⟨b,o+i*sz+j,none⟩=some (f i j)/\Rel w S [] (f i j) (c i j):=by
 cases h with
 | slice _ b o _ _ cap _ _ f hsb hn hcap hf hc h=>exact .inr ⟨b,o,cap,f,hsb,rfl,hn,hcap,fun i hi j hj=>⟨(hc i hi j hj).1,h i hi j hj⟩⟩
 | dL _ a cap _ _ _ hcap hf=>exact .inl ⟨a,cap,rfl,rfl⟩
theorem ai5 {w:World} {S:Nat->Prop} {v:Value} {l:List Str} (hs:∀ b,S b->b<w.heap.size) (h:Rel w S [] v (.bF .str l false)) :
  (∃ a c,v = .slice a 0 c/\l=[])\/∃ b o c,v = .slice (some ⟨b,o,none⟩) l.length c/\b<w.heap.size/\l.length<=c/\c<=maxLen/\(∀ i (hi:i<l.length),w.cell? ⟨b,o+i,none⟩=some (o7 l[i])/\l[i].length<=maxLen):=by
 cases h with
 | bF _ _ _ _ _ h =>
  rcases ai4 h with ⟨a,c,hv,h0⟩ | ⟨b,o,c,f,hsb,hv,hn',hcap,hc⟩
  ·exact .inl ⟨a,c,hv,List.length_eq_zero_iff.1 h0⟩
  ·refine .inr ⟨b,o,c,hv,hs b hsb,hn',hcap,fun i hi=>?_⟩
   obtain ⟨h1,h2⟩:=hc i hi 0 (by show 0<1; omega)
   have e:vw .str l i 0 = .str l[i]:=by
    show nth [.str (l.getD i [])] 0=_
    rw [getD_lt _ _ _ hi]; rfl
   rw [e] at h2
   obtain ⟨e1,e2⟩:=JF h2
   rw [show aW Ty.str=1 from rfl,Nat.mul_one,Nat.add_zero,e1] at h1
   exact ⟨h1,e2⟩
def qE (sep:Str):List Str->Str
 | []=>[]
 | x::l=>x++(l.map fun y=>sep++y).flatten
theorem YR (sep:Str) (l:List Str):Lib.join l sep=qE sep l:=by
 cases l with
 | nil=>exact Lib.join_nil sep
 | cons x l=>rw [Lib.join_cons]; rfl
def Ar (l:List Str) (sep:Str):Tree Str:=ask (decide (l.length<=140737488355328))<|ask (decide ((qE sep l).length<=140737488355328))<|.ret (qE sep l)
theorem mO (s:Str):(bytes s).data.toList=s:=by unfold bytes; rfl
theorem af9 {f:Nat} {d:Str} (hen:∀ vs w,(callFunc f vs).run P w = .ok (.enter f vs) w)
  (h0:∀ (a:Option Addr) (c:Nat) (sep:ByteArray) (w:World),Calls P f #[.slice a 0 c,.string sep] w fun e w'=>e = .returned (.string ⟨#[]⟩)/\w'=w)
  (h:∀ (bk o c:Nat) (xs:List ByteArray) (sep:ByteArray) (w:World),(∀ (j:Nat) x,xs[j]? = some x->w.cell? ⟨bk,o+j,none⟩=some (.string x))->bk<w.heap.size->xs.length<=140737488355328->xs.length<=c ->
   (Lib.join (xs.map (·.data.toList)) sep.data.toList).length<=140737488355328 ->
   Calls P f #[.slice (some ⟨bk,o,none⟩) xs.length c,.string sep] w fun e w'=>e = .returned (.string ⟨(Lib.join (xs.map (·.data.toList)) sep.data.toList).toArray⟩)/\Below w.heap.size w w') :
  (⟨f,.cons (.val false (.list .str)) (.cons (.val false .str) .nil),.vals (.val false .str),fun z=>Ar z.1 z.2.1,d⟩:aA).ok P:=by
 rintro ⟨l,sep,_⟩ y hy
 refine QX hen fun w S vs hg hs hr=>?_
 have hr0:=hr.2 0 (by show 0<2; omega)
 have hr1:=hr.2 1 (by show 1<2; omega)
 obtain ⟨e1,hl1⟩:=JF (s:=sep) hr1
 have hlen:l.length<=140737488355328/\(qE sep l).length<=140737488355328/\y=qE sep l:=by
  have hy:(Ar l sep).run=some y:=hy
  unfold Ar at hy
  cases q1:decide (l.length<=140737488355328) with
  | false=>rw [q1] at hy; cases hy
  | true =>
   cases q2:decide ((qE sep l).length<=140737488355328) with
   | false=>rw [q1,q2] at hy; cases hy
   | true =>
    rw [q1,q2] at hy
    cases hy
    exact ⟨of_decide_eq_true q1,of_decide_eq_true q2,rfl⟩
 obtain ⟨k1,k2,rfl⟩:=hlen
 have hmax:(qE sep l).length<=maxLen:=Nat.le_trans k2 (by decide)
 rw [YP hr.1,e1]
 rcases ai5 hs hr0 with ⟨a,c,hv,hl⟩ | ⟨b,o,c,hv,hb,hc,hcm,hx⟩
 ·rw [hv]
  subst hl
  refine Calls.mono (h0 a c (bytes sep) w) fun e w' hq=>?_
  obtain ⟨rfl,rfl⟩:=hq
  exact ⟨_,rfl,Below.refl _ _,.str _ _ hmax⟩
 ·rw [hv]
  have hm:(l.map bytes).map (·.data.toList)=l:=by
   rw [List.map_map]
   calc l.map ((fun x:ByteArray=>x.data.toList)∘bytes)=l.map id:=List.map_congr_left fun s _=>mO s
    _=l:=List.map_id l
  have hb':=h b o c (l.map bytes) (bytes sep) w (fun j x hj=>by
   rw [List.getElem?_map] at hj
   cases hq:l[j]? with
   | none=>rw [hq] at hj; cases hj
   | some s =>
    rw [hq] at hj
    cases hj
    obtain ⟨hlt,rfl⟩:=List.getElem?_eq_some_iff.1 hq
    exact (hx j hlt).1) hb (by rw [List.length_map]; exact k1) (by rw [List.length_map]; exact hc) (by rw [hm,mO,YR]; exact k2)
  rw [List.length_map,hm,mO,YR] at hb'
  refine Calls.mono hb' fun e w' hq=>?_
  obtain ⟨rfl,hbel⟩:=hq
  exact ⟨_,rfl,hbel,.str _ _ hmax⟩
theorem ai6 (w:World) (k:Nat) (os:Array Obj):Below w.heap.size w (Sort.grow (w.drewN k) os) :=
 ⟨rfl,rfl,rfl,by show w.heap.size<=(w.heap++os).size; rw [Array.size_append]; omega,fun j hj=>Sort.heap_grow_old (w.drewN k) os hj⟩
theorem af6 {f:Nat} {d:Str} (hen:∀ vs w,(callFunc f vs).run P w = .ok (.enter f vs) w)
  (h:∀ (n:Int) (w:World),-9223372036854775808<=n->n<=9223372036854775807->GL w->Calls P f #[.int .i64 n] w fun e w'=>e = .returned (.string ⟨(Lib.itoa n).toArray⟩)/\∃ k os,w'=Sort.grow (w.drewN k) os) :
  (⟨f,.cons (.val false (.int .i64)) .nil,.vals (.val false .str),fun z=>.ret (lq z.1),d⟩:aA).ok P :=
 ai3 (rs:=.vals (.val false .str)) (g:=fun n=>lq n) hen fun n w S hg h0 h1 hs=>Calls.mono (h n w h0 h1 hg) fun e w' hq=>by
  obtain ⟨rfl,k,os,rfl⟩:=hq
  have hl:=(QW ⟨h0,h1⟩).1
  refine ⟨_,rfl,ai6 w k os,?_⟩
  show Rel _ _ [] _ (.str (lq n))
  rw [PT ⟨h0,h1⟩] at hl ⊢
  exact .str _ _ (Nat.le_trans hl (by decide))
def trimS (s p:Str):Str:=bif p.isPrefixOf s then s.drop p.length else s
theorem afX {f:Nat} {d:Str} (hen:∀ vs w,(callFunc f vs).run P w = .ok (.enter f vs) w)
  (h:∀ (s p:ByteArray) (w:World),Calls P f #[.string s,.string p] w fun e w'=>e = .returned (.string ⟨(Lib.trimPrefix s.data.toList p.data.toList).toArray⟩)/\w'=w) :
  (⟨f,.cons (.val false .str) (.cons (.val false .str) .nil),.vals (.val false .str),fun z=>.ret (trimS z.1 z.2.1),d⟩:aA).ok P :=
 YQ (rs:=.vals (.val false .str)) (g:=fun s p=>.ret (trimS s p)) hen fun s p y w S hy hg h0 h1 hs=>Calls.mono (h (bytes s) (bytes p) w) fun e w' hq=>by
  have hy:some (trimS s p)=some y:=hy
  injection hy with hy
  subst hy
  obtain ⟨rfl,rfl⟩:=hq
  rw [mO,mO]
  refine ⟨_,rfl,Below.refl _ _,?_⟩
  have e:Lib.trimPrefix s p=trimS s p:=by
   unfold Lib.trimPrefix trimS Lib.hasPrefix
   cases p.isPrefixOf s <;> rfl
  rw [e]
  refine .str _ _ ?_
  unfold trimS
  cases p.isPrefixOf s
  ·exact h0
  ·exact Nat.le_trans (by simp) h0
end Go.aT
