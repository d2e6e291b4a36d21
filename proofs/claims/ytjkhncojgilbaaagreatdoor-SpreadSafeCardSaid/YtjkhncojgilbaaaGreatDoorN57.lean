/- Laws in plain Lean: num. -/
import Derived.Test.YtjkhncojgilbaaaGreatDoorK05
namespace Go.aT
open Go Go.Proofs Go.RowKit
theorem D8 {n:Int} (h:qD n):ay n=n:=by
 obtain ⟨h0,h1⟩:=h
 show IntKind.i64.wrap n=n
 rw [IntKind.wrap_i64]; omega
theorem PR:∀ d:Nat,d<10->jd ([48,49,50,51,52,53,54,55,56,57]:Str) d (d+1)=[UInt8.ofNat (48+d)]
 | 0,_=>rfl | 1,_=>rfl | 2,_=>rfl | 3,_=>rfl | 4,_=>rfl | 5,_=>rfl | 6,_=>rfl | 7,_=>rfl | 8,_=>rfl | 9,_=>rfl
 | d+10,h=>absurd h (by omega)
theorem W9 (m:Nat):(m:Int).tmod 10=((m % 10:Nat):Int):=by
 rw [Int.tmod_eq_emod_of_nonneg (by omega)]; omega
theorem Xa (m:Nat):(m:Int).tdiv 10=((m / 10:Nat):Int):=by
 rw [Int.tdiv_eq_ediv_of_nonneg (by omega)]; omega
theorem agT (n k:Int) (s:Str) (hk:qD k) (h0:k≠0) (hs:s.length<=1000) :
  (uw n s k).run=some (.inl (UInt8.ofNat (48+k.natAbs % 10)::s,k.tdiv 10)):=by
 have hlen:([48,49,50,51,52,53,54,55,56,57]:Str).length=10:=rfl
 obtain ⟨hk0,hk1⟩:=hk
 have hd0:decide (k=0)=false:=decide_eq_false h0
 have h10:decide ((10:Int)=0)=false:=rfl
 rcases Int.eq_nat_or_neg k with ⟨m,rfl | rfl⟩
 ·have e1:=W9 m
  have e2:=Xa m
  have hj:m % 10<10:=Nat.mod_lt _ (by omega)
  have en:(m:Int).natAbs=m:=Int.natAbs_natCast m
  rw [en]
  generalize m % 10=j at e1 hj
  have w1:ay ((j:Int)+1)=((j+1:Nat):Int):=by rw [D8 ⟨by omega,by omega⟩]; omega
  have w2:ay ((m:Int).tdiv 10)=(m:Int).tdiv 10:=by rw [e2]; exact D8 ⟨by omega,by omega⟩
  have hn:decide ((j:Int)<0)=false:=decide_eq_false (by omega)
  have i1:df ((j+1:Nat):Int) 10=true:=by rw [lJ,decide_eq_true (by omega)]
  have i2:df (j:Int) (j+1)=true:=by rw [lJ,decide_eq_true (by omega)]
  have q:decide (([UInt8.ofNat (48+j)]:Str).length+s.length<=9223372036854775807)=true:=decide_eq_true (by simp only [List.length_cons,List.length_nil]; omega)
  unfold uw
  simp only [Tree.run,hd0,h10,e1,hn,w1,w2,hlen,i1,i2,Int.toNat_natCast,PR j hj,q,Bool.not_false,cond_true,cond_false]
  rfl
 ·have e1:(-(m:Int)).tmod 10 = -((m % 10:Nat):Int):=by rw [Int.neg_tmod,W9]
  have e2:(-(m:Int)).tdiv 10 = -((m / 10:Nat):Int):=by rw [Int.neg_tdiv,Xa]
  have hj:m % 10<10:=Nat.mod_lt _ (by omega)
  have en:(-(m:Int)).natAbs=m:=by omega
  rw [en]
  have w2:ay ((-(m:Int)).tdiv 10)=(-(m:Int)).tdiv 10:=by rw [e2]; exact D8 ⟨by omega,by omega⟩
  generalize m % 10=j at e1 hj
  have w1:ay ((j:Int)+1)=((j+1:Nat):Int):=by rw [D8 ⟨by omega,by omega⟩]; omega
  have i1:df ((j+1:Nat):Int) 10=true:=by rw [lJ,decide_eq_true (by omega)]
  have i2:df (j:Int) (j+1)=true:=by rw [lJ,decide_eq_true (by omega)]
  have q:decide (([UInt8.ofNat (48+j)]:Str).length+s.length<=9223372036854775807)=true:=decide_eq_true (by simp only [List.length_cons,List.length_nil]; omega)
  unfold uw
  cases j with
  | zero =>
   have e1:(-(m:Int)).tmod 10=((0:Nat):Int):=by rw [e1]; rfl
   have hn:decide (((0:Nat):Int)<0)=false:=rfl
   simp only [Tree.run,hd0,h10,e1,hn,w1,w2,hlen,i1,i2,Int.toNat_natCast,PR 0 hj,q,Bool.not_false,cond_true,cond_false]
   rfl
  | succ j =>
   have hn:decide (-((j+1:Nat):Int)<0)=true:=decide_eq_true (by omega)
   have w3:ay ((0:Int) - -((j+1:Nat):Int))=((j+1:Nat):Int):=by rw [D8 ⟨by omega,by omega⟩]; omega
   simp only [Tree.run,hd0,h10,e1,hn,w3,w1,w2,hlen,i1,i2,Int.toNat_natCast,PR (j+1) hj,q,Bool.not_false,cond_true,cond_false]
   rfl
theorem agU (n:Int):∀ (m:Nat) (k:Int) (s:Str),k.natAbs=m->qD k->k≠0->(Lib.decDigits m).length+s.length<=1000 ->
  dP (fun v=>(uw n v.1 v.2).run) (s,k)=some (Lib.decDigits m++s):=by
 intro m
 induction m using Nat.strongRecOn with
 | ind m ih =>
  intro k s hm hk h0 hs
  have hs':s.length<=1000:=by omega
  rw [ib,agT n k s hk h0 hs',hm]
  show dP _ (UInt8.ofNat (48+m % 10)::s,k.tdiv 10)=_
  have hq:(k.tdiv 10).natAbs=m / 10:=by rw [Int.natAbs_tdiv,hm]; rfl
  by_cases hm10:m<10
  ·have hz:k.tdiv 10=0:=Int.natAbs_eq_zero.1 (by rw [hq]; omega)
   rw [hz,ib]
   rw [xc hm10,Nat.mod_eq_of_lt hm10]
   unfold uw
   simp only [Tree.run,decide_true,Bool.not_true,cond_false]
   rfl
  ·have hne:k.tdiv 10≠0:=fun e=>by rw [e] at hq; simp at hq; omega
   have hb:qD (k.tdiv 10):=by
    obtain ⟨a,b⟩:=hk
    have:(k.tdiv 10).natAbs<=9223372036854775807:=by rw [hq]; omega
    constructor <;> omega
   rw [I8 hm10] at hs ⊢
   rw [ih (m / 10) (by omega) _ _ hq hb hne (by simp only [List.length_append,List.length_cons,List.length_nil] at hs ⊢; omega)]
   simp
theorem agV (n:Int) (h:qD n):(Iq n).run=some (lq n):=by
 rw [PT h]
 unfold Iq Lib.itoa
 by_cases h0:n=0
 ·subst h0
  simp only [Tree.run,decide_true,cond_true]
  rw [if_neg (by omega)]
  show _=some (Lib.decDigits 0)
  rw [xc (by omega)]; rfl
 ·have hl:(Lib.decDigits n.natAbs).length<=20:=PU _ 19 (by
   obtain ⟨a,b⟩:=h
   have:(10:Nat) ^ (19+1)=100000000000000000000:=by decide
   omega)
  have hloop:=agU n n.natAbs n [] rfl h h0 (by simp only [List.length_nil]; omega)
  rw [List.append_nil] at hloop
  simp only [Tree.run,decide_eq_false h0,cond_false]
  rw [hloop]
  simp only [Option.bind_some]
  by_cases hn:n<0
  ·rw [if_pos hn]
   have q:decide (([45]:Str).length+(Lib.decDigits n.natAbs).length<=9223372036854775807)=true:=decide_eq_true (by simp only [List.length_cons,List.length_nil]; omega)
   simp only [decide_eq_true hn,cond_true,q]
   rfl
  ·rw [if_neg hn]
   simp only [decide_eq_false hn,cond_false]
   have:n.natAbs=n.toNat:=by omega
   rw [this]
