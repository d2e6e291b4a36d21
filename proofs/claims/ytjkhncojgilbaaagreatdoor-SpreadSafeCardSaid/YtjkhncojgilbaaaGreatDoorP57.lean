/- Laws in plain Lean: path name5 setl ins t13. -/
import Derived.Test.YtjkhncojgilbaaaGreatDoorK10
import Derived.Test.YtjkhncojgilbaaaGreatDoorTrS
namespace Go.aT
open Go Go.Proofs Go.RowKit
def D9 (l:List Str):Nat:=(l.map List.length).sum
theorem agW (l:List Str):(qE ([47]:Str) l).length<=D9 l+l.length:=by
 have key:∀ r:List Str,((r.map fun y=>([47]:Str)++y).flatten).length=D9 r+r.length:=fun r=>by
  unfold D9
  induction r with
  | nil=>rfl
  | cons y r ih=>simp only [List.map_cons,List.flatten_cons,List.length_append,List.length_cons,List.length_nil,List.sum_cons,ih]; omega
 cases l with
 | nil=>exact Nat.zero_le _
 | cons x l =>
  show (x++_).length<=_
  rw [List.length_append,key]
  unfold D9
  simp only [List.map_cons,List.sum_cons,List.length_cons]; omega
theorem agX (l:List Str) (hl:l.length<=1000000) (hs:D9 l<=1000000):(II l).run=some (qE ([47]:Str) l):=by
 have hj:(OZ l ([47]:Str)).run=some (qE ([47]:Str) l):=by
  show (Ar _ _).run=_
  unfold Ar
  have:=agW l
  exact (aM (decide_eq_true (by omega))).trans ((aM (decide_eq_true (by omega))).trans rfl)
 unfold II
 exact (aN hj).trans rfl
theorem Ea (a b:List Str) (ha:a.length<=1000000) (h:a=b):(um a b).run=some true:=by
 subst h
 unfold um
 have hl:=AA (β:=Bool⊕Unit) a.length (fun v=>zH a a v) (.inr ()) (by omega) (fun i hi=>by
  unfold zH
  simp only [Tree.run,Int.ofNat_lt,hi,decide_true,cond_true,iR,Bool.and_self,beq_self_eq_true,Bool.not_true,cond_false]) (by unfold zH; simp [Tree.run])
 simp only [Tree.run,decide_true,Bool.not_true,cond_false]
 rw [hl]; rfl
theorem Xb (s:Str) (i:Nat) (hi:i<s.length):gU s (i:Int)=(s[i].toNat:Int):=by simp [gU,ae,List.getD,hi]
theorem agY (x:UInt8) (n:Nat) (hn:n<256):decide ((x.toNat:Int)=(n:Int))=(x==UInt8.ofNat n):=by
 rw [Bool.eq_iff_iff,decide_eq_true_eq,beq_iff_eq]
 constructor
 ·intro h
  have h:x.toNat=n:=by omega
  rw [<- h,UInt8.ofNat_toNat]
 ·intro h
  rw [h,UInt8.toNat_ofNat',Nat.mod_eq_of_lt hn]
def app (p:Str) (l:List Str):List Str:=(p++l.headD [])::l.tail
theorem agZ (p q:Str) (l:List Str):app p (q::l)=(p++q)::l:=rfl
theorem ag0 (c:UInt8) (s:Str):ek c s≠[]:=by
 cases s with
 | nil=>exact fun h=>by cases h
 | cons x r =>
  by_cases h:x=c
  ·subst h; rw [I9]; exact fun h=>by cases h
  ·rw [Eb h]; exact fun h=>by cases h
theorem Xc (c:UInt8) (s:Str):app [] (ek c s)=ek c s:=by
 cases h:ek c s with
 | nil=>exact absurd h (ag0 c s)
 | cons p l=>rfl
theorem ag1 (p q:Str) (l:List Str):app p (app q l)=app (p++q) l:=by unfold app; simp
def kK (s:Str):List Str:=bif s==[] then [] else ek 47 s
theorem ag2 (c:UInt8) (s:Str) (hs:s.length<=1000000):(OM s [c]).run=some (ek c s):=by
 show (DV s [c]).run=_
 unfold DV
 exact (aM (decide_eq_true (by omega))).trans rfl
theorem ag3 (s:Str) (hs:s.length<=1000000):(IC s).run=some (kK s):=by
 unfold IC kK
 simp only [Tree.run,ag2 47 s hs,Option.bind_some]
 cases s==[] <;> rfl
theorem ag4 (s:Str) (hs:s.length<=100000):∀ (d i f:Nat) (out:List Str),f<=i->i+d=s.length->out.length<=i ->
  ∃ (g:Nat) (o:List Str),dP (fun v=>(rJ s v.1 v.2.1 v.2.2).run) ((f:Int),(i:Int),out)=some ((g:Int),o)/\g<=s.length/\o.length<=s.length/\o++[s.drop g]=out++app ((s.drop f).take (i-f)) (ek 47 (s.drop i)):=by
 have e47:∀ x:UInt8,decide ((x.toNat:Int)=47)=(x==47):=fun x=>agY x 47 (by omega)
 intro d
 induction d with
 | zero =>
  intro i f out hf hi ho
  obtain rfl:i=s.length:=hi
  refine ⟨f,out,?_,hf,ho,?_⟩
  ·rw [ib]
   unfold rJ
   simp only [Tree.run,Int.ofNat_lt,Nat.lt_irrefl,decide_false,cond_false]
   rfl
  ·rw [List.drop_length]
   show _=out++[(s.drop f).take (s.length-f)++[]]
   rw [List.append_nil,List.take_of_length_le (by rw [List.length_drop]; exact Nat.le_refl _)]
 | succ d ih =>
  intro i f out hf hi ho
  have hlt:i<s.length:=by omega
  have hw:ay ((i:Int)+1)=((i+1:Nat):Int):=di i (by omega)
  have hsub:jd s f i=(s.drop f).take (i-f):=rfl
  have hroom:decide ((out++[(s.drop f).take (i-f)]).length*16<=bD)=true:=room_le _ 16 (by simp only [List.length_append,List.length_cons,List.length_nil]; omega) (by omega)
  rw [ib]
  cases hb:s[i]==47 with
  | true =>
   have hst:(rJ s (f:Int) (i:Int) out).run=some (.inl (((i+1:Nat):Int),((i+1:Nat):Int),out++[(s.drop f).take (i-f)])):=by
    unfold rJ
    simp only [Tree.run,Int.ofNat_lt,hlt,decide_true,cond_true,iR,Xb s i hlt,e47,hb,hw,lJ,Int.toNat_natCast,hsub,hroom,show (i<=s.length)=True from eq_true (by omega),show (f<=i)=True from eq_true hf]
   rw [hst]
   obtain ⟨g,o,h1,h2,h3,h4⟩:=ih (i+1) (i+1) (out++[(s.drop f).take (i-f)]) (Nat.le_refl _) (by omega) (by simp only [List.length_append,List.length_cons,List.length_nil]; omega)
   refine ⟨g,o,h1,h2,h3,h4.trans ?_⟩
   have hx:s[i]=47:=by simpa using hb
   rw [Nat.sub_self,List.take_zero,Xc,List.drop_eq_getElem_cons hlt,hx,I9,agZ,List.append_nil,List.append_assoc]; rfl
  | false =>
   have hst:(rJ s (f:Int) (i:Int) out).run=some (.inl ((f:Int),((i+1:Nat):Int),out)):=by
    unfold rJ
    simp only [Tree.run,Int.ofNat_lt,hlt,decide_true,cond_true,iR,Xb s i hlt,e47,hb,hw,cond_false]
   rw [hst]
   obtain ⟨g,o,h1,h2,h3,h4⟩:=ih (i+1) f out (by omega) (by omega) (by omega)
   refine ⟨g,o,h1,h2,h3,h4.trans ?_⟩
   have hx:s[i]≠47:=by simpa using hb
   have ht:(s.drop f).take (i+1-f)=(s.drop f).take (i-f)++[s[i]]:=by
    have e:i+1-f=(i-f)+1:=by omega
    have hl:i-f<(s.drop f).length:=by rw [List.length_drop]; omega
    rw [e,List.take_add_one,List.getElem?_eq_getElem hl,List.getElem_drop]
    have:f+(i-f)=i:=by omega
    simp only [this]
    rfl
   rw [ht,List.drop_eq_getElem_cons hlt,Eb hx]
   show _=out++app _ (app [s[i]] (ek 47 (s.drop (i+1))))
   rw [ag1]
theorem ag5 (s:Str) (hs:s.length<=100000):(Ih s).run=some (kK s):=by
 unfold Ih kK
 cases he:s==[] with
 | true=>rfl
 | false =>
  obtain ⟨g,o,h1,h2,h3,h4⟩:=ag4 s hs s.length 0 0 [] (Nat.le_refl _) (by omega) (Nat.le_refl _)
  rw [List.drop_zero,Nat.sub_self,List.take_zero,Xc,List.nil_append] at h4
  have hsub:jd s g s.length=s.drop g:=by
   show (s.drop g).take (s.length-g)=_
   rw [List.take_of_length_le (by rw [List.length_drop]; exact Nat.le_refl _)]
  refine (aN (a:=((g:Int),o)) (by simp only [Tree.run]; exact h1)).trans ?_
  refine (aM (by rw [lJ]; exact decide_eq_true h2)).trans ?_
  rw [Int.toNat_natCast,hsub,h4]
  refine (aM (room_le _ 16 ?_ (by omega))).trans rfl
  rw [<- h4]
  simp only [List.length_append,List.length_cons,List.length_nil]; omega
structure SO {α:Type} (lt:α->α->Bool):Prop where
 AB:∀ a,lt a a=false
 tr:∀ a b c,lt a b=true->lt b c=true->lt a c=true
 tot:∀ a b,lt a b=false->lt b a=false->a=b
theorem SO.asym {α:Type} {lt:α->α->Bool} (h:SO lt) {a b:α} (k:lt a b=true):lt b a=false:=by
 cases e:lt b a with
 | false=>rfl
 | true=>have:=h.tr _ _ _ k e; rw [h.AB] at this; cases this
theorem xe:SO eY:=⟨ag6,fun a b c h k=>LM h k,fun a b h k=>Xd h k⟩
theorem SO.uniq {α:Type} {lt:α->α->Bool} (h:SO lt) {a b:List α} (ha:a.Pairwise fun x y=>lt x y=true) (hb:b.Pairwise fun x y=>lt x y=true) (hm:∀ x,x∈a↔x∈b):a=b:=by
 induction a generalizing b with
 | nil =>
  cases b with
  | nil=>rfl
  | cons y b=>exact absurd ((hm y).2 List.mem_cons_self) List.not_mem_nil
 | cons x a ih =>
  cases b with
  | nil=>exact absurd ((hm x).1 List.mem_cons_self) List.not_mem_nil
  | cons y b =>
   obtain ⟨a1,a2⟩:=List.pairwise_cons.1 ha
   obtain ⟨b1,b2⟩:=List.pairwise_cons.1 hb
   have e:x=y:=by
    rcases List.mem_cons.1 ((hm x).1 List.mem_cons_self) with e | hx
    ·exact e
    rcases List.mem_cons.1 ((hm y).2 List.mem_cons_self) with e | hy
    ·exact e.symm
    have h1:=b1 x hx
    have h2:=a1 y hy
    rw [h.asym h1] at h2; cases h2
   subst e
   rw [ih a2 b2 fun z=>⟨fun hz=>?_,fun hz=>?_⟩]
   ·rcases List.mem_cons.1 ((hm z).1 (List.mem_cons_of_mem _ hz)) with e | k
    ·subst e; have:=a1 z hz; rw [h.AB] at this; cases this
    ·exact k
   ·rcases List.mem_cons.1 ((hm z).2 (List.mem_cons_of_mem _ hz)) with e | k
    ·subst e; have:=b1 z hz; rw [h.AB] at this; cases this
    ·exact k
theorem ag7 {α:Type} {lt eq:α->α->Bool} (h:SO lt) (he:∀ a b,eq a b=true↔a=b) (x:α) (l:List α) (hs:(x::l).Pairwise fun a b=>lt b a=false) :
  (x::xg eq x l).Pairwise (fun a b=>lt a b=true)/\(∀ z,z∈x::xg eq x l↔z∈x::l)/\(xg eq x l).length<=l.length:=by
 induction l generalizing x with
 | nil=>exact ⟨List.pairwise_singleton _ _,fun z=>Iff.rfl,Nat.le_refl _⟩
 | cons y l ih =>
  obtain ⟨h1,h2⟩:=List.pairwise_cons.1 hs
  obtain ⟨h3,h4⟩:=List.pairwise_cons.1 h2
  simp only [xg]
  cases hq:eq y x with
  | true =>
   have e:=(he y x).1 hq
   subst e
   obtain ⟨k1,k2,k3⟩:=ih y (List.pairwise_cons.2 ⟨h3,h4⟩)
   refine ⟨k1,fun z=>?_,by simp; omega⟩
   rw [k2 z]; simp
  | false =>
   obtain ⟨k1,k2,k3⟩:=ih y h2
   have hxy:lt x y=true:=by
    cases hb:lt x y with
    | true=>rfl
    | false =>
     have e:=h.tot x y hb (h1 y List.mem_cons_self)
     subst e
     rw [(he x x).2 rfl] at hq; cases hq
   refine ⟨List.pairwise_cons.2 ⟨fun z hz=>?_,k1⟩,fun z=>?_,by simp; omega⟩
   ·rcases List.mem_cons.1 hz with e | hz
    ·subst e; exact hxy
    ·exact h.tr _ _ _ hxy ((List.pairwise_cons.1 k1).1 z hz)
   ·rw [List.mem_cons,k2 z,List.mem_cons (b:=x)]
theorem ag8 {α:Type} {lt eq:α->α->Bool} (h:SO lt) (he:∀ a b,eq a b=true↔a=b) (l:List α) (hs:l.Pairwise fun a b=>lt b a=false) :
  (Ec eq l).Pairwise (fun a b=>lt a b=true)/\(∀ z,z∈Ec eq l↔z∈l)/\(Ec eq l).length<=l.length:=by
 cases l with
 | nil=>exact ⟨List.Pairwise.nil,fun z=>Iff.rfl,Nat.le_refl _⟩
 | cons x l =>
  obtain ⟨k1,k2,k3⟩:=ag7 h he x l hs
  exact ⟨k1,k2,by simp [Ec]; omega⟩
def iT (l:List Str):List Str:=Ec PV (Xe l)
theorem PW (l:List Str):(iT l).Pairwise (fun a b=>eY a b=true)/\(∀ z,z∈iT l↔z∈l)/\(iT l).length<=l.length:=by
 have hs:=ag9 (le:=oO) aha ahb l
 obtain ⟨k1,k2,k3⟩:=ag8 xe (eq:=PV) (fun a b=>by unfold PV; simp) (Xe l) (hs.imp fun {a b} h=>by unfold oO at h; simpa using h)
 exact ⟨k1,fun z=>(k2 z).trans (Xf _ l).mem_iff,by rw [(Xf oO l).length_eq] at k3; exact k3⟩
def jB {α:Type} (lt:α->α->Bool) (x:α):List α->List α
 | []=>[x]
 | y::l=>match lt y x with | true=>y::jB lt x l | false=>match lt x y with | true=>x::y::l | false=>y::l
theorem ahc {α:Type} {lt:α->α->Bool} (h:SO lt) (x:α) {l:List α} (hs:l.Pairwise fun a b=>lt a b=true) :
  (jB lt x l).Pairwise (fun a b=>lt a b=true)/\(∀ z,z∈jB lt x l↔z=x\/z∈l)/\(jB lt x l).length<=l.length+1:=by
 induction l with
 | nil=>exact ⟨List.pairwise_singleton _ _,fun z=>by simp [jB],by simp [jB]⟩
 | cons y l ih =>
  obtain ⟨h1,h2⟩:=List.pairwise_cons.1 hs
  obtain ⟨k1,k2,k3⟩:=ih h2
  simp only [jB]
  cases hb:lt y x with
  | true =>
   refine ⟨List.pairwise_cons.2 ⟨fun z hz=>?_,k1⟩,fun z=>?_,by simp; omega⟩
   ·rcases (k2 z).1 hz with rfl | hz
    ·exact hb
    ·exact h1 z hz
   ·rw [List.mem_cons,k2 z,List.mem_cons]
    constructor
    ·rintro (h | h | h)
     ·exact .inr (.inl h)
     ·exact .inl h
     ·exact .inr (.inr h)
    ·rintro (h | h | h)
     ·exact .inr (.inl h)
     ·exact .inl h
     ·exact .inr (.inr h)
  | false =>
   cases hc:lt x y with
   | true =>
    refine ⟨List.pairwise_cons.2 ⟨fun z hz=>?_,hs⟩,fun z=>by simp,by simp⟩
    rcases List.mem_cons.1 hz with rfl | hz
    ·exact hc
    ·exact h.tr _ _ _ hc (h1 z hz)
   | false =>
    have e:=h.tot x y hc hb
    subst e
    exact ⟨hs,fun z=>by simp,by simp⟩
def nK {α:Type} (lt:α->α->Bool) (acc l:List α):List α:=l.foldl (fun acc x=>jB lt x acc) acc
theorem ahd {α:Type} {lt:α->α->Bool} (h:SO lt) (l:List α) {acc:List α} (hs:acc.Pairwise fun a b=>lt a b=true) :
  (nK lt acc l).Pairwise (fun a b=>lt a b=true)/\(∀ z,z∈nK lt acc l↔z∈acc\/z∈l)/\(nK lt acc l).length<=acc.length+l.length:=by
 induction l generalizing acc with
 | nil=>exact ⟨hs,fun z=>by simp [nK],by simp [nK]⟩
 | cons x l ih =>
  obtain ⟨k1,k2,k3⟩:=ahc h x hs
  obtain ⟨j1,j2,j3⟩:=ih k1
  refine ⟨j1,fun z=>?_,?_⟩
  ·show z∈nK lt (jB lt x acc) l↔_
   rw [j2 z,k2 z,List.mem_cons]
   constructor
   ·rintro ((h | h) | h)
    ·exact .inr (.inl h)
    ·exact .inl h
    ·exact .inr (.inr h)
   ·rintro (h | h | h)
    ·exact .inl (.inr h)
    ·exact .inl (.inl h)
    ·exact .inr h
  ·show (nK lt (jB lt x acc) l).length<=_
   simp only [List.length_cons]; omega
theorem ahe (l:List Str):nK eY [] l=iT l:=by
 obtain ⟨k1,k2,_⟩:=ahd xe l (acc:=[]) List.Pairwise.nil
 obtain ⟨j1,j2,_⟩:=PW l
 exact xe.uniq k1 j1 fun z=>by rw [k2,j2]; simp
theorem Rp (a b:Int):ae.imax a b=max a b:=by
 show (if b > a then b else a)=_
 split <;> omega
def fZ {α:Type} (lt:α->α->Bool) (x:α):List α->Nat
 | []=>0
 | y::l=>match lt y x with | true=>fZ lt x l+1 | false=>0
theorem Xg {α:Type} (lt:α->α->Bool) (x:α) (l:List α):fZ lt x l<=l.length:=by
 induction l with
 | nil=>exact Nat.le_refl _
 | cons y l ih=>simp only [fZ]; cases lt y x <;> simp; omega
theorem ahf {α:Type} (lt:α->α->Bool) (x:α) (l:List α) (i:Nat) (hi:i<fZ lt x l) (hl:i<l.length):lt l[i] x=true:=by
 induction l generalizing i with
 | nil=>exact absurd hl (Nat.not_lt_zero _)
 | cons y l ih =>
  simp only [fZ] at hi
  cases hy:lt y x with
  | false=>rw [hy] at hi; exact absurd hi (Nat.not_lt_zero _)
  | true =>
   rw [hy] at hi
   cases i with
   | zero=>exact hy
   | succ i=>exact ih i (by have hi:i+1<fZ lt x l+1:=hi; omega) (by simpa using hl)
theorem Xh {α:Type} (lt:α->α->Bool) (x:α) (l:List α) (hl:fZ lt x l<l.length):lt l[fZ lt x l] x=false:=by
 induction l with
 | nil=>exact absurd hl (Nat.not_lt_zero _)
 | cons y l ih =>
  cases hy:lt y x with
  | false =>
   have e:fZ lt x (y::l)=0:=by simp only [fZ,hy]
   simp only [e,List.getElem_cons_zero,hy]
  | true =>
   have e:fZ lt x (y::l)=fZ lt x l+1:=by simp only [fZ,hy]
   simp only [e,List.getElem_cons_succ]
   exact ih (by rw [e] at hl; simpa using hl)
theorem ahg {α:Type} (lt:α->α->Bool) (x:α) (l:List α) (st:Int->Tree (Int⊕Int)) (hl:l.length<=1000000)
  (h:∀ i (hi:i<l.length),(st (i:Int)).run=some (bif lt l[i] x then .inl (ay ((i:Int)+1)) else .inr (i:Int))) (h0:(st (l.length:Int)).run=some (.inr (l.length:Int))) :
  dP (fun v=>(st v).run) 0=some ((fZ lt x l:Nat):Int):=by
 have hle:=Xg lt x l
 refine fw (S:=fun i=>(i:Int)) (n:=fZ lt x l) (fun i hi=>?_) ?_ rfl
 ·rw [h i (by omega),ahf lt x l i hi (by omega),di i (by omega)]; rfl
 ·by_cases hlt:fZ lt x l<l.length
  ·rw [h _ hlt,Xh lt x l hlt]; rfl
  ·have:fZ lt x l=l.length:=by omega
   rw [this]; exact h0
theorem ahh {α:Type} {lt:α->α->Bool} (x:α) (l:List α):jB lt x l=if h:fZ lt x l<l.length then (if lt x l[fZ lt x l]=true then l.take (fZ lt x l)++x::l.drop (fZ lt x l) else l) else l++[x]:=by
 induction l with
 | nil=>rfl
 | cons y l ih =>
  simp only [jB]
  cases hy:lt y x with
  | false =>
   have e:fZ lt x (y::l)=0:=by simp only [fZ,hy]
   simp only [e,List.length_cons,Nat.zero_lt_succ,dite_true,List.getElem_cons_zero,List.take_zero,List.drop_zero,List.nil_append]
   cases lt x y <;> rfl
  | true =>
   have e:fZ lt x (y::l)=fZ lt x l+1:=by simp only [fZ,hy]
   simp only [e,List.length_cons,Nat.add_lt_add_iff_right,List.getElem_cons_succ,List.take_succ_cons,List.drop_succ_cons,List.cons_append]
   rw [ih]
   split
   ·split <;> rfl
   ·rfl
def zM:aL:=([],([],([],false)))
def lu (node v:Str):aL×Bool×Unit :=
 bif jc node&&decide ((kK v).length=3)&&jc ((kK v).getD 0 [])&&jc ((kK v).getD 1 [])&&((kK v).getD 2 []==([117,112]:Str)||(kK v).getD 2 []==([100,111,119,110]:Str)) then
  ((node,((kK v).getD 0 [],((kK v).getD 1 [],(kK v).getD 2 []==([117,112]:Str)))),true,()) else (zM,false,())
theorem ahj (c:UInt8) (s:Str) (i:Nat):((ek c s).getD i []).length<=s.length:=by
 rw [List.getD]
 cases h:(ek c s)[i]? with
 | none=>exact Nat.zero_le _
 | some x=>exact Ed c s x (List.mem_of_getElem? h)
theorem ahk (s:Str) (i:Nat):((kK s).getD i []).length<=s.length:=by
 unfold kK
 cases s==[]
 ·exact ahj 47 s i
 ·exact Nat.zero_le _
theorem ahl (node v:Str) (hv:v.length<=100000):(Ao node v).run=some (lu node v):=by
 unfold Ao lu
 refine (aN (ag3 v (by omega))).trans ?_
 generalize kK v=p
 refine (aN (GK node)).trans ?_
 by_cases h3:p.length=3
 ·have e:decide ((p.length:Int)=3)=true:=decide_eq_true (by omega)
  have e':decide (p.length=3)=true:=decide_eq_true h3
  have i0:aD 0 p.length=true:=by rw [h3]; kernel_rfl
  have i1:aD 1 p.length=true:=by rw [h3]; kernel_rfl
  have i2:aD 2 p.length=true:=by rw [h3]; kernel_rfl
  have t0:(0:Int).toNat=0:=rfl
  have t1:(1:Int).toNat=1:=rfl
  have t2:(2:Int).toNat=2:=rfl
  simp only [Tree.run,e,e',i0,i1,i2,t0,t1,t2,Bool.or_true,cond_true,GK,Option.bind_some,Option.isNone_some,Bool.and_false,cond_false,Option.getD_some]
  cases jc node <;> cases jc (p.getD 0 []) <;> cases jc (p.getD 1 []) <;> cases hu:(p.getD 2 []==([117,112]:Str)) <;> cases hd:(p.getD 2 []==([100,111,119,110]:Str)) <;>
   simp only [Bool.not_true,Bool.not_false,Bool.or_true,Bool.true_or,Bool.or_self,Bool.and_true,Bool.and_false,Bool.and_self,Bool.false_and,Bool.or_false,Bool.false_or,cond_true,cond_false,if_true,zM] <;> rfl
 ·have e:decide ((p.length:Int)=3)=false:=decide_eq_false (by omega)
  have e':decide (p.length=3)=false:=decide_eq_false h3
  simp only [Tree.run,e,e',Bool.not_false,Bool.or_true,Bool.not_true,Bool.true_or,cond_true,Bool.and_false,Bool.false_and,cond_false,GK,Option.bind_some,Option.isNone_some,zM]
theorem ahm (node v:Str) (hn:node.length<=100000) (hv:v.length<=100000):(DJ node v).run=some (lu node v):=by
 have hp:=ahk v
 unfold DJ lu
 refine (aN (ag5 v (by omega))).trans ?_
 generalize kK v=p at hp
 refine (aN (CL node (by omega))).trans ?_
 have n0:=CL (p.getD 0 []) (by have:=hp 0; omega)
 have n1:=CL (p.getD 1 []) (by have:=hp 1; omega)
 by_cases h3:p.length=3
 ·have e:decide ((p.length:Int)=3)=true:=decide_eq_true (by omega)
  have e':decide (p.length=3)=true:=decide_eq_true h3
  have i0:aD 0 p.length=true:=by rw [h3]; kernel_rfl
  have i1:aD 1 p.length=true:=by rw [h3]; kernel_rfl
  have i2:aD 2 p.length=true:=by rw [h3]; kernel_rfl
  have t0:(0:Int).toNat=0:=rfl
  have t1:(1:Int).toNat=1:=rfl
  have t2:(2:Int).toNat=2:=rfl
  simp only [Tree.run,e,e',i0,i1,i2,t0,t1,t2,Bool.or_true,cond_true,n0,n1,Option.bind_some,Option.isNone_some,Bool.and_false,cond_false,Option.getD_some]
  cases jc node <;> cases jc (p.getD 0 []) <;> cases jc (p.getD 1 []) <;> cases hu:(p.getD 2 []==([117,112]:Str)) <;> cases hd:(p.getD 2 []==([100,111,119,110]:Str)) <;>
   simp only [Bool.not_true,Bool.not_false,Bool.or_true,Bool.true_or,Bool.or_self,Bool.and_true,Bool.and_false,Bool.and_self,Bool.false_and,Bool.or_false,Bool.false_or,cond_true,cond_false,if_true,zM] <;> rfl
 ·have e:decide ((p.length:Int)=3)=false:=decide_eq_false (by omega)
  have e':decide (p.length=3)=false:=decide_eq_false h3
  have t0:(0:Int).toNat=0:=rfl
  have t1:(1:Int).toNat=1:=rfl
  simp only [Tree.run,e,e',t0,t1,Bool.not_false,Bool.or_true,Bool.not_true,Bool.true_or,cond_true,Bool.and_false,Bool.false_and,cond_false,n0,n1,Option.bind_some,Option.isNone_some,zM]
def mI (out:List aL) (x:Entry):List aL:=bif (lu (x.1.drop 5) x.2.2.2).2.1 then out++[(lu (x.1.drop 5) x.2.2.2).1] else out
def bI (l:List Entry):List aL:=(l.filter (jo ([110,111,100,101]:Str))).foldl mI []
theorem PX (out:List aL) (x:Entry):(mI out x).length<=out.length+1:=by
 unfold mI
 cases (lu (x.1.drop 5) x.2.2.2).2.1
 ·exact Nat.le_succ _
 ·simp
theorem Ja (l:List Entry) (hl:iD l):(wN l).run=some (bI l):=by
 have hl1:=hl.1
 unfold wN bI
 refine (aN (ad9 l _ hl (by decide))).trans ?_
 have hu:∀ x,x∈l.filter (jo ([110,111,100,101]:Str))->x∈l/\jo ([110,111,100,101]:Str) x=true:=fun x hx=>List.mem_filter.1 hx
 have hlen:(l.filter (jo ([110,111,100,101]:Str))).length<=10000:=Nat.le_trans (List.length_filter_le _ _) hl1
 generalize l.filter (jo ([110,111,100,101]:Str))=u at hu hlen
 have hloop:=PY (st:=fun v=>(Ap u (u.length:Int) v.1 v.2).run) u mI id (fun i (c:List aL)=>((i:Int),c)) (fun i c=>c.length<=i) (fun i c hi hI=>by
  obtain ⟨hx,hux⟩:=hu u[i] (List.getElem_mem hi)
  have hs:=(hl.2 u[i] hx).2.2
  have ht:(IB u[i].1 ([110,111,100,101,47]:Str)).run=some (u[i].1.drop 5):=by
   show some (trimS u[i].1 ([110,111,100,101,47]:Str))=_
   unfold trimS
   have:([110,111,100,101,47]:Str).isPrefixOf u[i].1=true:=hux
   rw [this]; rfl
  refine ⟨?_,by have:=PX c u[i]; omega⟩
  have hroom:∀ m:aL,decide ((c++[m]).length*56<=bD)=true:=fun m=>room_le _ _ (by simp only [List.length_append,List.length_cons,List.length_nil]; omega) (by omega)
  unfold Ap mI
  simp only [Tree.run,Int.ofNat_lt,hi,decide_true,cond_true,iR,Int.toNat_natCast,getD_lt _ _ _ hi,ht,ahl _ _ (show u[i].2.2.2.length<=100000 by omega),Option.bind_some,hroom,di i (by omega)]
  cases (lu (u[i].1.drop 5) u[i].2.2.2).2.1 <;> simp only [cond_true,cond_false,if_true]) (fun c hI=>by
  unfold Ap
  simp only [Tree.run,Int.ofNat_lt,Nat.lt_irrefl,decide_false,cond_false]
  rfl) [] (Nat.zero_le _) (s0:=((0:Int),([]:List aL))) rfl
 refine (aN (a:=u.foldl mI []) (by simp only [Tree.run]; exact hloop)).trans rfl
theorem AJ (l:List Entry) (hl:iD l):(qA l).run=some (bI l):=by
 have hl1:=hl.1
 unfold qA bI
 refine (aN (aec l _ hl (by decide))).trans ?_
 have hu:∀ x,x∈l.filter (jo ([110,111,100,101]:Str))->x∈l/\jo ([110,111,100,101]:Str) x=true:=fun x hx=>List.mem_filter.1 hx
 have hlen:(l.filter (jo ([110,111,100,101]:Str))).length<=10000:=Nat.le_trans (List.length_filter_le _ _) hl1
 generalize l.filter (jo ([110,111,100,101]:Str))=u at hu hlen
 have hloop:=PY (st:=fun v=>(Ai u v.1 v.2).run) u mI id (fun i (c:List aL)=>((i:Int),c)) (fun i c=>c.length<=i) (fun i c hi hI=>by
  obtain ⟨hx,hux⟩:=hu u[i] (List.getElem_mem hi)
  have hs:=hl.2 u[i] hx
  have h5:5<=u[i].1.length:=by
   have:([110,111,100,101,47]:Str).isPrefixOf u[i].1=true:=hux
   have:=(List.isPrefixOf_iff_prefix.1 this).length_le
   simpa using this
  have hsub:jd u[i].1 (5:Int).toNat u[i].1.length=u[i].1.drop 5:=by
   show (u[i].1.drop 5).take (u[i].1.length-5)=_
   rw [List.take_of_length_le (by rw [List.length_drop]; exact Nat.le_refl _)]
  have i5:df 5 u[i].1.length=true:=by
   have:=lJ 5 u[i].1.length
   rw [show ((5:Nat):Int)=5 from rfl] at this
   rw [this]; exact decide_eq_true h5
  have hd:(u[i].1.drop 5).length<=100000:=by rw [List.length_drop]; omega
  refine ⟨?_,by have:=PX c u[i]; omega⟩
  have hroom:∀ m:aL,decide ((c++[m]).length*56<=bD)=true:=fun m=>room_le _ _ (by simp only [List.length_append,List.length_cons,List.length_nil]; omega) (by omega)
  unfold Ai mI
  simp only [Tree.run,Int.ofNat_lt,hi,decide_true,cond_true,iR,Int.toNat_natCast,getD_lt _ _ _ hi,hsub,i5,ahm _ _ hd (show u[i].2.2.2.length<=100000 by omega),Option.bind_some,hroom,di i (by omega)]
  cases (lu (u[i].1.drop 5) u[i].2.2.2).2.1 <;> simp only [cond_true,cond_false,if_true]) (fun c hI=>by
  unfold Ai
  simp only [Tree.run,Int.ofNat_lt,Nat.lt_irrefl,decide_false,cond_false]
  rfl) [] (Nat.zero_le _) (s0:=((0:Int),([]:List aL))) rfl
 refine (aN (a:=u.foldl mI []) (by simp only [Tree.run]; exact hloop)).trans rfl
theorem AL (l:List Entry):(bI l).length<=l.length:=by
 have key:∀ (u:List Entry) (c:List aL),(u.foldl mI c).length<=c.length+u.length:=fun u=>by
  induction u with
  | nil=>intro c; exact Nat.le_refl _
  | cons x u ih =>
   intro c
   have h1:=ih (mI c x)
   have h2:=PX c x
   simp only [List.foldl_cons,List.length_cons]; omega
 have:=key (l.filter (jo ([110,111,100,101]:Str))) []
 have h2:=List.length_filter_le (jo ([110,111,100,101]:Str)) l
 unfold bI
 simp only [List.length_nil] at this; omega
theorem ahn (l:List Str) (n:Str) (hl:l.length<=100000):(Ic l n).run=some (jB eY n l):=by
 unfold Ic
 have hle:=Xg eY n l
 simp only [Tree.run]
 rw [ahg eY n l (fun v=>Af l n v) (by omega) (fun i hi=>by
  unfold Af
  simp only [Tree.run,Int.ofNat_lt,hi,decide_true,iR,Bool.or_true,cond_true,Int.toNat_natCast,getD_lt _ _ _ hi,Bool.true_and]
  cases eY l[i] n <;> rfl) (by unfold Af; simp [Tree.run]),ahh]
 simp only [Option.bind_some]
 by_cases hlt:fZ eY n l<l.length
 ·have hlt':decide (((fZ eY n l:Nat):Int)<(l.length:Int))=true:=by rw [decide_eq_true_eq]; omega
  have hat:=Xh eY n l hlt
  rw [dif_pos hlt]
  generalize fZ eY n l=k at *
  simp only [hlt',hlt,iR,lJ,hle,decide_true,Bool.or_true,cond_true,Int.toNat_natCast,getD_lt _ _ _ hlt,Bool.true_and]
  by_cases he:l[k]=n
  ·have hirr:eY n l[k]=false:=by rw [he]; exact xe.AB n
   have:(l[k]==n)=true:=by rw [he]; exact beq_self_eq_true n
   simp only [this,hirr,cond_true,Bool.false_eq_true,if_false]
  ·have hgt:eY n l[k]=true:=by
    cases h:eY n l[k] with
    | true=>rfl
    | false=>exact absurd (xe.tot _ _ hat h) he
   have hne:(l[k]==n)=false:=by rw [beq_eq_false_iff_ne]; exact he
   have q1:(l.take k).length<=1000000:=by rw [List.length_take]; omega
   have q2:(l.take k++[n]).length<=1000000:=by rw [List.length_append,List.length_take]; simp; omega
   have q3:((l.take k++[n])++l.drop k).length<=1000000:=by rw [List.length_append,List.length_append,List.length_take,List.length_drop]; simp; omega
   simp only [hne,hgt,cond_false,if_true,room_le _ 16 q1 (by omega),room_le _ 16 q2 (by omega),room_le _ 16 q3 (by omega),cond_true]
   rw [List.append_assoc]; rfl
 ·have hk:fZ eY n l=l.length:=by omega
  rw [dif_neg hlt,hk]
  have q1:(l.take l.length).length<=1000000:=by rw [List.length_take]; omega
  have q2:(l.take l.length++[n]).length<=1000000:=by rw [List.length_append,List.length_take]; simp; omega
  have q3:((l.take l.length++[n])++l.drop l.length).length<=1000000:=by rw [List.length_append,List.length_append,List.length_take,List.length_drop]; simp; omega
  have hlt':decide ((l.length:Int)<(l.length:Int))=false:=decide_eq_false (by omega)
  simp only [hlt',Bool.not_false,Bool.true_or,Bool.false_and,cond_true,cond_false,lJ,Nat.le_refl,decide_true,Int.toNat_natCast,room_le _ 16 q1 (by omega),room_le _ 16 q2 (by omega),room_le _ 16 q3 (by omega)]
  rw [List.take_length,List.drop_length,List.append_nil]
theorem aho (l:List Str):∀ acc:List Str,(nK eY acc l).length<=acc.length+l.length:=by
 have one:∀ (x:Str) (acc:List Str),(jB eY x acc).length<=acc.length+1:=fun x acc=>by
  induction acc with
  | nil=>exact Nat.le_refl _
  | cons y acc ih =>
   simp only [jB]
   cases eY y x with
   | true=>simp only [List.length_cons]; omega
   | false=>cases eY x y <;> simp
 unfold nK
 induction l with
 | nil=>intro acc; exact Nat.le_refl _
 | cons x l ih =>
  intro acc
  have h1:=ih (jB eY x acc)
  have h2:=one x acc
  simp only [List.foldl_cons,List.length_cons]; omega
theorem ahp (l:List aL) (g:aL->Str) (st:(List Str×Int)->Tree ((List Str×Int)⊕List Str)) (hl:l.length<=10000)
  (h:∀ (out:List Str) (i:Nat) (hi:i<l.length),out.length<=100000->(st (out,(i:Int))).run=some (.inl (jB eY (g l[i]) out,ay ((i:Int)+1)))) (h0:∀ out,(st (out,(l.length:Int))).run=some (.inr out)) :
  dP (fun v=>(st v).run) ([],0)=some (iT (l.map g)):=by
 rw [PY (st:=fun v=>(st v).run) l (fun out m=>jB eY (g m) out) id (fun i (c:List Str)=>(c,(i:Int))) (fun i c=>c.length<=i) (fun i c hi hI=>by
  have h2:=aho [g l[i]] c
  refine ⟨?_,by
   have:nK eY c [g l[i]]=jB eY (g l[i]) c:=rfl
   rw [this] at h2; simp only [List.length_cons,List.length_nil] at h2; omega⟩
  show (st (c,(i:Int))).run=_
  rw [h c i hi (by omega),di i (by omega)]) (fun c hI=>h0 c) [] (Nat.zero_le _) (s0:=(([]:List Str),(0:Int))) rfl]
 rw [<- ahe]
 unfold nK
 rw [List.foldl_map]; rfl
theorem ahq (l:List aL) (hl:l.length<=10000):(Ns l).run=some (iT (l.map fun m=>m.2.1)):=by
 have h:=ahp l (fun m=>m.2.1) (fun v=>Ag l v.1 v.2) hl (fun out i hi ho=>by
  unfold Ag
  simp only [Tree.run,Int.ofNat_lt,hi,decide_true,cond_true,iR,Int.toNat_natCast,getD_lt _ _ _ hi,ahn out _ ho,Option.bind_some]) (fun out=>by unfold Ag; simp [Tree.run])
 exact (aN (by simp only [Tree.run]; exact h)).trans rfl
end Go.aT
