/- Names: name.Is and the reference's Is come to one plain function. -/
import Derived.Test.YtjkhncojgilbaaaGreatDoorL57
import Derived.Laws.RangeAny
namespace Go.aT
open Go Go.Proofs Go.RowKit
def rD (x:Int):Bool:=decide (97<=x/\x<=122\/48<=x/\x<=57\/x=45)
def okB (b:UInt8):Bool:=rD (b.toNat:Int)
def jc (s:Str):Bool:=!(s==[])&&decide (s.length<=16)&&s.all okB
theorem adO (s:List UInt8) (pos:Nat) (h:pos<s.length):rD (ae.rune s pos)=okB s[pos]/\(rD (ae.rune s pos)=true->ae.sG s pos=pos+1):=by
 have hb:pos<(bytes s).size:=by simpa [bytes,ByteArray.size] using h
 have hg:(bytes s)[pos]'hb=s[pos]:=rfl
 by_cases ha:(s[pos]).toNat<128
 ·have hd:=decode_ascii (bytes s) pos hb (by rw [hg]; exact ha)
  rw [hg] at hd
  have e1:ae.rune s pos=((s[pos]).toNat:Int):=congrArg (fun x:Nat×Nat=>(x.1:Int)) hd
  have e2:ae.sG s pos=pos+1:=by
   show (if pos<s.length then pos+(Utf8.decode (bytes s) pos).2 else pos)=_
   rw [if_pos h,hd]
  exact ⟨by rw [e1]; rfl,fun _=>e2⟩
 ·have hd:=decode_high (bytes s) pos hb (by rw [hg]; omega)
  have e1:128<=ae.rune s pos:=by show (128:Int)<=((Utf8.decode (bytes s) pos).1:Int); exact_mod_cast hd.1
  have f1:rD (ae.rune s pos)=false:=by
   unfold rD
   exact decide_eq_false (by omega)
  have f2:okB s[pos]=false:=by
   unfold okB rD
   exact decide_eq_false (by omega)
  exact ⟨f1.trans f2.symm,by rw [f1]; simp⟩
theorem adP (x:Int):(GJ x).run=some (rD x):=by
 unfold GJ rD
 simp only [Tree.run]
 congr 1
 simp only [Bool.decide_or,Bool.decide_and,Bool.or_assoc]
theorem GK (s:Str):(wG s).run=some (jc s):=by
 unfold wG
 simp only [Tree.run]
 by_cases h0:s=[]
 ·subst h0; rfl
 by_cases h1:(16:Int)<(s.length:Int)
 ·have:¬ s.length<=16:=by omega
  simp [h1,jc,this]
 ·have h2:s.length<=16:=by omega
  have h3:((s==([]:Str))||decide ((16:Int)<(s.length:Int)))=false:=by simp [h0,h1]
  simp only [h3,cond_false]
  have key:∀ d i,i+d=s.length->(s.take i).all okB=true->dP (fun v=>(wH s v).run) i=some (bif s.all okB then .inr () else .inl false):=by
   intro d
   induction d with
   | zero =>
    intro i hi ha
    have hi:i=s.length:=hi
    subst hi
    rw [List.take_length] at ha
    rw [ib,ha]
    unfold wH
    simp [Tree.run,U1]
   | succ d ih =>
    intro i hi ha
    have hlt:i<s.length:=by omega
    obtain ⟨r1,r2⟩:=adO s i hlt
    have hst:(wH s i).run=some (bif okB s[i] then .inl (ae.sG s i) else .inr (.inl false)):=by
     unfold wH
     simp only [Tree.run,Int.ofNat_lt,hlt,decide_true,cond_true,adP,Option.bind_some,r1]
     cases okB s[i] <;> rfl
    rw [ib,hst]
    cases hb:okB s[i] with
    | false =>
     have:s.all okB=false:=List.all_eq_false.2 ⟨s[i],List.getElem_mem hlt,by rw [hb]; simp⟩
     rw [this]; rfl
    | true =>
     have e:=r2 (r1.trans hb)
     rw [e]
     refine ih (i+1) (by omega) ?_
     rw [List.take_add_one,List.getElem?_eq_getElem hlt,List.all_append,ha]
     simp [hb]
  rw [key s.length 0 (by omega) (by simp)]
  have:jc s=s.all okB:=by simp [jc,h0,h2]
  rw [this]
  cases s.all okB <;> rfl
theorem adQ (b:UInt8):okB b=!(((decide ((b.toNat:Int)<97)||decide ((122:Int)<(b.toNat:Int)))&&(decide ((b.toNat:Int)<48)||decide ((57:Int)<(b.toNat:Int))))&&!decide ((b.toNat:Int)=45)):=by
 unfold okB rD
 rw [Bool.eq_iff_iff]
 simp only [decide_eq_true_eq,Bool.not_eq_true',Bool.and_eq_false_iff,Bool.or_eq_false_iff,decide_eq_false_iff_not,Bool.not_eq_false']
 omega
theorem adR {α β:Type} (l:List α) (p:α->Bool) (st:Int->Tree (Int⊕β)) (y z:β) (hl:l.length<=9223372036854775807)
  (h:∀ i (hi:i<l.length),(st (i:Int)).run=some (bif p l[i] then .inr y else .inl (ay ((i:Int)+1)))) (h0:(st (l.length:Int)).run=some (.inr z)) :
  dP (fun v=>(st v).run) 0=some (bif l.any p then y else z) :=
 LJ (st:=fun v=>(st v).run) l p (fun i=>(i:Int)) y z (fun i hi=>by rw [h i hi,zg i (by omega)]) h0 rfl
theorem adS (s:Str) (hs:s.length<=9223372036854775807):(mG s).run=some (jc s):=by
 unfold mG
 have h:=adR s (fun b=>!okB b) (fun v=>zh s v) (Sum.inl false:Bool⊕Unit) (.inr ()) hs (fun i hi=>by
  have e:gU s (i:Int)=(s[i].toNat:Int):=by simp [gU,ae,List.getD,hi]
  unfold zh
  simp only [Tree.run,Int.ofNat_lt,hi,decide_true,cond_true,iR,Bool.or_true,e,adQ]
  rw [Bool.not_not]
  generalize ((((decide ((s[i].toNat:Int)<97))||(decide ((122:Int)<(s[i].toNat:Int))))&&((decide ((s[i].toNat:Int)<48))||(decide ((57:Int)<(s[i].toNat:Int)))))&&(!decide ((s[i].toNat:Int)=45)))=c
  cases c <;> rfl) (by unfold zh; simp [Tree.run])
 simp only [Tree.run]
 rw [h]
 have hn:jc s=(!(s.any fun b=>!okB b)&&(decide ((1:Int)<=(s.length:Int))&&decide ((s.length:Int)<=16))):=by
  have ha:s.all okB=!(s.any fun b=>!okB b):=by rw [List.all_eq_not_any_not]
  unfold jc
  rw [ha,Bool.and_comm]
  congr 1
  cases s with
  | nil=>rfl
  | cons x l =>
   have h1:((x::l)==([]:Str))=false:=rfl
   have h2:(1:Int)<=((x::l).length:Int):=by simp only [List.length_cons]; omega
   rw [h1,decide_eq_true h2]
   simp only [Bool.not_false,Bool.true_and,decide_eq_decide]
   omega
 rw [hn]
 cases s.any fun b=>!okB b <;> rfl
theorem CL (s:Str) (hs:s.length<=1000000):(mG s).run=some (jc s):=adS s (by omega)
end Go.aT
