/- strings.Cut and strings.Split at one byte, as contracts of lifted functions. -/
import Derived.Test.YtjkhncojgilbaaaGreatDoorTrL
import Derived.Lib.Split
import Derived.Lib.CountLaws
import Derived.Lib.CutLaws
import Derived.Lib.SplitLaws
namespace Go.aT
open Go Go.RowKit
theorem YS (c x:UInt8) (l:Str):Lib.index (x::l) [c]=if c=x then 0 else if Lib.index l [c] = -1 then -1 else Lib.index l [c]+1:=by
 show (if ([c]:Str).isPrefixOf (x::l) then (0:Int) else if Lib.index l [c] == -1 then -1 else Lib.index l [c]+1)=_
 have e:([c]:Str).isPrefixOf (x::l)=(c==x):=by
  show (c==x&&([]:Str).isPrefixOf l)=_
  cases l <;> simp
 rw [e]
 by_cases h:c=x
 ·rw [if_pos h,if_pos (by rw [h,beq_self_eq_true])]
 ·rw [if_neg h,if_neg (by rw [beq_iff_eq]; exact h)]
  by_cases h2:Lib.index l [c] = -1
  ·rw [if_pos h2,if_pos (by rw [beq_iff_eq]; exact h2)]
  ·rw [if_neg h2,if_neg (by rw [beq_iff_eq]; exact h2)]
def qp (c:UInt8):Str->Str×Str×Bool
 | []=>([],[],false)
 | x::r=>bif x==c then ([],r,true) else (x::(qp c r).1,(qp c r).2.1,(qp c r).2.2)
def ek (c:UInt8):Str->List Str
 | []=>[[]]
 | x::r=>bif x==c then []::ek c r else (x::(ek c r).headD [])::(ek c r).tail
theorem I9 (c:UInt8) (r:Str):ek c (c::r)=[]::ek c r:=by
 conv=>lhs; unfold ek
 rw [beq_self_eq_true]; rfl
theorem Eb {c x:UInt8} (h:x≠c) (r:Str):ek c (x::r)=(x::(ek c r).headD [])::(ek c r).tail:=by
 have:(x==c)=false:=by rw [beq_eq_false_iff_ne]; exact h
 conv=>lhs; unfold ek
 rw [this]; rfl
theorem YT {c:UInt8}:∀ {s:Str},Lib.index s [c] = -1->ek c s=[s]
 | [],_=>rfl
 | x::r,h=>by
  rw [YS] at h
  by_cases hc:c=x
  ·rw [if_pos hc] at h; omega
  ·rw [if_neg hc] at h
   have hg:=Lib.index_ge r [c]
   have h2:Lib.index r [c] = -1:=by
    by_cases h2:Lib.index r [c] = -1
    ·exact h2
    ·rw [if_neg h2] at h; omega
   rw [Eb (fun e=>hc e.symm),YT h2]; rfl
theorem YU {c:UInt8}:∀ {s:Str} {i:Nat},Lib.index s [c]=(i:Int)->ek c s=s.take i::ek c (s.drop (i+1))
 | [],i,h=>by
  have:Lib.index [] [c] = -1:=rfl
  rw [this] at h; omega
 | x::r,i,h=>by
  rw [YS] at h
  by_cases hc:c=x
  ·rw [if_pos hc] at h
   obtain rfl:i=0:=by omega
   subst hc
   rw [I9]; rfl
  ·rw [if_neg hc] at h
   have hg:=Lib.index_ge r [c]
   by_cases h2:Lib.index r [c] = -1
   ·rw [if_pos h2] at h; omega
   ·rw [if_neg h2] at h
    obtain ⟨k,rfl⟩:∃ k,i=k+1:=⟨i-1,by omega⟩
    rw [Eb (fun e=>hc e.symm),YU (i:=k) (by omega)]; rfl
theorem ai7 (c:UInt8):∀ (n:Nat) (s:Str),s.length<=n->Lib.splitK [c] 0 (Lib.count s [c]) s=ek c s/\(ek c s).length=Lib.count s [c]+1:=by
 intro n
 induction n with
 | zero =>
  intro s h
  obtain rfl:s=[]:=List.length_eq_zero_iff.1 (by omega)
  exact ⟨rfl,rfl⟩
 | succ n ih =>
  intro s h
  have hg:=Lib.index_ge s [c]
  by_cases h2:Lib.index s [c] = -1
  ·rw [Lib.count_miss h2,YT h2]; exact ⟨rfl,rfl⟩
  ·obtain ⟨k,hk⟩:∃ k:Nat,Lib.index s [c]=k:=⟨(Lib.index s [c]).toNat,by omega⟩
   have hr:=Lib.index_room s [c] (by omega)
   rw [hk] at hr
   have hr:(k:Int)+1<=s.length:=hr
   obtain ⟨i1,i2⟩:=ih (s.drop (k+1)) (by rw [List.length_drop]; omega)
   rw [Lib.count_hit (by simp) hk,YU hk]
   refine ⟨?_,by rw [List.length_cons,i2]; show _=1+Lib.count (s.drop (k+1)) [c]+1; omega⟩
   rw [Nat.add_comm,Lib.splitK,if_neg (by rw [beq_iff_eq]; exact h2),hk,Int.toNat_natCast,Nat.add_zero]
   show _::Lib.splitK [c] 0 (Lib.count (s.drop (k+1)) [c]) (s.drop (k+1))=_
   rw [i1]
theorem Ed (c:UInt8):∀ (s:Str) (x:Str),x∈ek c s->x.length<=s.length
 | [],x,h=>by rw [List.mem_singleton.1 h]; exact Nat.le_refl _
 | y::r,x,h=>by
  by_cases hc:y=c
  ·subst hc
   rw [I9] at h
   rcases List.mem_cons.1 h with rfl | h
   ·exact Nat.zero_le _
   ·exact Nat.le_succ_of_le (Ed y r x h)
  ·rw [Eb hc] at h
   have hd:((ek c r).headD []).length<=r.length:=by
    cases hs:ek c r with
    | nil=>exact Nat.zero_le _
    | cons p ps=>exact Ed c r p (by rw [hs]; simp)
   rcases List.mem_cons.1 h with rfl | h
   ·simp only [List.length_cons]; omega
   ·exact Nat.le_succ_of_le (Ed c r x (List.mem_of_mem_tail h))
variable {P:Program}
def DV (s t:Str):Tree (List Str):=match t with
 | [c]=>ask (decide (s.length<4294967281))<|.ret (ek c s)
 | _=>.fail
theorem afZ {f e:Nat} {d:List Str} (hen:∀ vs w,(callFunc f vs).run P w = .ok (.enter f vs) w)
  (h:∀ (s sep:ByteArray) (w:World),GL w->s.size<4294967281->1<=sep.size->Calls P f #[.string s,.string sep] w fun r w' =>
   r = .returned (.slice (some ⟨w.heap.size,0,none⟩) (Lib.countB s sep+1) (Lib.countB s sep+1))/\w'=w.alloc (.cells ((Lib.splitB sep 0 (Lib.countB s sep) s).map Value.string).toArray e)) :
  (⟨f,.cons (.val false .str) (.cons (.val false .str) .nil),.fresh e .str,fun z=>DV z.1 z.2.1,d⟩:aA).ok P :=
 YQ (rs:=.fresh e .str) (g:=DV) hen fun s t y w S hy hg h0 h1 hs=>by
  match t,hy with
  | [c],hy =>
   have hl:s.length<4294967281/\y=ek c s:=by
    have hy:(ask (decide (s.length<4294967281)) (.ret (ek c s))).run=some y:=hy
    cases q1:decide (s.length<4294967281) with
    | false=>rw [q1] at hy; cases hy
    | true=>rw [q1] at hy; cases hy; exact ⟨of_decide_eq_true q1,rfl⟩
   obtain ⟨hl,rfl⟩:=hl
   have hsz:(bytes s).size=s.length:=by unfold bytes; rfl
   refine Calls.mono (h (bytes s) (bytes [c]) w hg (by omega) (by show 1<=[c].length; simp)) fun r w' hq=>?_
   obtain ⟨rfl,rfl⟩:=hq
   obtain ⟨k1,k2⟩:=ai7 c s.length s (Nat.le_refl _)
   have hcb:Lib.countB (bytes s) (bytes [c])+1=(ek c s).length:=by
    show Lib.count (bytes s).data.toList (bytes [c]).data.toList+1=_
    rw [mO,mO,k2]
   have hcells:((Lib.splitB (bytes [c]) 0 (Lib.countB (bytes s) (bytes [c])) (bytes s)).map Value.string).toArray=((ek c s).map o7).toArray:=by
    congr 1
    have hd:=Lib.splitB_data (bytes [c]) 0 (Lib.countB (bytes s) (bytes [c])) (bytes s)
    rw [mO,mO] at hd
    have e1:Lib.countB (bytes s) (bytes [c])=Lib.count s [c]:=by show Lib.count (bytes s).data.toList (bytes [c]).data.toList=_; rw [mO,mO]
    rw [e1] at hd ⊢
    rw [k1] at hd
    rw [<- hd,List.map_map]
    refine List.map_congr_left fun b _=>?_
    show Value.string b = .string (bytes b.data.toList)
    rfl
   rw [hcb,hcells]
   have hsize:(w.alloc (.cells ((ek c s).map o7).toArray e)).heap.size=w.heap.size+1:=Array.size_push _
   have hnew:(w.alloc (.cells ((ek c s).map o7).toArray e)).heap[w.heap.size]? = some (.cells ((ek c s).map o7).toArray e (0,0)):=Array.getElem?_push_size
   have hlen:(ek c s).length<=s.length+1:=by
    have:Lib.count s [c]<=s.length:=by
     have:=Lib.countB_le (bytes [c]) (by show 1<=[c].length; simp) (bytes s).size (bytes s) (Nat.le_refl _)
     rw [hsz] at this
     have e1:Lib.countB (bytes s) (bytes [c])=Lib.count s [c]:=by show Lib.count (bytes s).data.toList (bytes [c]).data.toList=_; rw [mO,mO]
     omega
    omega
   refine ⟨_,rfl,⟨rfl,rfl,rfl,by rw [hsize]; exact Nat.le_succ _,fun j hj=>Array.getElem?_push_lt hj |>.trans (Array.getElem?_eq_getElem hj).symm⟩,?_⟩
   refine .inr ⟨⟨w.heap.size,(ek c s).length,1,(ek c s).length,false,[]⟩,((ek c s).map o7).toArray,rfl,Nat.le_refl _,by rw [hsize]; exact Nat.lt_succ_self _,rfl,rfl,Nat.le_refl _,?_,hnew,by simp [aW],fun i hi j hj=>?_⟩
   ·have:(4294967281:Nat)<=maxLen:=by decide
    exact Nat.le_trans hlen (by omega)
   ·obtain rfl:j=0:=by have hj:j<1:=hj; omega
    rw [show aW Ty.str=1 from rfl,Nat.mul_one,Nat.add_zero]
    have ev:(((ek c s).map o7).toArray).getD i Go.undef=o7 (ek c s)[i]:=by simp [Array.getD_eq_getD_getElem?,hi]
    have ew:vw .str (ek c s) i 0 = .str (ek c s)[i]:=by
     show nth [.str ((ek c s).getD i [])] 0=_
     rw [getD_lt _ _ _ hi]; rfl
    rw [ev,ew]
    refine ⟨rfl,.str _ _ ?_⟩
    exact Nat.le_trans (Ed c s _ (List.getElem_mem hi)) h0
end Go.aT
