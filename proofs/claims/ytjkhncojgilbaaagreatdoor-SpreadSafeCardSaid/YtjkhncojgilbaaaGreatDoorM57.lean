/- The runs of Go's generic library functions in lifted texts. Printed by a program. -/
import Derived.Test.YtjkhncojgilbaaaGreatDoorL57
namespace Go.aT
open Go Go.Proofs
theorem aea (x0:List Entry) (hl:x0.length<=1000000):(Iw x0).run=some x0:=by
 unfold Iw
 cases x0 with
 | nil=>simp [Tree.run,Nat.beq]
 | cons x l =>
  have:Nat.beq (x::l).length 0=false:=rfl
  simp only [Tree.run,this,room_le _ 56 hl (by omega),cond_true,cond_false]
theorem agN (x0:List Entry) (x1:Str) (p:Entry->Bool) (hl:x0.length<=1000000) (hp:∀ x,x∈x0->(zo x x1).run=some (p x)):(Iz x0 x1).run=some (lX p x0):=by
 unfold Iz
 refine D7 x0 p _ hl (fun i hi=>?_) ?_
 ·unfold DT
  simp only [Tree.run,Int.ofNat_lt,hi,decide_true,cond_true,iR,Int.toNat_natCast,getD_lt _ _ _ hi,hp _ (List.getElem_mem hi),Option.bind_some]
  cases p x0[i] <;> rfl
 ·unfold DT; simp [Tree.run]
theorem aeb (x0:List Entry) (x1:Str) (p:Entry->Bool) (hl:x0.length<=1000000) (hp:∀ x,x∈x0->(zo x x1).run=some (p x)):(IA x0 x1).run=some (x0.filter (fun x=>!p x),((x1,()),())):=by
 unfold IA
 refine WY x0 p _ _ _ _ hl (agN x0 x1 p hl hp) (fun i j s hj hij hs hm=>?_) (fun i j s hs hj=>?_)
 ·have hi':i<s.length:=by omega
  unfold DU
  simp only [Tree.run,Int.ofNat_lt,hj,hi',decide_true,cond_true,iR,Int.toNat_natCast,getD_lt _ _ _ hj,hp _ hm,Option.bind_some,di j (by omega),di i (by omega)]
  cases p s[j] <;> rfl
 ·subst hj
  unfold DU
  simp [Tree.run]
theorem ad6 (x0:List Entry) (x1:Str) (p:Entry->Bool) (hl:x0.length<=1000000) (hp:∀ x,x∈x0->(O1 x x1).run=some (p x)):(IK x0 x1).run=some (lX p x0):=by
 unfold IK
 refine D7 x0 p _ hl (fun i hi=>?_) ?_
 ·unfold DW
  simp only [Tree.run,Int.ofNat_lt,hi,decide_true,cond_true,iR,Int.toNat_natCast,getD_lt _ _ _ hi,hp _ (List.getElem_mem hi),Option.bind_some]
  cases p x0[i] <;> rfl
 ·unfold DW; simp [Tree.run]
theorem agO (x0:List Str) (x1:Str) (hl:x0.length<=1000000):(I7 x0 x1).run=some (lX (fun y=>(x1==y)) x0):=by
 unfold I7
 refine D7 x0 (fun y=>(x1==y)) _ hl (fun i hi=>?_) ?_
 ·unfold D6
  simp only [Tree.run,Int.ofNat_lt,hi,decide_true,cond_true,iR,Int.toNat_natCast,getD_lt _ _ _ hi]
  cases (x1==x0[i]) <;> rfl
 ·unfold D6; simp [Tree.run]
theorem WZ (x0:List Str) (x1:Str) (hl:x0.length<=1000000):(CZ x0 x1).run=some (x0.any (fun y=>(x1==y))):=by
 unfold CZ
 simp only [Tree.run,agO x0 x1 hl,Option.bind_some,agP]
theorem agQ (x0:List Str) (hl:x0.length<=1000000):(G8 x0).run=some x0:=by
 unfold G8
 cases x0 with
 | nil=>simp [Tree.run,Nat.beq]
 | cons x l =>
  have:Nat.beq (x::l).length 0=false:=rfl
  simp only [Tree.run,this,room_le _ 16 hl (by omega),cond_true,cond_false]
theorem agR (x0:List Str) (x1:List Str) (p:Str->Bool) (hl:x0.length<=1000000) (hp:∀ x,x∈x0->(zy x x1).run=some (p x)):(Ha x0 x1).run=some (lX p x0):=by
 unfold Ha
 refine D7 x0 p _ hl (fun i hi=>?_) ?_
 ·unfold C9
  simp only [Tree.run,Int.ofNat_lt,hi,decide_true,cond_true,iR,Int.toNat_natCast,getD_lt _ _ _ hi,hp _ (List.getElem_mem hi),Option.bind_some]
  cases p x0[i] <;> rfl
 ·unfold C9; simp [Tree.run]
theorem agS (x0:List Str) (x1:List Str) (p:Str->Bool) (hl:x0.length<=1000000) (hp:∀ x,x∈x0->(zy x x1).run=some (p x)):(Hd x0 x1).run=some (x0.filter (fun x=>!p x),((x1,()),())):=by
 unfold Hd
 refine WY x0 p _ _ _ _ hl (agR x0 x1 p hl hp) (fun i j s hj hij hs hm=>?_) (fun i j s hs hj=>?_)
 ·have hi':i<s.length:=by omega
  unfold Da
  simp only [Tree.run,Int.ofNat_lt,hj,hi',decide_true,cond_true,iR,Int.toNat_natCast,getD_lt _ _ _ hj,hp _ hm,Option.bind_some,di j (by omega),di i (by omega)]
  cases p s[j] <;> rfl
 ·subst hj
  unfold Da
  simp [Tree.run]
end Go.aT
