/- Lifted: 129 functions, part 2. -/
import Derived.Test.YtjkhncojgilbaaaGreatDoorL57a
namespace Go.aT
open Go Go.Proofs
set_option maxRecDepth 100000
noncomputable section
def LV:Lp:=⟨9,[],[],(aF (aJ (.cons (.own 2) (.cons (.own 3) (.cons (.own 4) (ca (.cons (.val false .str) (.cons (.ref 5 0) (ca (aF (ca8 (.cons (.own 0) (.cons (.val false (.int .i64)) (.cons (.val false (.int .i64)) (aF (ca8 (.cons (.own 3) (.cons (.val false (.int .i64)) (.cons (.val false (.int .i64)) (ca (bB .nil))))))))))))))))))))),(.rows 9 .str (.dead (.rows 3 (.int .i64) (.rows 23 (.list .str) (.rows 45 fQ (.cells 45 (.cons (.flat fQ) .nil) .nil)))))),0,.one 3 [] (aF (aJ (.cons (.own 2) (.cons (.own 3) (.cons (.own 4) (aF (.cons (.ref 5 0) (ca (aF (ca8 (.cons (.own 0) (.cons (.val false (.int .i64)) (.cons (.val false (.int .i64)) (aF (aJ (ca8 (bB .nil))))))))))))))))) (.rows 9 .str (.dead (.rows 3 (.int .i64) (.rows 23 (.list .str) (.rows 45 fQ (.cells 45 (.cons (.flat fQ) .nil) .nil)))))),fun z=>.bnd (.loop (fun v=>wK z.1.2.2.2.2.2.2.2.2.2.2.1 z.1.2.2.2.2.2.2.2.2.2.2.2.2.2.2.2.2.2.2.2.2.2.2.2.2.1 z.1.2.2.2.2.2.2.2.2.2.2.2.2.2.2.2.2.2.2.2.2.2.2.2.2.2.1 z.1.2.2.2.2.2.2.2.2.2.2.2.2.2.2.2.2.2.2.2.2.2.2.2.2.2.2.2.2.2.2.2.2.2.2.2.2.2.1 z.2.1 z.2.2.1 z.2.2.2.1 z.2.2.2.2.1 v.1 v.2) (z.1.2.2.2.2.2.2.2.2.2.2.2.2.2.2.2.2.2.2.2.2.2.2.2.2.2.2.2.2.2.2.2.2.2.2.2.2.2.2.1,z.2.2.2.2.2.1.1)) fun r=>.ret ((ah (ai ((),(),(),(ah ((),(cu (ah (az ((),z.1.2.2.2.2.2.2.2.2.2.2.2.2.2.2.2.2.2.2.2.2.2.2.2.2.1,z.1.2.2.2.2.2.2.2.2.2.2.2.2.2.2.2.2.2.2.2.2.2.2.2.2.2.1,(ah (ai (az (aC ()))))))))))))),z.2.1,z.2.2.1,z.2.2.2.1,z.2.2.2.2.1,(r,()),())⟩
theorem aeg:LV.ok Tryz.prog (aP (aK (aP (aK (ak Tryz.f13)) 0)) 0):=by
 refine Lp.lift (π:=(Str×Int×Int×Int×(List Str)×(List Int)×(List (List Str))×(List dK))) (V:=(Int×dK)) (ρ:=dK) mix aI LV (o:=aO [GX,zu,GY,lT,CV] [] aU) (aR ⟨LW,CW,LX,lU,GZ,trivial⟩) (aQ [] (by kernel_rfl) trivial rfl) (fun x v=>((ah (ai ((),(),(),(cu (x.1,(),(cu (ah (az ((),x.2.1,x.2.2.1,(ah (az ((),x.2.2.2.1,v.1,(cu (aC ())))))))))))))),x.2.2.2.2.1,x.2.2.2.2.2.1,x.2.2.2.2.2.2.1,x.2.2.2.2.2.2.2,(v.2,()),())) (fun x r=>((ah (ai ((),(),(),(ah ((),(cu (ah (az ((),x.2.1,x.2.2.1,(ah (ai (az (aC ()))))))))))))),x.2.2.2.2.1,x.2.2.2.2.2.1,x.2.2.2.2.2.2.1,x.2.2.2.2.2.2.2,(r,()),())) (fun x v=>wK x.1 x.2.1 x.2.2.1 x.2.2.2.1 x.2.2.2.2.1 x.2.2.2.2.2.1 x.2.2.2.2.2.2.1 x.2.2.2.2.2.2.2 v.1 v.2) (fun x r=>.ret ((ah (ai ((),(),(),(ah ((),(cu (ah (az ((),x.2.1,x.2.2.1,(ah (ai (az (aC ()))))))))))))),x.2.2.2.2.1,x.2.2.2.2.2.1,x.2.2.2.2.2.2.1,x.2.2.2.2.2.2.2,(r,()),())) (fun z=>(z.1.2.2.2.2.2.2.2.2.2.2.1,z.1.2.2.2.2.2.2.2.2.2.2.2.2.2.2.2.2.2.2.2.2.2.2.2.2.1,z.1.2.2.2.2.2.2.2.2.2.2.2.2.2.2.2.2.2.2.2.2.2.2.2.2.2.1,z.1.2.2.2.2.2.2.2.2.2.2.2.2.2.2.2.2.2.2.2.2.2.2.2.2.2.2.2.2.2.2.2.2.2.2.2.2.2.1,z.2.1,z.2.2.1,z.2.2.2.1,z.2.2.2.2.1)) (fun z=>(z.1.2.2.2.2.2.2.2.2.2.2.2.2.2.2.2.2.2.2.2.2.2.2.2.2.2.2.2.2.2.2.2.2.2.2.2.2.2.2.1,z.2.2.2.2.2.1.1)) (fun _=>rfl) (fun _=>rfl) (fun _ _ _ h=>h) ?_
 intro x v; kernel_rfl
def zw (t:Int) (all:List Str) (owned:List Int) (lists:List (List Str)) (t2:Int) (out:List dK):Tree ((Int×(List dK))⊕(List dK)) :=
 .ite (decide (t2<t)) (
 ask (aD t2 all.length) <|
 ask (aD t2 owned.length) <|
 .bnd (.loop (fun v=>wK (all.getD t2.toNat ([]:Str)) t t2 (lists.length:Int) all owned lists out v.1 v.2) (0,(all.getD t2.toNat ([]:Str)),(owned.getD t2.toNat (0:Int)),0)) fun r1 =>
 ask (decide ((out++[r1]).length*32<=bD)) <|
 .ret (.inl ((ay (t2+1)),(out++[r1])))) (
 .ret (.inr out))
def LY:Lp:=⟨5,[.own 8 45 fQ],[],(aF (aJ (.cons (.own 2) (.cons (.own 3) (.cons (.own 4) (aF (aJ (ca8 (.cons (.own 0) (.cons (.val false (.int .i64)) (.cons (.val false (.int .i64)) (aF (aJ (ca8 (bB .nil))))))))))))))),(.rows 9 .str (.dead (.rows 3 (.int .i64) (.rows 23 (.list .str) (.rows 45 fQ .nil))))),0,.one 1 [] (ca8 (.cons (.own 4) (ca (aF (aJ (ca8 (aZ .nil))))))) (.dead (.dead (.dead (.dead (.rows 45 fQ .nil))))),fun z=>.bnd (.loop (fun v=>zw z.1.2.2.2.2.2.2.2.2.2.2.2.2.2.2.2.2.2.2.2.2.2.2.2.2.1 z.2.1 z.2.2.1 z.2.2.2.1 v.1 v.2) (z.1.2.2.2.2.2.2.2.2.2.2.2.2.2.2.2.2.2.2.2.2.2.2.2.2.2.1,z.2.2.2.2.1)) fun r=>.ret ((az ((),(cu (ah (ai (az (aj ()))))))),r,())⟩
theorem aeh:LY.ok Tryz.prog (aP (aK (ak Tryz.f13)) 0):=by
 refine Lp.lift (π:=(Int×(List Str)×(List Int)×(List (List Str)))) (V:=(Int×(List dK))) (ρ:=List dK) mix aI LY (o:=aO [GX,zu,GY,lT,CV] [LV] aU) (aR ⟨LW,CW,LX,lU,GZ,trivial⟩) (aQ [aP (aK (aP (aK (ak Tryz.f13)) 0)) 0] (by kernel_rfl) ⟨aeg,trivial⟩ (by kernel_rfl)) (fun x v=>((ah (ai ((),(),(),(ah (ai (az ((),x.1,v.1,(ah (ai (az (aC ()))))))))))),x.2.1,x.2.2.1,x.2.2.2,v.2,())) (fun x r=>((az ((),(cu (ah (ai (az (aj ()))))))),r,())) (fun x v=>zw x.1 x.2.1 x.2.2.1 x.2.2.2 v.1 v.2) (fun x r=>.ret ((az ((),(cu (ah (ai (az (aj ()))))))),r,())) (fun z=>(z.1.2.2.2.2.2.2.2.2.2.2.2.2.2.2.2.2.2.2.2.2.2.2.2.2.1,z.2.1,z.2.2.1,z.2.2.2.1)) (fun z=>(z.1.2.2.2.2.2.2.2.2.2.2.2.2.2.2.2.2.2.2.2.2.2.2.2.2.2.1,z.2.2.2.2.1)) (fun _=>rfl) (fun _=>rfl) (fun _ _ _ h=>h) ?_
 intro x v; kernel_rfl
def ug (x0:List Entry) (x1:Int):Tree (List dK) :=
 .bnd (G5 x0) fun y1 =>
 .bnd (CX x0 16) fun y2 =>
 .bnd (G6 y2 y1) fun y3 =>
 .bnd (qx x0 x1) fun y4 =>
 .bnd (.loop (fun v=>zw (y1.length:Int) y1 y3 y4 v.1 v.2) (0,([]:List dK))) fun r5 =>
 .ret r5
def uh:aA:=⟨13,(.cons (.val false (.list bf)) (.cons (.val false (.int .i64)) .nil)),.fresh 45 fQ,fun z=>ug z.1 z.2.1,([]:List dK)⟩
theorem wL:uh.ok Tryz.prog:=by
 refine aA.lift mix aI bq _ Tryz.func13 (c:=(ak Tryz.f13)) (by kernel_rfl) (o:=aO [GX,zu,GY,lT,CV] [LY] aU) (aR ⟨LW,CW,LX,lU,GZ,trivial⟩) (aQ [aP (aK (ak Tryz.f13)) 0] (by kernel_rfl) ⟨aeh,trivial⟩ (by kernel_rfl)) ?_
 intro z; kernel_rfl
def zx (a:List dK) (b:List dK) (i:Int):Tree (Int⊕(Bool⊕Unit)) :=
 .ite ((decide (i<(a.length:Int)))&&(decide (i<(b.length:Int)))) (
 ask (aD i a.length) <|
 ask (aD i b.length) <|
 .ite (!(((a.getD i.toNat (aS fQ:dK)).1==(b.getD i.toNat (aS fQ:dK)).1)&&((decide ((a.getD i.toNat (aS fQ:dK)).2.1=(b.getD i.toNat (aS fQ:dK)).2.1))&&((decide ((a.getD i.toNat (aS fQ:dK)).2.2=(b.getD i.toNat (aS fQ:dK)).2.2))&&true)))) (
 .ret (.inr (.inl false))) (
 .ret (.inl (ay (i+1))))) (
 .ret (.inr (.inr ())))
def LZ:Lp:=⟨4,[],[],(.cons (.val false (.list fQ)) (.cons (.val false (.list fQ)) (ca (aF (.cons (.val false (.int .i64)) (aF (ca8 (bB .nil)))))))),.nil,0,.more 0 [] (aJ (.cons (.val false .bool) (ca (aF (ca8 (bB .nil)))))) .nil (.one 1 [] (aZ .nil) .nil),fun z=>.bnd (.loop (fun v=>zx z.1.1 z.1.2.1 v) z.1.2.2.2.2.2.1) fun r=>.sum r (fun a0=>.ret (.inl ((ai (a0,(cu (ah (az (aC ())))))),()))) (fun b0=>.ret (.inr ((aj ()),())))⟩
theorem aei:LZ.ok Tryz.prog (aP (aK (ak Tryz.f12)) 0):=by
 refine Lp.lift (π:=((List dK)×(List dK))) (V:=Int) (ρ:=(Bool⊕Unit)) mix aI LZ (o:=aO [] [] aU) (aR trivial) (aQ [] (by kernel_rfl) trivial rfl) (fun x v=>((x.1,x.2,(cu (ah (v,(ah (az (aC ()))))))),())) (fun x r=>match r with | .inl a0=>.inl ((ai (a0,(cu (ah (az (aC ())))))),()) | .inr b0=>(.inr ((aj ()),()))) (fun x v=>zx x.1 x.2 v) (fun x r=>.sum r (fun a0=>.ret (.inl ((ai (a0,(cu (ah (az (aC ())))))),()))) (fun b0=>.ret (.inr ((aj ()),())))) (fun z=>(z.1.1,z.1.2.1)) (fun z=>z.1.2.2.2.2.2.1) (fun _=>rfl) (fun _=>rfl) (fun x r Q h=>match r,h with | .inl _,h=>h | .inr b0,h=>(h)) ?_
 intro x v; kernel_rfl
def CY (x0:List dK) (x1:List dK):Tree Bool :=
 .ite (!decide ((x0.length:Int)=(x1.length:Int))) (
 .ret false) (
 .bnd (.loop (fun v=>zx x0 x1 v) 0) fun r1 =>
 .sum r1 (fun r2 =>
 .ret r2) (fun r3 =>
 .ret true))
def G7:aA:=⟨12,(.cons (.val false (.list fQ)) (.cons (.val false (.list fQ)) .nil)),.vals (.val false .bool),fun z=>CY z.1 z.2.1,false⟩
theorem L6:G7.ok Tryz.prog:=by
 refine aA.lift mix aI bq _ Tryz.func12 (c:=(ak Tryz.f12)) (by kernel_rfl) (o:=aO [] [LZ] aU) (aR trivial) (aQ [aP (aK (ak Tryz.f12)) 0] (by kernel_rfl) ⟨aei,trivial⟩ (by kernel_rfl)) ?_
 intro z; kernel_rfl
def G8 (x0:List Str):Tree (List Str) :=
 .ite (Nat.beq x0.length 0) (
 .both (
 .ret []) (
 ask (decide (x0.length*16<=bD)) <|
 .ret x0)) (
 ask (decide (x0.length*16<=bD)) <|
 .ret x0)
def U6:aA:=⟨73,(.cons (.val false (.list .str)) .nil),.fresh 9 .str,fun z=>G8 z.1,([]:List Str)⟩
theorem aej:U6.ok Tryz.prog:=by
 refine aA.lift mix aI bq _ Tryz.func73 (c:=(ak Tryz.f73)) (by kernel_rfl) (o:=aO [] [] aU) (aR trivial) (aQ [] (by kernel_rfl) trivial rfl) ?_
 intro z; kernel_rfl
def zy (x0:Str) (x1:List Str):Tree Bool :=
 .bnd (CZ x1 x0) fun y1 =>
 .ret y1
def C8:aA:=⟨74,(.cons (.val false .str) (.cons (.ptr (.list .str)) .nil)),.vals (.val false .bool),fun z=>zy z.1 z.2.1,false⟩
theorem G9:C8.ok Tryz.prog:=by
 refine aA.lift mix aI bq _ Tryz.func74 (c:=(ak Tryz.f74)) (by kernel_rfl) (o:=aO [CV] [] aU) (aR ⟨GZ,trivial⟩) (aQ [] (by kernel_rfl) trivial rfl) ?_
 intro z; kernel_rfl
def C9 (s_:List Str) (f:List Str) (t:Int) (t2:Int):Tree (Int⊕(Int⊕Unit)) :=
 .ite (decide (t2<t)) (
 ask (aD t2 s_.length) <|
 .bnd (zy (s_.getD t2.toNat ([]:Str)) f) fun y1 =>
 .ite y1 (
 .ret (.inr (.inl t2))) (
 .ret (.inl (ay (t2+1))))) (
 .ret (.inr (.inr ())))
def L8:Lp:=⟨2,[],[],(.cons (.val false (.list .str)) (.cons (.fn 74 .nil (.cons (.ptr (.list .str)) .nil)) (ca (aJ (.cons (.val false (.int .i64)) (.cons (.val false (.int .i64)) (aF (ca8 .nil)))))))),.nil,0,.more 0 [] (aJ (.cons (.val false (.int .i64)) (aF (aJ (ca8 .nil))))) .nil (.one 1 [] (ca (aF (bB .nil))) .nil),fun z=>.bnd (.loop (fun v=>C9 z.1.1 z.1.2.1.2.1 z.1.2.2.2.2.2.2.2.1 v) z.1.2.2.2.2.2.2.2.2.1) fun r=>.sum r (fun a0=>.ret (.inl ((ai (a0,(ah (ai (az ()))))),()))) (fun b0=>.ret (.inr ((cu (ah (aC ()))),())))⟩
theorem aek:L8.ok Tryz.prog (aP (aK (ak Tryz.f99)) 0):=by
 refine Lp.lift (π:=((List Str)×(List Str)×Int)) (V:=Int) (ρ:=(Int⊕Unit)) mix aI L8 (o:=aO [C8] [] aU) (aR ⟨G9,trivial⟩) (aQ [] (by kernel_rfl) trivial rfl) (fun x v=>((x.1,((),x.2.1,()),(cu (ai (x.2.2,v,(ah (az ())))))),())) (fun x r=>match r with | .inl a0=>.inl ((ai (a0,(ah (ai (az ()))))),()) | .inr b0=>(.inr ((cu (ah (aC ()))),()))) (fun x v=>C9 x.1 x.2.1 x.2.2 v) (fun x r=>.sum r (fun a0=>.ret (.inl ((ai (a0,(ah (ai (az ()))))),()))) (fun b0=>.ret (.inr ((cu (ah (aC ()))),())))) (fun z=>(z.1.1,z.1.2.1.2.1,z.1.2.2.2.2.2.2.2.1)) (fun z=>z.1.2.2.2.2.2.2.2.2.1) (fun _=>rfl) (fun _=>rfl) (fun x r Q h=>match r,h with | .inl _,h=>h | .inr b0,h=>(h)) ?_
 intro x v; kernel_rfl
def Ha (x0:List Str) (x1:List Str):Tree Int :=
 .bnd (.loop (fun v=>C9 x0 x1 (x0.length:Int) v) 0) fun r1 =>
 .sum r1 (fun r2 =>
 .ret r2) (fun r3 =>
 .ret (-1))
def L9:aA:=⟨99,(.cons (.val false (.list .str)) (.cons (.fn 74 .nil (.cons (.ptr (.list .str)) .nil)) .nil)),.vals (.val false (.int .i64)),fun z=>Ha z.1 z.2.1.2.1,(0:Int)⟩
theorem U7:L9.ok Tryz.prog:=by
 refine aA.lift mix aI bq _ Tryz.func99 (c:=(ak Tryz.f99)) (by kernel_rfl) (o:=aO [C8] [L8] aU) (aR ⟨G9,trivial⟩) (aQ [aP (aK (ak Tryz.f99)) 0] (by kernel_rfl) ⟨aek,trivial⟩ (by kernel_rfl)) ?_
 intro z; kernel_rfl
def Da (c:List Str) (i:Int) (j:Int) (s_:List Str):Tree ((Int×Int×(List Str))⊕(Int×(List Str))) :=
 .ite (decide (j<(s_.length:Int))) (
 ask (aD j s_.length) <|
 .bnd (zy (s_.getD j.toNat ([]:Str)) c) fun y1 =>
 .ite (!y1) (
 ask (aD i s_.length) <|
 .ret (.inl ((ay (i+1)),(ay (j+1)),(s_.set i.toNat (s_.getD j.toNat ([]:Str)))))) (
 .ret (.inl (i,(ay (j+1)),s_)))) (
 .ret (.inr (i,s_)))
def Ma:Lp:=⟨5,[],[],(.cons (.own 0) (.cons (.fn 74 .nil (.cons (.ref 1 0) .nil)) (ca (aF (.cons (.val false (.int .i64)) (.cons (.val false (.int .i64)) (ca (aF (aZ .nil))))))))),(.rows 9 .str (.cells 23 (.cons (.val false (.list .str)) .nil) .nil)),2,.one 1 [] (.cons (.own 0) (aJ (.cons (.val false (.int .i64)) (aJ (aZ .nil))))) (.rows 9 .str (.cells 23 (.cons (.val false (.list .str)) .nil) .nil)),fun z=>.bnd (.loop (fun v=>Da z.2.2.1.1 v.1 v.2.1 v.2.2) (z.1.2.2.2.2.2.1,z.1.2.2.2.2.2.2.1,z.2.1)) fun r=>.ret (((),(ai (r.1,(ai (aj ()))))),r.2,(z.2.2.1.1,()),())⟩
theorem ael:Ma.ok Tryz.prog (aP (aK (ak Tryz.f72)) 0):=by
 refine Lp.lift (π:=List Str) (V:=(Int×Int×(List Str))) (ρ:=(Int×(List Str))) mix aI Ma (o:=aO [L9,C8] [] aU) (aR ⟨U7,G9,trivial⟩) (aQ [] (by kernel_rfl) trivial rfl) (fun x v=>(((),((),(),()),(cu (ah (v.1,v.2.1,(cu (ah (aj ()))))))),v.2.2,(x,()),())) (fun x r=>(((),(ai (r.1,(ai (aj ()))))),r.2,(x,()),())) (fun x v=>Da x v.1 v.2.1 v.2.2) (fun x r=>.ret (((),(ai (r.1,(ai (aj ()))))),r.2,(x,()),())) (fun z=>z.2.2.1.1) (fun z=>(z.1.2.2.2.2.2.1,z.1.2.2.2.2.2.2.1,z.2.1)) (fun _=>rfl) (fun _=>rfl) (fun _ _ _ h=>h) ?_
 intro x v; kernel_rfl
def Hd (x0:List Str) (x1:List Str):Tree (List Str×(((List Str)×Unit)×Unit)) :=
 .bnd (Ha x0 x1) fun y1 =>
 .ite (decide (y1=(-1))) (
 .ret (x0,(x1,()),())) (
 .bnd (.loop (fun v=>Da x1 v.1 v.2.1 v.2.2) (y1,(ay (y1+1)),x0)) fun r2 =>
 ask (df r2.1 r2.2.length) <|
 ask (df r2.1 (lK r2.1.toNat (r2.2.length-r2.1.toNat) ([]:Str) r2.2).length) <|
 .ret (((lK r2.1.toNat (r2.2.length-r2.1.toNat) ([]:Str) r2.2).take r2.1.toNat),(x1,()),()))
def U8:fH:=⟨72,(.cons (.own 0) (.cons (.fn 74 .nil (.cons (.ref 1 0) .nil)) .nil)),(.rows 9 .str (.cells 23 (.cons (.val false (.list .str)) .nil) .nil)),[.gP 0],(.val false (.list .str)),(.dead (.cells 23 (.cons (.val false (.list .str)) .nil) .nil)),some 0,fun z=>Hd z.2.1 z.2.2.1.1⟩
theorem aem:U8.ok Tryz.prog:=by
 refine fH.lift mix aI bq _ Tryz.func72 (c:=(ak Tryz.f72)) (by kernel_rfl) (o:=aO [L9,C8] [Ma] aU) (aR ⟨U7,G9,trivial⟩) (aQ [aP (aK (ak Tryz.f72)) 0] (by kernel_rfl) ⟨ael,trivial⟩ (by kernel_rfl)) (fun _=>rfl) ?_
 intro z; kernel_rfl
def Db (x0:List Str) (x1:List Str):Tree (List Str) :=
 .bnd (G8 x0) fun y1 =>
 .bnd (Hd y1 x1) fun y2 =>
 .ret y2.1
def Dc:aA:=⟨41,(.cons (.val false (.list .str)) (.cons (.val false (.list .str)) .nil)),.vals (.val false (.list .str)),fun z=>Db z.1 z.2.1,([]:List Str)⟩
theorem He:Dc.ok Tryz.prog:=by
 refine aA.lift mix aI bq _ Tryz.func41 (c:=(ak Tryz.f41)) (by kernel_rfl) (o:=orM [U6] [U8] [] aU) (jW ⟨aej,trivial⟩ ⟨aem,trivial⟩) (jX [] (by kernel_rfl) trivial rfl) ?_
 intro z; kernel_rfl
def zz (gone:List Str) (t:Int) (rows:List (List Str)) (t2:Int) (out:List Int):Tree ((Int×(List Int))⊕(List Int)) :=
 .ite (decide (t2<t)) (
 ask (aD t2 rows.length) <|
 .dH (decide ((0:Int)<((rows.getD t2.toNat ([]:List Str)).length:Int))) (Db (rows.getD t2.toNat ([]:List Str)) gone) ([]:List Str) fun y1 =>
 .ite ((decide ((0:Int)<((rows.getD t2.toNat ([]:List Str)).length:Int)))&&(decide ((y1.length:Int)=0))) (
 ask (decide ((out++[t2]).length*8<=bD)) <|
 .ret (.inl ((ay (t2+1)),(out++[t2])))) (
 .ret (.inl ((ay (t2+1)),out)))) (
 .ret (.inr out))
def Mc:Lp:=⟨3,[.own 7 3 (.int .i64)],[],(aF (.cons (.val false (.list .str)) (aJ (.cons (.own 1) (aJ (.cons (.own 0) (.cons (.val false (.int .i64)) (.cons (.val false (.int .i64)) (aJ (bB .nil)))))))))),(.rows 23 (.list .str) (.rows 3 (.int .i64) .nil)),0,.one 1 [] (ca (aF (aJ (.cons (.own 1) (ca (aF (ca8 (bB .nil)))))))) (.dead (.rows 3 (.int .i64) .nil)),fun z=>.bnd (.loop (fun v=>zz z.1.2.2.1 z.1.2.2.2.2.2.2.2.2.2.2.2.2.2.1 z.2.1 v.1 v.2) (z.1.2.2.2.2.2.2.2.2.2.2.2.2.2.2.1,z.2.2.1)) fun r=>.ret ((cu (ah (ai ((),(cu (ah (az (aC ())))))))),r,())⟩
theorem aen:Mc.ok Tryz.prog (aP (aK (ak Tryz.f16)) 0):=by
 refine Lp.lift (π:=((List Str)×Int×(List (List Str)))) (V:=(Int×(List Int))) (ρ:=List Int) mix aI Mc (o:=aO [lT,Dc] [] aU) (aR ⟨lU,He,trivial⟩) (aQ [] (by kernel_rfl) trivial rfl) (fun x v=>((ah (x.1,(ai ((),(ai ((),x.2.1,v.1,(ai (aC ())))))))),x.2.2,v.2,())) (fun x r=>((cu (ah (ai ((),(cu (ah (az (aC ())))))))),r,())) (fun x v=>zz x.1 x.2.1 x.2.2 v.1 v.2) (fun x r=>.ret ((cu (ah (ai ((),(cu (ah (az (aC ())))))))),r,())) (fun z=>(z.1.2.2.1,z.1.2.2.2.2.2.2.2.2.2.2.2.2.2.1,z.2.1)) (fun z=>(z.1.2.2.2.2.2.2.2.2.2.2.2.2.2.2.1,z.2.2.1)) (fun _=>rfl) (fun _=>rfl) (fun _ _ _ h=>h) ?_
 intro x v; kernel_rfl
def ui (x0:List Entry) (x1:Int) (x2:List Str):Tree (List Int) :=
 .bnd (qx x0 x1) fun y1 =>
 .bnd (.loop (fun v=>zz x2 (y1.length:Int) y1 v.1 v.2) (0,([]:List Int))) fun r2 =>
 .ret r2
def De:aA:=⟨16,(.cons (.val false (.list bf)) (.cons (.val false (.int .i64)) (.cons (.val false (.list .str)) .nil))),.fresh 3 (.int .i64),fun z=>ui z.1 z.2.1 z.2.2.1,([]:List Int)⟩
theorem Df:De.ok Tryz.prog:=by
 refine aA.lift mix aI bq _ Tryz.func16 (c:=(ak Tryz.f16)) (by kernel_rfl) (o:=aO [lT,Dc] [Mc] aU) (aR ⟨lU,He,trivial⟩) (aQ [aP (aK (ak Tryz.f16)) 0] (by kernel_rfl) ⟨aen,trivial⟩ (by kernel_rfl)) ?_
 intro z; kernel_rfl
def Hf:aA:=⟨16,(.cons (.val false (.list bf)) (.cons (.val false (.int .i64)) (.cons (.val false (.list .str)) .nil))),.kJ 3 (.int .i64),fun z=>ui z.1 z.2.1 z.2.2.1,([]:List Int)⟩
theorem Md:Hf.ok Tryz.prog:=fun x y h=>oM (Df x y h)
def zA (x_:List Int) (m:Int) (i:Int):Tree ((Int×Int)⊕Int) :=
 .ite (decide (i<(x_.length:Int))) (
 ask (aD i x_.length) <|
 .ret (.inl ((ae.jh m (x_.getD i.toNat (0:Int))),(ay (i+1))))) (
 .ret (.inr m))
def Me:Lp:=⟨5,[],[],(.cons (.val false (.list (.int .i64))) (aF (.cons (.val false (.int .i64)) (.cons (.val false (.int .i64)) (aJ (bB .nil)))))),.nil,0,.one 1 [] (ca (aF (.cons (.val false (.int .i64)) (ca (aJ (bB .nil)))))) .nil,fun z=>.bnd (.loop (fun v=>zA z.1.1 v.1 v.2) (z.1.2.2.2.1,z.1.2.2.2.2.1)) fun r=>.ret ((cu (ah (r,(cu (ai (aC ())))))),())⟩
theorem aeo:Me.ok Tryz.prog (aP (aK (ak Tryz.f43)) 0):=by
 refine Lp.lift (π:=List Int) (V:=(Int×Int)) (ρ:=Int) mix aI Me (o:=aO [] [] aU) (aR trivial) (aQ [] (by kernel_rfl) trivial rfl) (fun x v=>((x,(ah (v.1,v.2,(ai (aC ()))))),())) (fun x r=>((cu (ah (r,(cu (ai (aC ())))))),())) (fun x v=>zA x v.1 v.2) (fun x r=>.ret ((cu (ah (r,(cu (ai (aC ())))))),())) (fun z=>z.1.1) (fun z=>(z.1.2.2.2.1,z.1.2.2.2.2.1)) (fun _=>rfl) (fun _=>rfl) (fun _ _ _ h=>h) ?_
 intro x v; kernel_rfl
def Hg (x0:List Int):Tree Int :=
 .ite (decide ((x0.length:Int)<1)) (
 .fail) (
 ask (aD 0 x0.length) <|
 .bnd (.loop (fun v=>zA x0 v.1 v.2) ((x0.getD ((0:Int).toNat) (0:Int)),1)) fun r1 =>
 .ret r1)
def Mf:aA:=⟨43,(.cons (.val false (.list (.int .i64))) .nil),.vals (.val false (.int .i64)),fun z=>Hg z.1,(0:Int)⟩
theorem U9:Mf.ok Tryz.prog:=by
 refine aA.lift mix aI bq _ Tryz.func43 (c:=(ak Tryz.f43)) (by kernel_rfl) (o:=aO [] [Me] aU) (aR trivial) (aQ [aP (aK (ak Tryz.f43)) 0] (by kernel_rfl) ⟨aeo,trivial⟩ (by kernel_rfl)) ?_
 intro z; kernel_rfl
def zB (gone:List Str) (t:Int) (rows:List (List Str)) (t2:Int) (counts:List Int):Tree ((Int×(List Int))⊕(List Int)) :=
 .ite (decide (t2<t)) (
 ask (aD t2 rows.length) <|
 .ite (decide ((0:Int)<((rows.getD t2.toNat ([]:List Str)).length:Int))) (
 .bnd (Db (rows.getD t2.toNat ([]:List Str)) gone) fun y1 =>
 ask (decide ((counts++[(y1.length:Int)]).length*8<=bD)) <|
 .ret (.inl ((ay (t2+1)),(counts++[(y1.length:Int)])))) (
 .ret (.inl ((ay (t2+1)),counts)))) (
 .ret (.inr counts))
def Mg:Lp:=⟨3,[.own 7 3 (.int .i64)],[],(aF (.cons (.val false (.list .str)) (aJ (.cons (.own 1) (aJ (.cons (.own 0) (.cons (.val false (.int .i64)) (.cons (.val false (.int .i64)) (ca (aF (bB .nil))))))))))),(.rows 23 (.list .str) (.rows 3 (.int .i64) .nil)),0,.one 1 [] (ca (aF (aJ (.cons (.own 1) (aF (ca8 (bB .nil))))))) (.dead (.rows 3 (.int .i64) .nil)),fun z=>.bnd (.loop (fun v=>zB z.1.2.2.1 z.1.2.2.2.2.2.2.2.2.2.2.2.2.2.1 z.2.1 v.1 v.2) (z.1.2.2.2.2.2.2.2.2.2.2.2.2.2.2.1,z.2.2.1)) fun r=>.ret ((cu (ah (ai ((),(ah (az (aC ()))))))),r,())⟩
theorem aep:Mg.ok Tryz.prog (aP (aK (ak Tryz.f18)) 0):=by
 refine Lp.lift (π:=((List Str)×Int×(List (List Str)))) (V:=(Int×(List Int))) (ρ:=List Int) mix aI Mg (o:=aO [lT,Dc,Mf] [] aU) (aR ⟨lU,He,U9,trivial⟩) (aQ [] (by kernel_rfl) trivial rfl) (fun x v=>((ah (x.1,(ai ((),(ai ((),x.2.1,v.1,(cu (ah (aC ()))))))))),x.2.2,v.2,())) (fun x r=>((cu (ah (ai ((),(ah (az (aC ()))))))),r,())) (fun x v=>zB x.1 x.2.1 x.2.2 v.1 v.2) (fun x r=>.ret ((cu (ah (ai ((),(ah (az (aC ()))))))),r,())) (fun z=>(z.1.2.2.1,z.1.2.2.2.2.2.2.2.2.2.2.2.2.2.1,z.2.1)) (fun z=>(z.1.2.2.2.2.2.2.2.2.2.2.2.2.2.2.1,z.2.2.1)) (fun _=>rfl) (fun _=>rfl) (fun _ _ _ h=>h) ?_
 intro x v; kernel_rfl
def zC (x0:List Entry) (x1:Int) (x2:List Str):Tree Int :=
 .bnd (qx x0 x1) fun y1 =>
 .bnd (.loop (fun v=>zB x2 (y1.length:Int) y1 v.1 v.2) (0,([]:List Int))) fun r2 =>
 .ite (decide ((r2.length:Int)=0)) (
 .ret 0) (
 .bnd (Hg r2) fun y3 =>
 .ret y3)
def uj:aA:=⟨18,(.cons (.val false (.list bf)) (.cons (.val false (.int .i64)) (.cons (.val false (.list .str)) .nil))),.vals (.val false (.int .i64)),fun z=>zC z.1 z.2.1 z.2.2.1,(0:Int)⟩
theorem wM:uj.ok Tryz.prog:=by
 refine aA.lift mix aI bq _ Tryz.func18 (c:=(ak Tryz.f18)) (by kernel_rfl) (o:=aO [lT,Dc,Mf] [Mg] aU) (aR ⟨lU,He,U9,trivial⟩) (aQ [aP (aK (ak Tryz.f18)) 0] (by kernel_rfl) ⟨aep,trivial⟩ (by kernel_rfl)) ?_
 intro z; kernel_rfl
def Va (x0:aL) (x1:Str):Tree Bool :=
 .ret (x0.2.1==x1)
def Mh:aA:=⟨45,(.cons (.val true bH) (.cons (.ptr .str) .nil)),.vals (.val false .bool),fun z=>Va z.1 z.2.1,false⟩
theorem Vb:Mh.ok Tryz.prog:=by
 refine aA.lift mix aI bq _ Tryz.func45 (c:=(ak Tryz.f45)) (by kernel_rfl) (o:=aO [] [] aU) (aR trivial) (aQ [] (by kernel_rfl) trivial rfl) ?_
 intro z; kernel_rfl
def zD (so:Str) (t:Int) (rows:List aL) (t2:Int) (out:List Str):Tree ((Int×(List Str))⊕(List Str)) :=
 .ite (decide (t2<t)) (
 ask (aD t2 rows.length) <|
 .bnd (Va (rows.getD t2.toNat (aS bH:aL)) so) fun y1 =>
 .ite y1 (
 ask (decide ((out++[(rows.getD t2.toNat (aS bH:aL)).1]).length*16<=bD)) <|
 .ret (.inl ((ay (t2+1)),(out++[(rows.getD t2.toNat (aS bH:aL)).1])))) (
 .ret (.inl ((ay (t2+1)),out)))) (
 .ret (.inr out))
def Mi:Lp:=⟨3,[.own 5 9 .str],[],(ca (.cons (.fn 45 .nil (.cons (.ptr .str) .nil)) (ca (aF (.cons (.own 1) (ca (aF (.cons (.own 0) (.cons (.val false (.int .i64)) (.cons (.val false (.int .i64)) (ca (aJ (ca8 .nil))))))))))))),(.rows 51 bH (.rows 9 .str .nil)),0,.one 1 [] (ca (aJ (.cons (.own 1) (ca (aF (bB .nil)))))) (.dead (.rows 9 .str .nil)),fun z=>.bnd (.loop (fun v=>zD z.1.2.1.2.1 z.1.2.2.2.2.2.2.2.2.2.2.1 z.2.1 v.1 v.2) (z.1.2.2.2.2.2.2.2.2.2.2.2.1,z.2.2.1)) fun r=>.ret ((cu (ai ((),(cu (ah (aC ())))))),r,())⟩
theorem aeq:Mi.ok Tryz.prog (aP (aK (ak Tryz.f35)) 0):=by
 refine Lp.lift (π:=(Str×Int×(List aL))) (V:=(Int×(List Str))) (ρ:=List Str) mix aI Mi (o:=aO [rE,Mh] [] aU) (aR ⟨uk,Vb,trivial⟩) (aQ [] (by kernel_rfl) trivial rfl) (fun x v=>((cu (((),x.1,()),(cu (ah ((),(cu (ah ((),x.2.1,v.1,(cu (ai (az ()))))))))))),x.2.2,v.2,())) (fun x r=>((cu (ai ((),(cu (ah (aC ())))))),r,())) (fun x v=>zD x.1 x.2.1 x.2.2 v.1 v.2) (fun x r=>.ret ((cu (ai ((),(cu (ah (aC ())))))),r,())) (fun z=>(z.1.2.1.2.1,z.1.2.2.2.2.2.2.2.2.2.2.1,z.2.1)) (fun z=>(z.1.2.2.2.2.2.2.2.2.2.2.2.1,z.2.2.1)) (fun _=>rfl) (fun _=>rfl) (fun _ _ _ h=>h) ?_
 intro x v; kernel_rfl
def Mj (x0:List Entry) (x1:Str):Tree (List Str) :=
 .bnd (wN x0) fun y1 =>
 .bnd (.loop (fun v=>zD x1 (y1.length:Int) y1 v.1 v.2) (0,([]:List Str))) fun r2 =>
 .ret r2
def Vd:aA:=⟨35,(.cons (.val false (.list bf)) (.cons (.fn 45 .nil (.cons (.ptr .str) .nil)) .nil)),.fresh 9 .str,fun z=>Mj z.1 z.2.1.2.1,([]:List Str)⟩
theorem aer:Vd.ok Tryz.prog:=by
 refine aA.lift mix aI bq _ Tryz.func35 (c:=(ak Tryz.f35)) (by kernel_rfl) (o:=aO [rE,Mh] [Mi] aU) (aR ⟨uk,Vb,trivial⟩) (aQ [aP (aK (ak Tryz.f35)) 0] (by kernel_rfl) ⟨aeq,trivial⟩ (by kernel_rfl)) ?_
 intro z; kernel_rfl
def wO (x0:List Entry) (x1:Str):Tree (List Str) :=
 .bnd (Mj x0 x1) fun y1 =>
 .ret y1
def zF:aA:=⟨21,(.cons (.val false (.list bf)) (.cons (.val false .str) .nil)),.fresh 9 .str,fun z=>wO z.1 z.2.1,([]:List Str)⟩
theorem zG:zF.ok Tryz.prog:=by
 refine aA.lift mix aI bq _ Tryz.func21 (c:=(ak Tryz.f21)) (by kernel_rfl) (o:=aO [Vd] [] aU) (aR ⟨aer,trivial⟩) (aQ [] (by kernel_rfl) trivial rfl) ?_
 intro z; kernel_rfl
def Ve:aA:=⟨21,(.cons (.val false (.list bf)) (.cons (.val false .str) .nil)),.kJ 9 .str,fun z=>wO z.1 z.2.1,([]:List Str)⟩
theorem aes:Ve.ok Tryz.prog:=fun x y h=>oM (zG x y h)
def zH (a:List Str) (b:List Str) (i:Int):Tree (Int⊕(Bool⊕Unit)) :=
 .ite ((decide (i<(a.length:Int)))&&(decide (i<(b.length:Int)))) (
 ask (aD i a.length) <|
 ask (aD i b.length) <|
 .ite (!((a.getD i.toNat ([]:Str))==(b.getD i.toNat ([]:Str)))) (
 .ret (.inr (.inl false))) (
 .ret (.inl (ay (i+1))))) (
 .ret (.inr (.inr ())))
def Mk:Lp:=⟨4,[],[],(.cons (.val false (.list .str)) (.cons (.val false (.list .str)) (ca (aF (.cons (.val false (.int .i64)) (aF (ca8 (bB .nil)))))))),.nil,0,.more 0 [] (aJ (.cons (.val false .bool) (ca (aF (ca8 (bB .nil)))))) .nil (.one 1 [] (aZ .nil) .nil),fun z=>.bnd (.loop (fun v=>zH z.1.1 z.1.2.1 v) z.1.2.2.2.2.2.1) fun r=>.sum r (fun a0=>.ret (.inl ((ai (a0,(cu (ah (az (aC ())))))),()))) (fun b0=>.ret (.inr ((aj ()),())))⟩
theorem aet:Mk.ok Tryz.prog (aP (aK (ak Tryz.f11)) 0):=by
 refine Lp.lift (π:=((List Str)×(List Str))) (V:=Int) (ρ:=(Bool⊕Unit)) mix aI Mk (o:=aO [] [] aU) (aR trivial) (aQ [] (by kernel_rfl) trivial rfl) (fun x v=>((x.1,x.2,(cu (ah (v,(ah (az (aC ()))))))),())) (fun x r=>match r with | .inl a0=>.inl ((ai (a0,(cu (ah (az (aC ())))))),()) | .inr b0=>(.inr ((aj ()),()))) (fun x v=>zH x.1 x.2 v) (fun x r=>.sum r (fun a0=>.ret (.inl ((ai (a0,(cu (ah (az (aC ())))))),()))) (fun b0=>.ret (.inr ((aj ()),())))) (fun z=>(z.1.1,z.1.2.1)) (fun z=>z.1.2.2.2.2.2.1) (fun _=>rfl) (fun _=>rfl) (fun x r Q h=>match r,h with | .inl _,h=>h | .inr b0,h=>(h)) ?_
 intro x v; kernel_rfl
def um (x0:List Str) (x1:List Str):Tree Bool :=
 .ite (!decide ((x0.length:Int)=(x1.length:Int))) (
 .ret false) (
 .bnd (.loop (fun v=>zH x0 x1 v) 0) fun r1 =>
 .sum r1 (fun r2 =>
 .ret r2) (fun r3 =>
 .ret true))
def Dh:aA:=⟨11,(.cons (.val false (.list .str)) (.cons (.val false (.list .str)) .nil)),.vals (.val false .bool),fun z=>um z.1 z.2.1,false⟩
theorem Hl:Dh.ok Tryz.prog:=by
 refine aA.lift mix aI bq _ Tryz.func11 (c:=(ak Tryz.f11)) (by kernel_rfl) (o:=aO [] [Mk] aU) (aR trivial) (aQ [aP (aK (ak Tryz.f11)) 0] (by kernel_rfl) ⟨aet,trivial⟩ (by kernel_rfl)) ?_
 intro z; kernel_rfl
def Vf (x0:aL) (x1:Str):Tree Bool :=
 .ret (x0.2.2.1==x1)
def Ml:aA:=⟨46,(.cons (.val true bH) (.cons (.ptr .str) .nil)),.vals (.val false .bool),fun z=>Vf z.1 z.2.1,false⟩
theorem Vg:Ml.ok Tryz.prog:=by
 refine aA.lift mix aI bq _ Tryz.func46 (c:=(ak Tryz.f46)) (by kernel_rfl) (o:=aO [] [] aU) (aR trivial) (aQ [] (by kernel_rfl) trivial rfl) ?_
 intro z; kernel_rfl
def zI (so:Str) (t:Int) (rows:List aL) (t2:Int) (out:List Str):Tree ((Int×(List Str))⊕(List Str)) :=
 .ite (decide (t2<t)) (
 ask (aD t2 rows.length) <|
 .bnd (Vf (rows.getD t2.toNat (aS bH:aL)) so) fun y1 =>
 .ite y1 (
 ask (decide ((out++[(rows.getD t2.toNat (aS bH:aL)).1]).length*16<=bD)) <|
 .ret (.inl ((ay (t2+1)),(out++[(rows.getD t2.toNat (aS bH:aL)).1])))) (
 .ret (.inl ((ay (t2+1)),out)))) (
 .ret (.inr out))
def Mm:Lp:=⟨3,[.own 5 9 .str],[],(ca (.cons (.fn 46 .nil (.cons (.ptr .str) .nil)) (ca (aF (.cons (.own 1) (ca (aF (.cons (.own 0) (.cons (.val false (.int .i64)) (.cons (.val false (.int .i64)) (ca (aJ (ca8 .nil))))))))))))),(.rows 51 bH (.rows 9 .str .nil)),0,.one 1 [] (ca (aJ (.cons (.own 1) (ca (aF (bB .nil)))))) (.dead (.rows 9 .str .nil)),fun z=>.bnd (.loop (fun v=>zI z.1.2.1.2.1 z.1.2.2.2.2.2.2.2.2.2.2.1 z.2.1 v.1 v.2) (z.1.2.2.2.2.2.2.2.2.2.2.2.1,z.2.2.1)) fun r=>.ret ((cu (ai ((),(cu (ah (aC ())))))),r,())⟩
theorem aeu:Mm.ok Tryz.prog (aP (aK (ak Tryz.f35)) 0):=by
 refine Lp.lift (π:=(Str×Int×(List aL))) (V:=(Int×(List Str))) (ρ:=List Str) mix aI Mm (o:=aO [rE,Ml] [] aU) (aR ⟨uk,Vg,trivial⟩) (aQ [] (by kernel_rfl) trivial rfl) (fun x v=>((cu (((),x.1,()),(cu (ah ((),(cu (ah ((),x.2.1,v.1,(cu (ai (az ()))))))))))),x.2.2,v.2,())) (fun x r=>((cu (ai ((),(cu (ah (aC ())))))),r,())) (fun x v=>zI x.1 x.2.1 x.2.2 v.1 v.2) (fun x r=>.ret ((cu (ai ((),(cu (ah (aC ())))))),r,())) (fun z=>(z.1.2.1.2.1,z.1.2.2.2.2.2.2.2.2.2.2.1,z.2.1)) (fun z=>(z.1.2.2.2.2.2.2.2.2.2.2.2.1,z.2.2.1)) (fun _=>rfl) (fun _=>rfl) (fun _ _ _ h=>h) ?_
 intro x v; kernel_rfl
def Mo (x0:List Entry) (x1:Str):Tree (List Str) :=
 .bnd (wN x0) fun y1 =>
 .bnd (.loop (fun v=>zI x1 (y1.length:Int) y1 v.1 v.2) (0,([]:List Str))) fun r2 =>
 .ret r2
def Vh:aA:=⟨35,(.cons (.val false (.list bf)) (.cons (.fn 46 .nil (.cons (.ptr .str) .nil)) .nil)),.fresh 9 .str,fun z=>Mo z.1 z.2.1.2.1,([]:List Str)⟩
theorem aev:Vh.ok Tryz.prog:=by
 refine aA.lift mix aI bq _ Tryz.func35 (c:=(ak Tryz.f35)) (by kernel_rfl) (o:=aO [rE,Ml] [Mm] aU) (aR ⟨uk,Vg,trivial⟩) (aQ [aP (aK (ak Tryz.f35)) 0] (by kernel_rfl) ⟨aeu,trivial⟩ (by kernel_rfl)) ?_
 intro z; kernel_rfl
def zJ (x0:List Entry) (x1:Str):Tree (List Str) :=
 .bnd (Mo x0 x1) fun y1 =>
 .ret y1
def aew:aA:=⟨23,(.cons (.val false (.list bf)) (.cons (.val false .str) .nil)),.fresh 9 .str,fun z=>zJ z.1 z.2.1,([]:List Str)⟩
theorem aex:aew.ok Tryz.prog:=by
 refine aA.lift mix aI bq _ Tryz.func23 (c:=(ak Tryz.f23)) (by kernel_rfl) (o:=aO [Vh] [] aU) (aR ⟨aev,trivial⟩) (aQ [] (by kernel_rfl) trivial rfl) ?_
 intro z; kernel_rfl
def Mq:aA:=⟨23,(.cons (.val false (.list bf)) (.cons (.val false .str) .nil)),.kJ 9 .str,fun z=>zJ z.1 z.2.1,([]:List Str)⟩
theorem Vi:Mq.ok Tryz.prog:=fun x y h=>oM (aex x y h)
def rF  : Tree Bool :=
 .bnd (Hm [(([97]:Str),([114,49]:Str),([122]:Str),true),(([98]:Str),([114,50]:Str),([122]:Str),true)] []) fun y1 =>
 .bnd (ug y1.1 1) fun y2 =>
 .dH (decide (y1.2.1=0)) (qx y1.1 1) ([]:List (List Str)) fun y3 =>
 .dH ((decide (y1.2.1=0))&&(decide ((y3.length:Int)=16))) (CY y2 [(([97]:Str),8,8),(([98]:Str),8,8)]) false fun y4 =>
 .dH (((decide (y1.2.1=0))&&(decide ((y3.length:Int)=16)))&&y4) (ui y1.1 1 [([97]:Str)]) ([]:List Int) fun y5 =>
 .dH ((((decide (y1.2.1=0))&&(decide ((y3.length:Int)=16)))&&y4)&&(decide ((y5.length:Int)=8))) (ui y1.1 2 [([97]:Str)]) ([]:List Int) fun y6 =>
 .dH (((((decide (y1.2.1=0))&&(decide ((y3.length:Int)=16)))&&y4)&&(decide ((y5.length:Int)=8)))&&(decide ((y6.length:Int)=0))) (zC y1.1 2 [([97]:Str)]) (0:Int) fun y7 =>
 .dH ((((((decide (y1.2.1=0))&&(decide ((y3.length:Int)=16)))&&y4)&&(decide ((y5.length:Int)=8)))&&(decide ((y6.length:Int)=0)))&&(decide (y7=1))) (wO y1.1 ([114,49]:Str)) ([]:List Str) fun y8 =>
 .dH ((((((decide (y1.2.1=0))&&(decide ((y3.length:Int)=16)))&&y4)&&(decide ((y5.length:Int)=8)))&&(decide ((y6.length:Int)=0)))&&(decide (y7=1))) (um y8 [([97]:Str)]) false fun y9 =>
 .dH (((((((decide (y1.2.1=0))&&(decide ((y3.length:Int)=16)))&&y4)&&(decide ((y5.length:Int)=8)))&&(decide ((y6.length:Int)=0)))&&(decide (y7=1)))&&y9) (zJ y1.1 ([122]:Str)) ([]:List Str) fun y10 =>
 .dH (((((((decide (y1.2.1=0))&&(decide ((y3.length:Int)=16)))&&y4)&&(decide ((y5.length:Int)=8)))&&(decide ((y6.length:Int)=0)))&&(decide (y7=1)))&&y9) (um y10 [([97]:Str),([98]:Str)]) false fun y11 =>
 .ret ((((((((decide (y1.2.1=0))&&(decide ((y3.length:Int)=16)))&&y4)&&(decide ((y5.length:Int)=8)))&&(decide ((y6.length:Int)=0)))&&(decide (y7=1)))&&y9)&&y11)
def uo:aA:=⟨8,.nil,.vals (.val false .bool),fun z=>rF,false⟩
theorem wP:uo.ok Tryz.prog:=by
 refine aA.lift mix aI bq _ Tryz.func8 (c:=(ak Tryz.f8)) (by kernel_rfl) (o:=aO [Vj,uh,Vk,G7,Hf,uj,Ve,Dh,Mq] [] aU) (aR ⟨aey,wL,aez,L6,Md,wM,aes,Hl,Vi,trivial⟩) (aQ [] (by kernel_rfl) trivial rfl) ?_
 intro z; kernel_rfl
def wQ (l:List Entry) (parts:Int) (i:Int) (out:List Str):Tree ((Int×(List Str))⊕(List Str)) :=
 .ite (decide (i<parts)) (
 .bnd (zK i) fun y1 =>
 .bnd (CS l y1) fun y2 =>
 .bnd (mG y2.2.2) fun y3 =>
 .ite (!y3) (
 ask (decide ((out++[([]:Str)]).length*16<=bD)) <|
 .ret (.inl ((ay (i+1)),(out++[([]:Str)])))) (
 ask (decide ((out++[y2.2.2]).length*16<=bD)) <|
 .ret (.inl ((ay (i+1)),(out++[y2.2.2]))))) (
 .ret (.inr out))
def Mr:Lp:=⟨5,[.own 5 9 .str],[],(.cons (.val false (.list bf)) (.cons (.val false (.int .i64)) (ca (aF (.cons (.own 0) (.cons (.val false (.int .i64)) (ca (ca8 (bB .nil))))))))),(.rows 9 .str .nil),0,.one 1 [] (ca (aJ (.cons (.own 0) (aF (ca8 (bB .nil)))))) (.rows 9 .str .nil),fun z=>.bnd (.loop (fun v=>wQ z.1.1 z.1.2.1 v.1 v.2) (z.1.2.2.2.2.2.2.1,z.2.1)) fun r=>.ret ((cu (ai ((),(ah (az (aC ())))))),r,())⟩
theorem aeA:Mr.ok Tryz.prog (aP (aK (ak Tryz.f33)) 0):=by
 refine Lp.lift (π:=((List Entry)×Int)) (V:=(Int×(List Str))) (ρ:=List Str) mix aI Mr (o:=aO [zL,Di,oN] [] aU) (aR ⟨Dj,Ho,qy,trivial⟩) (aQ [] (by kernel_rfl) trivial rfl) (fun x v=>((x.1,x.2,(cu (ah ((),v.1,(cu (az (aC ()))))))),v.2,())) (fun x r=>((cu (ai ((),(ah (az (aC ())))))),r,())) (fun x v=>wQ x.1 x.2 v.1 v.2) (fun x r=>.ret ((cu (ai ((),(ah (az (aC ())))))),r,())) (fun z=>(z.1.1,z.1.2.1)) (fun z=>(z.1.2.2.2.2.2.2.1,z.2.1)) (fun _=>rfl) (fun _=>rfl) (fun _ _ _ h=>h) ?_
 intro x v; kernel_rfl
def Dk (x0:List Entry) (x1:Int):Tree (List Str) :=
 .ite ((decide (x1<1))||(decide ((4096:Int)<x1))) (
 .ret []) (
 .bnd (.loop (fun v=>wQ x0 x1 v.1 v.2) (0,([]:List Str))) fun r1 =>
 .ret r1)
def zN:aA:=⟨33,(.cons (.val false (.list bf)) (.cons (.val false (.int .i64)) .nil)),.fresh 9 .str,fun z=>Dk z.1 z.2.1,([]:List Str)⟩
theorem Dl:zN.ok Tryz.prog:=by
 refine aA.lift mix aI bq _ Tryz.func33 (c:=(ak Tryz.f33)) (by kernel_rfl) (o:=aO [zL,Di,oN] [Mr] aU) (aR ⟨Dj,Ho,qy,trivial⟩) (aQ [aP (aK (ak Tryz.f33)) 0] (by kernel_rfl) ⟨aeA,trivial⟩ (by kernel_rfl)) ?_
 intro z; kernel_rfl
def Hq (x0:Int) (x1:Int):Tree Int :=
 .ite (decide (x1<1)) (
 .ret 0) (
 ask (!decide (x1=0)) <|
 .ite (decide ((x0.tmod x1)<0)) (
 .ret (ay ((x0.tmod x1)+x1))) (
 .ret (x0.tmod x1)))
def Hr:aA:=⟨111,(.cons (.val false (.int .i64)) (.cons (.val false (.int .i64)) .nil)),.vals (.val false (.int .i64)),fun z=>Hq z.1 z.2.1,(0:Int)⟩
theorem Ms:Hr.ok Tryz.prog:=by
 refine aA.lift mix aI bq _ Tryz.func111 (c:=(ak Tryz.f111)) (by kernel_rfl) (o:=aO [] [] aU) (aR trivial) (aQ [] (by kernel_rfl) trivial rfl) ?_
 intro z; kernel_rfl
def zO (l:List aL) (name:Str) (i:Int):Tree (Int⊕(Int⊕Unit)) :=
 .ite (decide (i<(l.length:Int))) (
 ask (aD i l.length) <|
 .ite ((l.getD i.toNat (aS bH:aL)).1==name) (
 .ret (.inr (.inl i))) (
 .ret (.inl (ay (i+1))))) (
 .ret (.inr (.inr ())))
def Mt:Lp:=⟨2,[],[],(.cons (.val false (.list bH)) (.cons (.val false .str) (ca (aF (.cons (.val false (.int .i64)) (aF (aJ (ca8 .nil)))))))),.nil,0,.more 0 [] (aJ (.cons (.val false (.int .i64)) (ca (aF (aJ (ca8 .nil)))))) .nil (.one 1 [] (aJ (bB .nil)) .nil),fun z=>.bnd (.loop (fun v=>zO z.1.1 z.1.2.1 v) z.1.2.2.2.2.2.1) fun r=>.sum r (fun a0=>.ret (.inl ((ai (a0,(cu (ah (ai (az ())))))),()))) (fun b0=>.ret (.inr ((ai (aC ())),())))⟩
theorem aeB:Mt.ok Tryz.prog (aP (aK (ak Tryz.f112)) 0):=by
 refine Lp.lift (π:=((List aL)×Str)) (V:=Int) (ρ:=(Int⊕Unit)) mix aI Mt (o:=aO [] [] aU) (aR trivial) (aQ [] (by kernel_rfl) trivial rfl) (fun x v=>((x.1,x.2,(cu (ah (v,(ah (ai (az ()))))))),())) (fun x r=>match r with | .inl a0=>.inl ((ai (a0,(cu (ah (ai (az ())))))),()) | .inr b0=>(.inr ((ai (aC ())),()))) (fun x v=>zO x.1 x.2 v) (fun x r=>.sum r (fun a0=>.ret (.inl ((ai (a0,(cu (ah (ai (az ())))))),()))) (fun b0=>.ret (.inr ((ai (aC ())),())))) (fun z=>(z.1.1,z.1.2.1)) (fun z=>z.1.2.2.2.2.2.1) (fun _=>rfl) (fun _=>rfl) (fun x r Q h=>match r,h with | .inl _,h=>h | .inr b0,h=>(h)) ?_
 intro x v; kernel_rfl
def Ht (x0:List aL) (x1:Str):Tree Int :=
 .bnd (.loop (fun v=>zO x0 x1 v) 0) fun r1 =>
 .sum r1 (fun r2 =>
 .ret r2) (fun r3 =>
 .ret (-1))
def Hu:aA:=⟨112,(.cons (.val false (.list bH)) (.cons (.val false .str) .nil)),.vals (.val false (.int .i64)),fun z=>Ht z.1 z.2.1,(0:Int)⟩
theorem Mv:Hu.ok Tryz.prog:=by
 refine aA.lift mix aI bq _ Tryz.func112 (c:=(ak Tryz.f112)) (by kernel_rfl) (o:=aO [] [Mt] aU) (aR trivial) (aQ [aP (aK (ak Tryz.f112)) 0] (by kernel_rfl) ⟨aeB,trivial⟩ (by kernel_rfl)) ?_
 intro z; kernel_rfl
def zP (l:List Int) (n:Int) (i:Int):Tree (Int⊕(Bool⊕Unit)) :=
 .ite (decide (i<(l.length:Int))) (
 ask (aD i l.length) <|
 .ite (decide ((l.getD i.toNat (0:Int))=n)) (
 .ret (.inr (.inl true))) (
 .ret (.inl (ay (i+1))))) (
 .ret (.inr (.inr ())))
def Mw:Lp:=⟨2,[],[],(.cons (.val false (.list (.int .i64))) (.cons (.val false (.int .i64)) (ca (aF (.cons (.val false (.int .i64)) (aJ (ca8 .nil))))))),.nil,0,.more 0 [] (aJ (.cons (.val false .bool) (ca (aJ (ca8 .nil))))) .nil (.one 1 [] (aF (bB .nil)) .nil),fun z=>.bnd (.loop (fun v=>zP z.1.1 z.1.2.1 v) z.1.2.2.2.2.2.1) fun r=>.sum r (fun a0=>.ret (.inl ((ai (a0,(cu (ai (az ()))))),()))) (fun b0=>.ret (.inr ((ah (aC ())),())))⟩
theorem aeC:Mw.ok Tryz.prog (aP (aK (ak Tryz.f113)) 0):=by
 refine Lp.lift (π:=((List Int)×Int)) (V:=Int) (ρ:=(Bool⊕Unit)) mix aI Mw (o:=aO [] [] aU) (aR trivial) (aQ [] (by kernel_rfl) trivial rfl) (fun x v=>((x.1,x.2,(cu (ah (v,(ai (az ())))))),())) (fun x r=>match r with | .inl a0=>.inl ((ai (a0,(cu (ai (az ()))))),()) | .inr b0=>(.inr ((ah (aC ())),()))) (fun x v=>zP x.1 x.2 v) (fun x r=>.sum r (fun a0=>.ret (.inl ((ai (a0,(cu (ai (az ()))))),()))) (fun b0=>.ret (.inr ((ah (aC ())),())))) (fun z=>(z.1.1,z.1.2.1)) (fun z=>z.1.2.2.2.2.2.1) (fun _=>rfl) (fun _=>rfl) (fun x r Q h=>match r,h with | .inl _,h=>h | .inr b0,h=>(h)) ?_
 intro x v; kernel_rfl
def Dm (x0:List Int) (x1:Int):Tree Bool :=
 .bnd (.loop (fun v=>zP x0 x1 v) 0) fun r1 =>
 .sum r1 (fun r2 =>
 .ret r2) (fun r3 =>
 .ret false)
def Hw:aA:=⟨113,(.cons (.val false (.list (.int .i64))) (.cons (.val false (.int .i64)) .nil)),.vals (.val false .bool),fun z=>Dm z.1 z.2.1,false⟩
theorem Mx:Hw.ok Tryz.prog:=by
 refine aA.lift mix aI bq _ Tryz.func113 (c:=(ak Tryz.f113)) (by kernel_rfl) (o:=aO [] [Mw] aU) (aR trivial) (aQ [aP (aK (ak Tryz.f113)) 0] (by kernel_rfl) ⟨aeC,trivial⟩ (by kernel_rfl)) ?_
 intro z; kernel_rfl
def wR (owners:List Str) (l:List aL) (from_:Int) (i:Int) (out:List Int):Tree ((Int×(List Int))⊕(List Int)) :=
 .ite (decide (i<(owners.length:Int))) (
 ask (!decide ((owners.length:Int)=0)) <|
 ask (aD ((ay (from_+i)).tmod (owners.length:Int)) owners.length) <|
 .bnd (Ht l (owners.getD (((ay (from_+i)).tmod (owners.length:Int)).toNat) ([]:Str))) fun y1 =>
 .dH (decide ((0:Int)<=y1)) (Dm out y1) false fun y2 =>
 .ite ((decide ((0:Int)<=y1))&&(!y2)) (
 ask (decide ((out++[y1]).length*8<=bD)) <|
 .ret (.inl ((ay (i+1)),(out++[y1])))) (
 .ret (.inl ((ay (i+1)),out)))) (
 .ret (.inr out))
def MB:Lp:=⟨4,[.own 7 3 (.int .i64)],[],(.cons (.val false (.list .str)) (.cons (.val false (.list bH)) (ca (aJ (.cons (.own 0) (.cons (.val false (.int .i64)) (.cons (.val false (.int .i64)) (aF (bB (aZ .nil)))))))))),(.rows 3 (.int .i64) .nil),0,.one 1 [] (ca (.cons (.val false (.list bH)) (ca (aJ (.cons (.own 0) (aJ (bB (aZ .nil)))))))) (.rows 3 (.int .i64) .nil),fun z=>.bnd (.loop (fun v=>wR z.1.1 z.1.2.1 z.1.2.2.2.2.2.2.2.2.1 v.1 v.2) (z.1.2.2.2.2.2.2.2.2.2.1,z.2.1)) fun r=>.ret ((cu (z.1.2.1,(cu (ai ((),(ai (aC (aj ())))))))),r,())⟩
theorem aeD:MB.ok Tryz.prog (aP (aK (ak Tryz.f96)) 0):=by
 refine Lp.lift (π:=((List Str)×(List aL)×Int)) (V:=(Int×(List Int))) (ρ:=List Int) mix aI MB (o:=aO [Hr,Hu,Hw] [] aU) (aR ⟨Ms,Mv,Mx,trivial⟩) (aQ [] (by kernel_rfl) trivial rfl) (fun x v=>((x.1,x.2.1,(cu (ai ((),x.2.2,v.1,(ah (aC (aj ()))))))),v.2,())) (fun x r=>((cu (x.2.1,(cu (ai ((),(ai (aC (aj ())))))))),r,())) (fun x v=>wR x.1 x.2.1 x.2.2 v.1 v.2) (fun x r=>.ret ((cu (x.2.1,(cu (ai ((),(ai (aC (aj ())))))))),r,())) (fun z=>(z.1.1,z.1.2.1,z.1.2.2.2.2.2.2.2.2.1)) (fun z=>(z.1.2.2.2.2.2.2.2.2.2.1,z.2.1)) (fun _=>rfl) (fun _=>rfl) (fun _ _ _ h=>h) ?_
 intro x v; kernel_rfl
def wS (l:List aL) (i:Int) (out:List Int):Tree ((Int×(List Int))⊕(List Int)) :=
 .ite (decide (i<(l.length:Int))) (
 .bnd (Dm out i) fun y1 =>
 .ite (!y1) (
 ask (decide ((out++[i]).length*8<=bD)) <|
 .ret (.inl ((ay (i+1)),(out++[i])))) (
 .ret (.inl ((ay (i+1)),out)))) (
 .ret (.inr out))
def MC:Lp:=⟨10,[],[],(ca (.cons (.val false (.list bH)) (ca (aJ (.cons (.own 0) (ca (aF (.cons (.val false (.int .i64)) (bB (aZ .nil)))))))))),(.rows 3 (.int .i64) .nil),0,.one 3 [] (ca (aF (aJ (.cons (.own 0) (aJ (bB (aZ .nil))))))) (.rows 3 (.int .i64) .nil),fun z=>.bnd (.loop (fun v=>wS z.1.2.1 v.1 v.2) (z.1.2.2.2.2.2.2.2.2.2.2.2.1,z.2.1)) fun r=>.ret ((cu (ah (ai ((),(ai (aC (aj ()))))))),r,())⟩
theorem aeE:MC.ok Tryz.prog (aP (aK (ak Tryz.f96)) 1):=by
 refine Lp.lift (π:=List aL) (V:=(Int×(List Int))) (ρ:=List Int) mix aI MC (o:=aO [Hr,Hu,Hw] [] aU) (aR ⟨Ms,Mv,Mx,trivial⟩) (aQ [] (by kernel_rfl) trivial rfl) (fun x v=>((cu (x,(cu (ai ((),(cu (ah (v.1,(aC (aj ())))))))))),v.2,())) (fun x r=>((cu (ah (ai ((),(ai (aC (aj ()))))))),r,())) (fun x v=>wS x v.1 v.2) (fun x r=>.ret ((cu (ah (ai ((),(ai (aC (aj ()))))))),r,())) (fun z=>z.1.2.1) (fun z=>(z.1.2.2.2.2.2.2.2.2.2.2.2.1,z.2.1)) (fun _=>rfl) (fun _=>rfl) (fun _ _ _ h=>h) ?_
 intro x v; kernel_rfl
def Hy (x0:List Str) (x1:List aL) (x2:Int):Tree (List Int) :=
 .bnd (Hq x2 (x0.length:Int)) fun y1 =>
 .bnd (.loop (fun v=>wR x0 x1 y1 v.1 v.2) (0,([]:List Int))) fun r2 =>
 .bnd (.loop (fun v=>wS x1 v.1 v.2) (0,r2)) fun r3 =>
 .ret r3
def ME:aA:=⟨96,(.cons (.val false (.list .str)) (.cons (.val false (.list bH)) (.cons (.val false (.int .i64)) .nil))),.fresh 3 (.int .i64),fun z=>Hy z.1 z.2.1 z.2.2.1,([]:List Int)⟩
theorem Vl:ME.ok Tryz.prog:=by
 refine aA.lift mix aI bq _ Tryz.func96 (c:=(ak Tryz.f96)) (by kernel_rfl) (o:=aO [Hr,Hu,Hw] [MB,MC] aU) (aR ⟨Ms,Mv,Mx,trivial⟩) (aQ [aP (aK (ak Tryz.f96)) 0,aP (aK (ak Tryz.f96)) 1] (by kernel_rfl) ⟨aeD,aeE,trivial⟩ (by kernel_rfl)) ?_
 intro z; kernel_rfl
def zQ (l:List Str) (s_:Str) (i:Int):Tree (Int⊕(Int⊕Unit)) :=
 .ite (decide (i<(l.length:Int))) (
 ask (aD i l.length) <|
 .ite ((l.getD i.toNat ([]:Str))==s_) (
 .ret (.inr (.inl i))) (
 .ret (.inl (ay (i+1))))) (
 .ret (.inr (.inr ())))
def MF:Lp:=⟨2,[],[],(.cons (.val false (.list .str)) (.cons (.val false .str) (aJ (.cons (.val false (.int .i64)) (ca (ca8 (bB .nil))))))),.nil,0,.more 0 [] (aJ (.cons (.val false (.list .str)) (.cons (.val false (.int .i64)) (aF (ca8 (bB .nil)))))) .nil (.one 1 [] (.cons (.val false (.list .str)) (.cons (.val false .str) (aF (aJ (ca8 (bB .nil)))))) .nil),fun z=>.bnd (.loop (fun v=>zQ z.1.1 z.1.2.1 v) z.1.2.2.2.2.2.2.1) fun r=>.sum r (fun a0=>.ret (.inl ((ai (z.1.1,a0,(ah (az (aC ()))))),()))) (fun b0=>.ret (.inr ((z.1.1,z.1.2.1,(ah (ai (az (aC ()))))),())))⟩
theorem aeF:MF.ok Tryz.prog (aP (aK (ak Tryz.f117)) 0):=by
 refine Lp.lift (π:=((List Str)×Str)) (V:=Int) (ρ:=(Int⊕Unit)) mix aI MF (o:=aO [] [] aU) (aR trivial) (aQ [] (by kernel_rfl) trivial rfl) (fun x v=>((x.1,x.2,(ai (v,(cu (az (aC ())))))),())) (fun x r=>match r with | .inl a0=>.inl ((ai (x.1,a0,(ah (az (aC ()))))),()) | .inr b0=>(.inr ((x.1,x.2,(ah (ai (az (aC ()))))),()))) (fun x v=>zQ x.1 x.2 v) (fun x r=>.sum r (fun a0=>.ret (.inl ((ai (x.1,a0,(ah (az (aC ()))))),()))) (fun b0=>.ret (.inr ((x.1,x.2,(ah (ai (az (aC ()))))),())))) (fun z=>(z.1.1,z.1.2.1)) (fun z=>z.1.2.2.2.2.2.2.1) (fun _=>rfl) (fun _=>rfl) (fun x r Q h=>match r,h with | .inl _,h=>h | .inr b0,h=>(h)) ?_
 intro x v; kernel_rfl
def Dn (x0:List Str) (x1:Str):Tree ((List Str)×Int×Unit) :=
 .bnd (.loop (fun v=>zQ x0 x1 v) 0) fun r1 =>
 .sum r1 (fun r2 =>
 .ret (x0,r2,())) (fun r3 =>
 ask (decide (x0.length*16<=bD)) <|
 ask (decide ((x0++[x1]).length*16<=bD)) <|
 .ret ((x0++[x1]),(x0.length:Int),()))
def MG:aA:=⟨117,(.cons (.val false (.list .str)) (.cons (.val false .str) .nil)),.vals (.cons (.val false (.list .str)) (.cons (.val false (.int .i64)) .nil)),fun z=>Dn z.1 z.2.1,(([]:List Str),(0:Int),())⟩
theorem Vm:MG.ok Tryz.prog:=by
 refine aA.lift mix aI bq _ Tryz.func117 (c:=(ak Tryz.f117)) (by kernel_rfl) (o:=aO [] [MF] aU) (aR trivial) (aQ [aP (aK (ak Tryz.f117)) 0] (by kernel_rfl) ⟨aeF,trivial⟩ (by kernel_rfl)) ?_
 intro z; kernel_rfl
def zR (l:List aL) (order:List Int) (racks:List Str) (zones:List Str) (i:Int) (out:List (Int×Int)):Tree (((List Str)×(List Str)×Int×(List (Int×Int)))⊕(List (Int×Int))) :=
 .ite (decide (i<(order.length:Int))) (
 ask (aD i order.length) <|
 ask (aD (order.getD i.toNat (0:Int)) l.length) <|
 .bnd (Dn racks (l.getD ((order.getD i.toNat (0:Int)).toNat) (aS bH:aL)).2.1) fun y1 =>
 .bnd (Dn zones (l.getD ((order.getD i.toNat (0:Int)).toNat) (aS bH:aL)).2.2.1) fun y2 =>
 ask (decide ((out++[(y1.2.1,y2.2.1)]).length*16<=bD)) <|
 .ret (.inl (y1.1,y2.1,(ay (i+1)),(out++[(y1.2.1,y2.2.1)])))) (
 .ret (.inr out))
def MH:Lp:=⟨4,[.own 7 99 (.pair (.int .i64) (.int .i64))],[],(.cons (.val false (.list bH)) (.cons (.val false (.list (.int .i64))) (ca (aF (.cons (.val false (.list .str)) (.cons (.val false (.list .str)) (.cons (.own 0) (.cons (.val false (.int .i64)) (ca (ca8 (aZ .nil))))))))))),(.rows 99 (.pair (.int .i64) (.int .i64)) .nil),0,.one 1 [] (ca (aF (aJ (.cons (.own 0) (aF (ca8 (aZ .nil))))))) (.rows 99 (.pair (.int .i64) (.int .i64)) .nil),fun z=>.bnd (.loop (fun v=>zR z.1.1 z.1.2.1 v.1 v.2.1 v.2.2.1 v.2.2.2) (z.1.2.2.2.2.2.1,z.1.2.2.2.2.2.2.1,z.1.2.2.2.2.2.2.2.2.1,z.2.1)) fun r=>.ret ((cu (ah (ai ((),(ah (az (aj ()))))))),r,())⟩
theorem aeG:MH.ok Tryz.prog (aP (aK (ak Tryz.f98)) 0):=by
 refine Lp.lift (π:=((List aL)×(List Int))) (V:=((List Str)×(List Str)×Int×(List (Int×Int)))) (ρ:=List (Int×Int)) mix aI MH (o:=aO [MG] [] aU) (aR ⟨Vm,trivial⟩) (aQ [] (by kernel_rfl) trivial rfl) (fun x v=>((x.1,x.2,(cu (ah (v.1,v.2.1,(),v.2.2.1,(cu (az (aj ()))))))),v.2.2.2,())) (fun x r=>((cu (ah (ai ((),(ah (az (aj ()))))))),r,())) (fun x v=>zR x.1 x.2 v.1 v.2.1 v.2.2.1 v.2.2.2) (fun x r=>.ret ((cu (ah (ai ((),(ah (az (aj ()))))))),r,())) (fun z=>(z.1.1,z.1.2.1)) (fun z=>(z.1.2.2.2.2.2.1,z.1.2.2.2.2.2.2.1,z.1.2.2.2.2.2.2.2.2.1,z.2.1)) (fun _=>rfl) (fun _=>rfl) (fun _ _ _ h=>h) ?_
 intro x v; kernel_rfl
def Dp (x0:List aL) (x1:List Int):Tree (List (Int×Int)) :=
 .bnd (.loop (fun v=>zR x0 x1 v.1 v.2.1 v.2.2.1 v.2.2.2) ([],[],0,([]:List (Int×Int)))) fun r1 =>
 .ret r1
def aeH:aA:=⟨98,(.cons (.val false (.list bH)) (.cons (.val false (.list (.int .i64))) .nil)),.fresh 99 (.pair (.int .i64) (.int .i64)),fun z=>Dp z.1 z.2.1,([]:List (Int×Int))⟩
theorem aeI:aeH.ok Tryz.prog:=by
 refine aA.lift mix aI bq _ Tryz.func98 (c:=(ak Tryz.f98)) (by kernel_rfl) (o:=aO [MG] [MH] aU) (aR ⟨Vm,trivial⟩) (aQ [aP (aK (ak Tryz.f98)) 0] (by kernel_rfl) ⟨aeG,trivial⟩ (by kernel_rfl)) ?_
 intro z; kernel_rfl
def MI:aA:=⟨98,(.cons (.val false (.list bH)) (.cons (.val false (.list (.int .i64))) .nil)),.kJ 99 (.pair (.int .i64) (.int .i64)),fun z=>Dp z.1 z.2.1,([]:List (Int×Int))⟩
theorem Vn:MI.ok Tryz.prog:=fun x y h=>oM (aeI x y h)
def qz (r:(Int->Int->Tree (List (List Int)))):aA:=⟨114,(.cons (.val false (.int .i64)) (.cons (.val false (.int .i64)) .nil)),.vals (.val false (.list (.list (.int .i64)))),fun z=>r z.1 z.2.1,([]:List (List Int))⟩
def Hz:Nat->List Pre
 | 13=>[.two]
 | 18=>[.gP 1]
 | _=>[]
def sw (r:(Int->Int->Tree (List (List Int)))) (n:Int) (many:Int) (first:Int) (rest:List (List Int)) (i:Int) (out:List (List Int)) (k:Int) (c:List Int):Tree ((Int×(List Int))⊕(List Int)) :=
 ask (aD i rest.length) <|
 .ite (decide (k<((rest.getD i.toNat ([]:List Int)).length:Int))) (
 ask (aD i rest.length) <|
 ask (aD k (rest.getD i.toNat ([]:List Int)).length) <|
 ask (decide ((c++[(ay ((ay (((rest.getD i.toNat ([]:List Int)).getD k.toNat (0:Int))+first))+1))]).length*8<=bD)) <|
 .ret (.inl ((ay (k+1)),(c++[(ay ((ay (((rest.getD i.toNat ([]:List Int)).getD k.toNat (0:Int))+first))+1))])))) (
 .ret (.inr c))
def MJ (r:(Int->Int->Tree (List (List Int)))):Lp:=⟨15,[],[],(.cons (.val false (.int .i64)) (.cons (.val false (.int .i64)) (ca (aF (.cons (.own 0) (.cons (.val false (.int .i64)) (.cons (.val false (.list (.list (.int .i64)))) (.cons (.val false (.int .i64)) (.cons (.own 1) (.cons (.val false (.int .i64)) (ca (aF (ca8 (bB (aZ .nil))))))))))))))),(.rows 34 (.list (.int .i64)) (.rows 3 (.int .i64) .nil)),0,.one 5 [] (.cons (.val false (.int .i64)) (.cons (.val false (.int .i64)) (ca (aF (.cons (.own 0) (.cons (.val false (.int .i64)) (.cons (.val false (.list (.list (.int .i64)))) (.cons (.val false (.int .i64)) (.cons (.own 1) (aJ (ca8 (bB (aZ .nil))))))))))))) (.rows 34 (.list (.int .i64)) (.rows 3 (.int .i64) .nil)),fun z=>.bnd (.loop (fun v=>(sw r) z.1.1 z.1.2.1 z.1.2.2.2.2.2.2.1 z.1.2.2.2.2.2.2.2.1 z.1.2.2.2.2.2.2.2.2.1 z.2.1 v.1 v.2) (z.1.2.2.2.2.2.2.2.2.2.2.1,z.2.2.1)) fun r=>.ret ((z.1.1,z.1.2.1,(cu (ah ((),z.1.2.2.2.2.2.2.1,z.1.2.2.2.2.2.2.2.1,z.1.2.2.2.2.2.2.2.2.1,(),(ai (az (aC (aj ())))))))),z.2.1,r,())⟩
theorem aeJ (r:(Int->Int->Tree (List (List Int)))) (hr:(qz r).ok Tryz.prog):(MJ r).ok Tryz.prog (aP (aK (aP (aK (aP (aK (ak Tryz.f114)) 0)) 0)) 0):=by
 refine Lp.lift (π:=(Int×Int×Int×(List (List Int))×Int×(List (List Int)))) (V:=(Int×(List Int))) (ρ:=List Int) mix aI (MJ r) (o:=aO [(qz r)] [] Hz) (aR ⟨hr,trivial⟩) (aQ [] (by kernel_rfl) trivial rfl) (fun x v=>((x.1,x.2.1,(cu (ah ((),x.2.2.1,x.2.2.2.1,x.2.2.2.2.1,(),v.1,(cu (ah (az (aC (aj ()))))))))),x.2.2.2.2.2,v.2,())) (fun x r=>((x.1,x.2.1,(cu (ah ((),x.2.2.1,x.2.2.2.1,x.2.2.2.2.1,(),(ai (az (aC (aj ())))))))),x.2.2.2.2.2,r,())) (fun x v=>(sw r) x.1 x.2.1 x.2.2.1 x.2.2.2.1 x.2.2.2.2.1 x.2.2.2.2.2 v.1 v.2) (fun x r=>.ret ((x.1,x.2.1,(cu (ah ((),x.2.2.1,x.2.2.2.1,x.2.2.2.2.1,(),(ai (az (aC (aj ())))))))),x.2.2.2.2.2,r,())) (fun z=>(z.1.1,z.1.2.1,z.1.2.2.2.2.2.2.1,z.1.2.2.2.2.2.2.2.1,z.1.2.2.2.2.2.2.2.2.1,z.2.1)) (fun z=>(z.1.2.2.2.2.2.2.2.2.2.2.1,z.2.2.1)) (fun _=>rfl) (fun _=>rfl) (fun _ _ _ h=>h) ?_
 intro x v; kernel_rfl
def sD (r:(Int->Int->Tree (List (List Int)))) (n:Int) (many:Int) (first:Int) (rest:List (List Int)) (i:Int) (out:List (List Int)):Tree ((Int×(List (List Int)))⊕(List (List Int))) :=
 .ite (decide (i<(rest.length:Int))) (
 .bnd (.loop (fun v=>(sw r) n many first rest i out v.1 v.2) (0,[first])) fun r1 =>
 ask (decide ((out++[r1]).length*24<=bD)) <|
 .ret (.inl ((ay (i+1)),(out++[r1])))) (
 .ret (.inr out))
def MK (r:(Int->Int->Tree (List (List Int)))):Lp:=⟨11,[],[],(.cons (.val false (.int .i64)) (.cons (.val false (.int .i64)) (ca (aF (.cons (.own 0) (.cons (.val false (.int .i64)) (.cons (.val false (.list (.list (.int .i64)))) (.cons (.val false (.int .i64)) (ca (aJ (ca8 (bB (aZ .nil))))))))))))),(.rows 34 (.list (.int .i64)) .nil),0,.one 3 [] (.cons (.val false (.int .i64)) (.cons (.val false (.int .i64)) (ca (aF (.cons (.own 0) (.cons (.val false (.int .i64)) (ca (aF (aJ (ca8 (bB (aZ .nil)))))))))))) (.rows 34 (.list (.int .i64)) .nil),fun z=>.bnd (.loop (fun v=>(sD r) z.1.1 z.1.2.1 z.1.2.2.2.2.2.2.1 z.1.2.2.2.2.2.2.2.1 v.1 v.2) (z.1.2.2.2.2.2.2.2.2.1,z.2.1)) fun r=>.ret ((z.1.1,z.1.2.1,(cu (ah ((),z.1.2.2.2.2.2.2.1,(cu (ah (ai (az (aC (aj ())))))))))),r,())⟩
theorem aeK (r:(Int->Int->Tree (List (List Int)))) (hr:(qz r).ok Tryz.prog):(MK r).ok Tryz.prog (aP (aK (aP (aK (ak Tryz.f114)) 0)) 0):=by
 refine Lp.lift (π:=(Int×Int×Int×(List (List Int)))) (V:=(Int×(List (List Int)))) (ρ:=List (List Int)) mix aI (MK r) (o:=aO [(qz r)] [(MJ r)] Hz) (aR ⟨hr,trivial⟩) (aQ [aP (aK (aP (aK (aP (aK (ak Tryz.f114)) 0)) 0)) 0] (by kernel_rfl) ⟨(aeJ r hr),trivial⟩ (by kernel_rfl)) (fun x v=>((x.1,x.2.1,(cu (ah ((),x.2.2.1,x.2.2.2,v.1,(cu (ai (az (aC (aj ()))))))))),v.2,())) (fun x r=>((x.1,x.2.1,(cu (ah ((),x.2.2.1,(cu (ah (ai (az (aC (aj ())))))))))),r,())) (fun x v=>(sD r) x.1 x.2.1 x.2.2.1 x.2.2.2 v.1 v.2) (fun x r=>.ret ((x.1,x.2.1,(cu (ah ((),x.2.2.1,(cu (ah (ai (az (aC (aj ())))))))))),r,())) (fun z=>(z.1.1,z.1.2.1,z.1.2.2.2.2.2.2.1,z.1.2.2.2.2.2.2.2.1)) (fun z=>(z.1.2.2.2.2.2.2.2.2.1,z.2.1)) (fun _=>rfl) (fun _=>rfl) (fun _ _ _ h=>h) ?_
 intro x v; kernel_rfl
def uO (r:(Int->Int->Tree (List (List Int)))) (n:Int) (many:Int) (first:Int) (out:List (List Int)):Tree ((Int×(List (List Int)))⊕(List (List Int))) :=
 .ite (decide ((ay (first+many))<=n)) (
 .bnd (r (ay ((ay (n-first))-1)) (ay (many-1))) fun y1 =>
 .bnd (.loop (fun v=>(sD r) n many first y1 v.1 v.2) (0,out)) fun r2 =>
 .ret (.inl ((ay (first+1)),r2))) (
 .ret (.inr out))
def ML (r:(Int->Int->Tree (List (List Int)))):Lp:=⟨7,[.own 5 34 (.list (.int .i64))],[],(.cons (.val false (.int .i64)) (.cons (.val false (.int .i64)) (ca (aF (.cons (.own 0) (.cons (.val false (.int .i64)) (ca (aF (aJ (ca8 (bB (aZ .nil)))))))))))),(.rows 34 (.list (.int .i64)) .nil),0,.one 1 [] (ca (aJ (.cons (.own 0) (aZ (aZ .nil))))) (.rows 34 (.list (.int .i64)) .nil),fun z=>.bnd (.loop (fun v=>(uO r) z.1.1 z.1.2.1 v.1 v.2) (z.1.2.2.2.2.2.2.1,z.2.1)) fun r=>.ret ((cu (ai ((),(aj (aj ()))))),r,())⟩
theorem aeL (r:(Int->Int->Tree (List (List Int)))) (hr:(qz r).ok Tryz.prog):(ML r).ok Tryz.prog (aP (aK (ak Tryz.f114)) 0):=by
 refine Lp.lift (π:=(Int×Int)) (V:=(Int×(List (List Int)))) (ρ:=List (List Int)) mix aI (ML r) (o:=aO [(qz r)] [(MK r)] Hz) (aR ⟨hr,trivial⟩) (aQ [aP (aK (aP (aK (ak Tryz.f114)) 0)) 0] (by kernel_rfl) ⟨(aeK r hr),trivial⟩ (by kernel_rfl)) (fun x v=>((x.1,x.2,(cu (ah ((),v.1,(cu (ah (ai (az (aC (aj ())))))))))),v.2,())) (fun x r=>((cu (ai ((),(aj (aj ()))))),r,())) (fun x v=>(uO r) x.1 x.2 v.1 v.2) (fun x r=>.ret ((cu (ai ((),(aj (aj ()))))),r,())) (fun z=>(z.1.1,z.1.2.1)) (fun z=>(z.1.2.2.2.2.2.2.1,z.2.1)) (fun _=>rfl) (fun _=>rfl) (fun _ _ _ h=>h) ?_
 intro x v; kernel_rfl
def uN (r:(Int->Int->Tree (List (List Int)))) (x0:Int) (x1:Int):Tree (List (List Int)) :=
 .ite ((decide (x1<0))||(decide (x0<x1))) (
 .ret []) (
 .ite (decide (x1=0)) (
 .ret [[]]) (
 .bnd (.loop (fun v=>(uO r) x0 x1 v.1 v.2) (0,([]:List (List Int)))) fun r1 =>
 .ret r1))
def aeM (r:(Int->Int->Tree (List (List Int)))):aA:=⟨114,(.cons (.val false (.int .i64)) (.cons (.val false (.int .i64)) .nil)),.vals (.val false (.list (.list (.int .i64)))),fun z=>(uN r) z.1 z.2.1,([]:List (List Int))⟩
theorem aeN (r:(Int->Int->Tree (List (List Int)))) (hr:(qz r).ok Tryz.prog):(aeM r).ok Tryz.prog:=by
 refine aA.lift mix aI bq _ Tryz.func114 (c:=(ak Tryz.f114)) (by kernel_rfl) (o:=aO [(qz r)] [(ML r)] Hz) (aR ⟨hr,trivial⟩) (aQ [aP (aK (ak Tryz.f114)) 0] (by kernel_rfl) ⟨(aeL r hr),trivial⟩ (by kernel_rfl)) ?_
 intro z; kernel_rfl
def pz:Nat->(Int->Int->Tree (List (List Int)))
 | 0=>fun _ _=>.fail
 | n+1=>uN (pz n)
theorem Vo:∀ n,(qz (pz n)).ok Tryz.prog
 | 0=>fun x y h=>by exact absurd h (by simp [qz,pz,Tree.run])
 | n+1=>aeN (pz n) (Vo n)
def Bz (x0:Int) (x1:Int):Tree (List (List Int)):=uG fun n=>pz n x0 x1
def Dq:aA:=⟨114,(.cons (.val false (.int .i64)) (.cons (.val false (.int .i64)) .nil)),.vals (.val false (.list (.list (.int .i64)))),fun z=>Bz z.1 z.2.1,([]:List (List Int))⟩
theorem HV:Dq.ok Tryz.prog:=fun x y h=>by
 obtain ⟨n,hn⟩:=Vp h
 exact Vo n x y hn
def xS (l:List Int) (n:Int) (i:Int):Tree (Int⊕(Bool⊕Unit)) :=
 .ite (decide (i<(l.length:Int))) (
 ask (aD i l.length) <|
 .ite (decide ((l.getD i.toNat (0:Int))=n)) (
 .ret (.inr (.inl true))) (
 .ret (.inl (ay (i+1))))) (
 .ret (.inr (.inr ())))
def MM:Lp:=⟨2,[],[],(.cons (.val false (.list (.int .i64))) (.cons (.val false (.int .i64)) (ca (aF (.cons (.val false (.int .i64)) (aJ (ca8 .nil))))))),.nil,0,.more 0 [] (aJ (.cons (.val false .bool) (ca (aJ (ca8 .nil))))) .nil (.one 1 [] (aF (bB .nil)) .nil),fun z=>.bnd (.loop (fun v=>xS z.1.1 z.1.2.1 v) z.1.2.2.2.2.2.1) fun r=>.sum r (fun a0=>.ret (.inl ((ai (a0,(cu (ai (az ()))))),()))) (fun b0=>.ret (.inr ((ah (aC ())),())))⟩
theorem aeO:MM.ok Tryz.prog (aP (aK (ak Tryz.f128)) 0):=by
 refine Lp.lift (π:=((List Int)×Int)) (V:=Int) (ρ:=(Bool⊕Unit)) mix aI MM (o:=aO [] [] aU) (aR trivial) (aQ [] (by kernel_rfl) trivial rfl) (fun x v=>((x.1,x.2,(cu (ah (v,(ai (az ())))))),())) (fun x r=>match r with | .inl a0=>.inl ((ai (a0,(cu (ai (az ()))))),()) | .inr b0=>(.inr ((ah (aC ())),()))) (fun x v=>xS x.1 x.2 v) (fun x r=>.sum r (fun a0=>.ret (.inl ((ai (a0,(cu (ai (az ()))))),()))) (fun b0=>.ret (.inr ((ah (aC ())),())))) (fun z=>(z.1.1,z.1.2.1)) (fun z=>z.1.2.2.2.2.2.1) (fun _=>rfl) (fun _=>rfl) (fun x r Q h=>match r,h with | .inl _,h=>h | .inr b0,h=>(h)) ?_
 intro x v; kernel_rfl
def xR (x0:List Int) (x1:Int):Tree Bool :=
 .bnd (.loop (fun v=>xS x0 x1 v) 0) fun r1 =>
 .sum r1 (fun r2 =>
 .ret r2) (fun r3 =>
 .ret false)
def MN:aA:=⟨128,(.cons (.val false (.list (.int .i64))) (.cons (.val false (.int .i64)) .nil)),.vals (.val false .bool),fun z=>xR z.1 z.2.1,false⟩
theorem Vq:MN.ok Tryz.prog:=by
 refine aA.lift mix aI bq _ Tryz.func128 (c:=(ak Tryz.f128)) (by kernel_rfl) (o:=aO [] [MM] aU) (aR trivial) (aQ [aP (aK (ak Tryz.f128)) 0] (by kernel_rfl) ⟨aeO,trivial⟩ (by kernel_rfl)) ?_
 intro z; kernel_rfl
def uP (l:List (Int×Int)) (choice:List Int) (i:Int) (a:List Int) (b:List Int):Tree ((Int×(List Int)×(List Int))⊕((List Int)×(List Int))) :=
 .ite (decide (i<(choice.length:Int))) (
 ask (aD i choice.length) <|
 ask (aD (choice.getD i.toNat (0:Int)) l.length) <|
 ask (aD 0 2) <|
 .bnd (xR a (l.getD ((choice.getD i.toNat (0:Int)).toNat) (aS (.pair (.int .i64) (.int .i64)):(Int×Int))).1) fun y1 =>
 .ite (!y1) (
 ask (aD 0 2) <|
 ask (decide ((a++[(l.getD ((choice.getD i.toNat (0:Int)).toNat) (aS (.pair (.int .i64) (.int .i64)):(Int×Int))).1]).length*8<=bD)) <|
 ask (aD 1 2) <|
 .bnd (xR b (l.getD ((choice.getD i.toNat (0:Int)).toNat) (aS (.pair (.int .i64) (.int .i64)):(Int×Int))).2) fun y2 =>
 .ite (!y2) (
 ask (aD 1 2) <|
 ask (decide ((b++[(l.getD ((choice.getD i.toNat (0:Int)).toNat) (aS (.pair (.int .i64) (.int .i64)):(Int×Int))).2]).length*8<=bD)) <|
 .ret (.inl ((ay (i+1)),(a++[(l.getD ((choice.getD i.toNat (0:Int)).toNat) (aS (.pair (.int .i64) (.int .i64)):(Int×Int))).1]),(b++[(l.getD ((choice.getD i.toNat (0:Int)).toNat) (aS (.pair (.int .i64) (.int .i64)):(Int×Int))).2])))) (
 .ret (.inl ((ay (i+1)),(a++[(l.getD ((choice.getD i.toNat (0:Int)).toNat) (aS (.pair (.int .i64) (.int .i64)):(Int×Int))).1]),b)))) (
 ask (aD 1 2) <|
 .bnd (xR b (l.getD ((choice.getD i.toNat (0:Int)).toNat) (aS (.pair (.int .i64) (.int .i64)):(Int×Int))).2) fun y3 =>
 .ite (!y3) (
 ask (aD 1 2) <|
 ask (decide ((b++[(l.getD ((choice.getD i.toNat (0:Int)).toNat) (aS (.pair (.int .i64) (.int .i64)):(Int×Int))).2]).length*8<=bD)) <|
 .ret (.inl ((ay (i+1)),a,(b++[(l.getD ((choice.getD i.toNat (0:Int)).toNat) (aS (.pair (.int .i64) (.int .i64)):(Int×Int))).2])))) (
 .ret (.inl ((ay (i+1)),a,b))))) (
 .ret (.inr (a,b)))
def MO:Lp:=⟨3,[.own 6 3 (.int .i64),.own 7 3 (.int .i64)],[],(.cons (.val false (.list (.pair (.int .i64) (.int .i64)))) (.cons (.val false (.list (.int .i64))) (aJ (.cons (.own 0) (.cons (.own 1) (.cons (.val false (.int .i64)) (aF (aJ (aZ .nil))))))))),(.rows 3 (.int .i64) (.rows 3 (.int .i64) .nil)),0,.one 1 [] (aF (aJ (.cons (.own 0) (.cons (.own 1) (ca (aF (aJ (aZ .nil)))))))) (.rows 3 (.int .i64) (.rows 3 (.int .i64) .nil)),fun z=>.bnd (.loop (fun v=>uP z.1.1 z.1.2.1 v.1 v.2.1 v.2.2) (z.1.2.2.2.2.2.2.2.2.1,z.2.1,z.2.2.1)) fun r=>.ret ((ah (ai ((),(),(cu (ah (ai (aj ()))))))),r.1,r.2,())⟩
theorem aeP:MO.ok Tryz.prog (aP (aK (ak Tryz.f116)) 0):=by
 refine Lp.lift (π:=((List (Int×Int))×(List Int))) (V:=(Int×(List Int)×(List Int))) (ρ:=((List Int)×(List Int))) mix aI MO (o:=aO [MN] [] aU) (aR ⟨Vq,trivial⟩) (aQ [] (by kernel_rfl) trivial rfl) (fun x v=>((x.1,x.2,(ai ((),(),v.1,(ah (ai (aj ())))))),v.2.1,v.2.2,())) (fun x r=>((ah (ai ((),(),(cu (ah (ai (aj ()))))))),r.1,r.2,())) (fun x v=>uP x.1 x.2 v.1 v.2.1 v.2.2) (fun x r=>.ret ((ah (ai ((),(),(cu (ah (ai (aj ()))))))),r.1,r.2,())) (fun z=>(z.1.1,z.1.2.1)) (fun z=>(z.1.2.2.2.2.2.2.2.2.1,z.2.1,z.2.2.1)) (fun _=>rfl) (fun _=>rfl) (fun _ _ _ h=>h) ?_
 intro x v; kernel_rfl
def xU (x0:List (Int×Int)) (x1:List Int):Tree (Int×Int×Unit) :=
 .bnd (.loop (fun v=>uP x0 x1 v.1 v.2.1 v.2.2) (0,([]:List Int),([]:List Int))) fun r1 =>
 .ret ((r1.1.length:Int),(r1.2.length:Int),())
def Dr:aA:=⟨116,(.cons (.val false (.list (.pair (.int .i64) (.int .i64)))) (.cons (.val false (.list (.int .i64))) .nil)),.vals (.cons (.val false (.int .i64)) (.cons (.val false (.int .i64)) .nil)),fun z=>xU z.1 z.2.1,((0:Int),(0:Int),())⟩
theorem HY:Dr.ok Tryz.prog:=by
 refine aA.lift mix aI bq _ Tryz.func116 (c:=(ak Tryz.f116)) (by kernel_rfl) (o:=aO [MN] [MO] aU) (aR ⟨Vq,trivial⟩) (aQ [aP (aK (ak Tryz.f116)) 0] (by kernel_rfl) ⟨aeP,trivial⟩ (by kernel_rfl)) ?_
 intro z; kernel_rfl
def uQ (l:List (Int×Int)) (c:List (List Int)) (x_:Int) (y_:Int) (i:Int):Tree ((Int×Int×Int)⊕(Int×Int)) :=
 .ite (decide (i<(c.length:Int))) (
 ask (aD i c.length) <|
 .bnd (xU l (c.getD i.toNat ([]:List Int))) fun y1 =>
 .ite ((decide (x_<y1.1))||((decide (y1.1=x_))&&(decide (y_<y1.2.1)))) (
 .ret (.inl (y1.1,y1.2.1,(ay (i+1))))) (
 .ret (.inl (x_,y_,(ay (i+1)))))) (
 .ret (.inr (x_,y_)))
def MP:Lp:=⟨4,[],[],(.cons (.val false (.list (.pair (.int .i64) (.int .i64)))) (ca (aJ (.cons (.val false (.list (.list (.int .i64)))) (.cons (.val false (.int .i64)) (.cons (.val false (.int .i64)) (.cons (.val false (.int .i64)) (aF (aJ (aZ .nil)))))))))),.nil,0,.one 1 [] (ca (aF (aJ (.cons (.val false (.int .i64)) (.cons (.val false (.int .i64)) (ca (aF (aJ (aZ .nil))))))))) .nil,fun z=>.bnd (.loop (fun v=>uQ z.1.1 z.1.2.2.2.2.2.2.1 v.1 v.2.1 v.2.2) (z.1.2.2.2.2.2.2.2.1,z.1.2.2.2.2.2.2.2.2.1,z.1.2.2.2.2.2.2.2.2.2.1)) fun r=>.ret ((cu (ah (ai (r.1,r.2,(cu (ah (ai (aj ())))))))),())⟩
theorem aeQ:MP.ok Tryz.prog (aP (aK (ak Tryz.f115)) 0):=by
 refine Lp.lift (π:=((List (Int×Int))×(List (List Int)))) (V:=(Int×Int×Int)) (ρ:=(Int×Int)) mix aI MP (o:=aO [Dq,Dr] [] aU) (aR ⟨HV,HY,trivial⟩) (aQ [] (by kernel_rfl) trivial rfl) (fun x v=>((x.1,(cu (ai (x.2,v.1,v.2.1,v.2.2,(ah (ai (aj ()))))))),())) (fun x r=>((cu (ah (ai (r.1,r.2,(cu (ah (ai (aj ())))))))),())) (fun x v=>uQ x.1 x.2 v.1 v.2.1 v.2.2) (fun x r=>.ret ((cu (ah (ai (r.1,r.2,(cu (ah (ai (aj ())))))))),())) (fun z=>(z.1.1,z.1.2.2.2.2.2.2.1)) (fun z=>(z.1.2.2.2.2.2.2.2.1,z.1.2.2.2.2.2.2.2.2.1,z.1.2.2.2.2.2.2.2.2.2.1)) (fun _=>rfl) (fun _=>rfl) (fun _ _ _ h=>h) ?_
 intro x v; kernel_rfl
def E5 (x0:List (Int×Int)) (x1:Int):Tree (Int×Int×Unit) :=
 .bnd (Bz (x0.length:Int) x1) fun y1 =>
 .bnd (.loop (fun v=>uQ x0 y1 v.1 v.2.1 v.2.2) (0,0,0)) fun r2 =>
 .ret (r2.1,r2.2,())
def MQ:aA:=⟨115,(.cons (.val false (.list (.pair (.int .i64) (.int .i64)))) (.cons (.val false (.int .i64)) .nil)),.vals (.cons (.val false (.int .i64)) (.cons (.val false (.int .i64)) .nil)),fun z=>E5 z.1 z.2.1,((0:Int),(0:Int),())⟩
theorem Vr:MQ.ok Tryz.prog:=by
 refine aA.lift mix aI bq _ Tryz.func115 (c:=(ak Tryz.f115)) (by kernel_rfl) (o:=aO [Dq,Dr] [MP] aU) (aR ⟨HV,HY,trivial⟩) (aQ [aP (aK (ak Tryz.f115)) 0] (by kernel_rfl) ⟨aeQ,trivial⟩ (by kernel_rfl)) ?_
 intro z; kernel_rfl
def xV (l:List (Int×Int)) (c:List (List Int)) (x_:Int) (y_:Int) (i:Int):Tree (Int⊕(List Int⊕Unit)) :=
 .ite (decide (i<(c.length:Int))) (
 ask (aD i c.length) <|
 .bnd (xU l (c.getD i.toNat ([]:List Int))) fun y1 =>
 .ite ((decide (y1.1=x_))&&(decide (y1.2.1=y_))) (
 ask (aD i c.length) <|
 .ret (.inr (.inl (c.getD i.toNat ([]:List Int))))) (
 .ret (.inl (ay (i+1))))) (
 .ret (.inr (.inr ())))
def MR:Lp:=⟨4,[],[],(.cons (.val false (.list (.pair (.int .i64) (.int .i64)))) (aJ (.cons (.val false (.list (.list (.int .i64)))) (.cons (.val false (.int .i64)) (.cons (.val false (.int .i64)) (.cons (.val false (.int .i64)) (ca (aF (aJ (aZ .nil)))))))))),.nil,0,.more 0 [] (aJ (.cons (.val false (.list (.int .i64))) (ca (aF (ca8 (aZ .nil)))))) .nil (.one 1 [] (bB (aZ .nil)) .nil),fun z=>.bnd (.loop (fun v=>xV z.1.1 z.1.2.2.2.2.2.1 z.1.2.2.2.2.2.2.1 z.1.2.2.2.2.2.2.2.1 v) z.1.2.2.2.2.2.2.2.2.1) fun r=>.sum r (fun a0=>.ret (.inl ((ai (a0,(cu (ah (az (aj ())))))),()))) (fun b0=>.ret (.inr ((aC (aj ())),())))⟩
theorem aeR:MR.ok Tryz.prog (aP (aK (ak Tryz.f97)) 0):=by
 refine Lp.lift (π:=((List (Int×Int))×(List (List Int))×Int×Int)) (V:=Int) (ρ:=(List Int⊕Unit)) mix aI MR (o:=aO [Dq,MQ,Dr] [] aU) (aR ⟨HV,Vr,HY,trivial⟩) (aQ [] (by kernel_rfl) trivial rfl) (fun x v=>((x.1,(ai (x.2.1,x.2.2.1,x.2.2.2,v,(cu (ah (ai (aj ()))))))),())) (fun x r=>match r with | .inl a0=>.inl ((ai (a0,(cu (ah (az (aj ())))))),()) | .inr b0=>(.inr ((aC (aj ())),()))) (fun x v=>xV x.1 x.2.1 x.2.2.1 x.2.2.2 v) (fun x r=>.sum r (fun a0=>.ret (.inl ((ai (a0,(cu (ah (az (aj ())))))),()))) (fun b0=>.ret (.inr ((aC (aj ())),())))) (fun z=>(z.1.1,z.1.2.2.2.2.2.1,z.1.2.2.2.2.2.2.1,z.1.2.2.2.2.2.2.2.1)) (fun z=>z.1.2.2.2.2.2.2.2.2.1) (fun _=>rfl) (fun _=>rfl) (fun x r Q h=>match r,h with | .inl _,h=>h | .inr b0,h=>(h)) ?_
 intro x v; kernel_rfl
def E8 (x0:List (Int×Int)) (x1:Int):Tree (List Int) :=
 .bnd (Bz (x0.length:Int) x1) fun y1 =>
 .bnd (E5 x0 x1) fun y2 =>
 .bnd (.loop (fun v=>xV x0 y1 y2.1 y2.2.1 v) 0) fun r3 =>
 .sum r3 (fun r4 =>
 .ret r4) (fun r5 =>
 .ret [])
def MS:aA:=⟨97,(.cons (.val false (.list (.pair (.int .i64) (.int .i64)))) (.cons (.val false (.int .i64)) .nil)),.vals (.val false (.list (.int .i64))),fun z=>E8 z.1 z.2.1,([]:List Int)⟩
theorem Vs:MS.ok Tryz.prog:=by
 refine aA.lift mix aI bq _ Tryz.func97 (c:=(ak Tryz.f97)) (by kernel_rfl) (o:=aO [Dq,MQ,Dr] [MR] aU) (aR ⟨HV,Vr,HY,trivial⟩) (aQ [aP (aK (ak Tryz.f97)) 0] (by kernel_rfl) ⟨aeR,trivial⟩ (by kernel_rfl)) ?_
 intro z; kernel_rfl
def zS (l:List aL) (p:List Int) (order:List Int) (i:Int) (out:List Str):Tree ((Int×(List Str))⊕(List Str)) :=
 .ite (decide (i<(p.length:Int))) (
 ask (aD i p.length) <|
 ask (aD (p.getD i.toNat (0:Int)) order.length) <|
 ask (aD (order.getD ((p.getD i.toNat (0:Int)).toNat) (0:Int)) l.length) <|
 ask (decide ((out++[(l.getD ((order.getD ((p.getD i.toNat (0:Int)).toNat) (0:Int)).toNat) (aS bH:aL)).1]).length*16<=bD)) <|
 .ret (.inl ((ay (i+1)),(out++[(l.getD ((order.getD ((p.getD i.toNat (0:Int)).toNat) (0:Int)).toNat) (aS bH:aL)).1])))) (
 .ret (.inr out))
def MU:Lp:=⟨5,[.own 11 9 .str],[],(ca (.cons (.val false (.list bH)) (ca (aF (aJ (.cons (.own 0) (.cons (.val false (.list (.int .i64))) (.cons (.own 1) (.cons (.val false (.int .i64)) (ca (aZ .nil))))))))))),(.rows 3 (.int .i64) (.rows 9 .str .nil)),0,.one 1 [] (ca (aF (ca8 (.cons (.own 1) (aF (aZ .nil)))))) (.dead (.rows 9 .str .nil)),fun z=>.bnd (.loop (fun v=>zS z.1.2.1 z.1.2.2.2.2.2.2.2.2.2.2.1 z.2.1 v.1 v.2) (z.1.2.2.2.2.2.2.2.2.2.2.2.2.1,z.2.2.1)) fun r=>.ret ((cu (ah (az ((),(ah (aj ())))))),r,())⟩
theorem aeS:MU.ok Tryz.prog (aP (aK (ak Tryz.f70)) 0):=by
 refine Lp.lift (π:=((List aL)×(List Int)×(List Int))) (V:=(Int×(List Str))) (ρ:=List Str) mix aI MU (o:=aO [ME,MI,MS] [] aU) (aR ⟨Vl,Vn,Vs,trivial⟩) (aQ [] (by kernel_rfl) trivial rfl) (fun x v=>((cu (x.1,(cu (ah (ai ((),x.2.1,(),v.1,(cu (aj ())))))))),x.2.2,v.2,())) (fun x r=>((cu (ah (az ((),(ah (aj ())))))),r,())) (fun x v=>zS x.1 x.2.1 x.2.2 v.1 v.2) (fun x r=>.ret ((cu (ah (az ((),(ah (aj ())))))),r,())) (fun z=>(z.1.2.1,z.1.2.2.2.2.2.2.2.2.2.2.1,z.2.1)) (fun z=>(z.1.2.2.2.2.2.2.2.2.2.2.2.2.1,z.2.2.1)) (fun _=>rfl) (fun _=>rfl) (fun _ _ _ h=>h) ?_
 intro x v; kernel_rfl
def HZ (x0:List Str) (x1:List aL) (x2:Int) (x3:Int):Tree (List Str) :=
 .bnd (Hy x0 x1 x2) fun y1 =>
 .bnd (Dp x1 y1) fun y2 =>
 .bnd (E8 y2 (ae.jh x3 (x1.length:Int))) fun y3 =>
 .bnd (.loop (fun v=>zS x1 y3 y1 v.1 v.2) (0,([]:List Str))) fun r4 =>
 .ret r4
def Vt:aA:=⟨70,(.cons (.val false (.list .str)) (.cons (.val false (.list bH)) (.cons (.val false (.int .i64)) (.cons (.val false (.int .i64)) .nil)))),.fresh 9 .str,fun z=>HZ z.1 z.2.1 z.2.2.1 z.2.2.2.1,([]:List Str)⟩
theorem aeT:Vt.ok Tryz.prog:=by
 refine aA.lift mix aI bq _ Tryz.func70 (c:=(ak Tryz.f70)) (by kernel_rfl) (o:=aO [ME,MI,MS] [MU] aU) (aR ⟨Vl,Vn,Vs,trivial⟩) (aQ [aP (aK (ak Tryz.f70)) 0] (by kernel_rfl) ⟨aeS,trivial⟩ (by kernel_rfl)) ?_
 intro z; kernel_rfl
def Dt (x0:List Str) (x1:List aL) (x2:Int) (x3:Int):Tree (List Str) :=
 .ite ((decide (x3<1))||(decide ((16:Int)<x3))) (
 .ret []) (
 .bnd (HZ x0 x1 x2 x3) fun y1 =>
 .ret y1)
def aeU:aA:=⟨34,(.cons (.val false (.list .str)) (.cons (.val false (.list bH)) (.cons (.val false (.int .i64)) (.cons (.val false (.int .i64)) .nil)))),.fresh 9 .str,fun z=>Dt z.1 z.2.1 z.2.2.1 z.2.2.2.1,([]:List Str)⟩
theorem aeV:aeU.ok Tryz.prog:=by
 refine aA.lift mix aI bq _ Tryz.func34 (c:=(ak Tryz.f34)) (by kernel_rfl) (o:=aO [Vt] [] aU) (aR ⟨aeT,trivial⟩) (aQ [] (by kernel_rfl) trivial rfl) ?_
 intro z; kernel_rfl
def MV:aA:=⟨34,(.cons (.val false (.list .str)) (.cons (.val false (.list bH)) (.cons (.val false (.int .i64)) (.cons (.val false (.int .i64)) .nil)))),.kJ 9 .str,fun z=>Dt z.1 z.2.1 z.2.2.1 z.2.2.2.1,([]:List Str)⟩
theorem Vu:MV.ok Tryz.prog:=fun x y h=>oM (aeV x y h)
def zT (copies:Int) (o:List Str) (m:List aL) (i:Int) (out:List (List Str)):Tree ((Int×(List (List Str)))⊕(List (List Str))) :=
 .ite (decide (i<16)) (
 .bnd (Dt o m i copies) fun y1 =>
 ask (decide ((out++[y1]).length*24<=bD)) <|
 .ret (.inl ((ay (i+1)),(out++[y1])))) (
 .ret (.inr out))
def MW:Lp:=⟨4,[.own 5 23 (.list .str)],[],(ca (.cons (.val false (.int .i64)) (ca (aF (.cons (.own 2) (.cons (.own 0) (.cons (.own 1) (.cons (.val false (.int .i64)) (ca (bB .nil)))))))))),(.rows 9 .str (.rows 51 bH (.rows 23 (.list .str) .nil))),0,.one 1 [] (ca (aJ (.cons (.own 2) (aJ (bB .nil))))) (.dead (.dead (.rows 23 (.list .str) .nil))),fun z=>.bnd (.loop (fun v=>zT z.1.2.1 z.2.1 z.2.2.1 v.1 v.2) (z.1.2.2.2.2.2.2.2.2.1,z.2.2.2.1)) fun r=>.ret ((cu (ai ((),(ai (aC ()))))),r,())⟩
theorem aeW:MW.ok Tryz.prog (aP (aK (ak Tryz.f10)) 0):=by
 refine Lp.lift (π:=(Int×(List Str)×(List aL))) (V:=(Int×(List (List Str)))) (ρ:=List (List Str)) mix aI MW (o:=aO [zN,lV,MV] [] aU) (aR ⟨Dl,lW,Vu,trivial⟩) (aQ [] (by kernel_rfl) trivial rfl) (fun x v=>((cu (x.1,(cu (ah ((),(),(),v.1,(cu (aC ()))))))),x.2.1,x.2.2,v.2,())) (fun x r=>((cu (ai ((),(ai (aC ()))))),r,())) (fun x v=>zT x.1 x.2.1 x.2.2 v.1 v.2) (fun x r=>.ret ((cu (ai ((),(ai (aC ()))))),r,())) (fun z=>(z.1.2.1,z.2.1,z.2.2.1)) (fun z=>(z.1.2.2.2.2.2.2.2.2.1,z.2.2.2.1)) (fun _=>rfl) (fun _=>rfl) (fun _ _ _ h=>h) ?_
 intro x v; kernel_rfl
def wT (x0:List Entry) (x1:Int):Tree (List (List Str)) :=
 .bnd (Dk x0 16) fun y1 =>
 .bnd (qA x0) fun y2 =>
 .bnd (.loop (fun v=>zT x1 y1 y2 v.1 v.2) (0,([]:List (List Str)))) fun r3 =>
 .ret r3
def qB:aA:=⟨10,(.cons (.val false (.list bf)) (.cons (.val false (.int .i64)) .nil)),.fresh 23 (.list .str),fun z=>wT z.1 z.2.1,([]:List (List Str))⟩
theorem rG:qB.ok Tryz.prog:=by
 refine aA.lift mix aI bq _ Tryz.func10 (c:=(ak Tryz.f10)) (by kernel_rfl) (o:=aO [zN,lV,MV] [MW] aU) (aR ⟨Dl,lW,Vu,trivial⟩) (aQ [aP (aK (ak Tryz.f10)) 0] (by kernel_rfl) ⟨aeW,trivial⟩ (by kernel_rfl)) ?_
 intro z; kernel_rfl
def zU (l:List Str) (s_:Str) (i:Int):Tree (Int⊕(Bool⊕Unit)) :=
 .ite (decide (i<(l.length:Int))) (
 ask (aD i l.length) <|
 .ite ((l.getD i.toNat ([]:Str))==s_) (
 .ret (.inr (.inl true))) (
 .ret (.inl (ay (i+1))))) (
 .ret (.inr (.inr ())))
def MX:Lp:=⟨2,[],[],(.cons (.val false (.list .str)) (.cons (.val false .str) (ca (aF (.cons (.val false (.int .i64)) (aJ (ca8 .nil))))))),.nil,0,.more 0 [] (aJ (.cons (.val false .bool) (ca (aJ (ca8 .nil))))) .nil (.one 1 [] (aF (bB .nil)) .nil),fun z=>.bnd (.loop (fun v=>zU z.1.1 z.1.2.1 v) z.1.2.2.2.2.2.1) fun r=>.sum r (fun a0=>.ret (.inl ((ai (a0,(cu (ai (az ()))))),()))) (fun b0=>.ret (.inr ((ah (aC ())),())))⟩
theorem aeX:MX.ok Tryz.prog (aP (aK (ak Tryz.f40)) 0):=by
 refine Lp.lift (π:=((List Str)×Str)) (V:=Int) (ρ:=(Bool⊕Unit)) mix aI MX (o:=aO [] [] aU) (aR trivial) (aQ [] (by kernel_rfl) trivial rfl) (fun x v=>((x.1,x.2,(cu (ah (v,(ai (az ())))))),())) (fun x r=>match r with | .inl a0=>.inl ((ai (a0,(cu (ai (az ()))))),()) | .inr b0=>(.inr ((ah (aC ())),()))) (fun x v=>zU x.1 x.2 v) (fun x r=>.sum r (fun a0=>.ret (.inl ((ai (a0,(cu (ai (az ()))))),()))) (fun b0=>.ret (.inr ((ah (aC ())),())))) (fun z=>(z.1.1,z.1.2.1)) (fun z=>z.1.2.2.2.2.2.1) (fun _=>rfl) (fun _=>rfl) (fun x r Q h=>match r,h with | .inl _,h=>h | .inr b0,h=>(h)) ?_
 intro x v; kernel_rfl
def Du (x0:List Str) (x1:Str):Tree Bool :=
 .bnd (.loop (fun v=>zU x0 x1 v) 0) fun r1 =>
 .sum r1 (fun r2 =>
 .ret r2) (fun r3 =>
 .ret false)
def zV:aA:=⟨40,(.cons (.val false (.list .str)) (.cons (.val false .str) .nil)),.vals (.val false .bool),fun z=>Du z.1 z.2.1,false⟩
theorem Dv:zV.ok Tryz.prog:=by
 refine aA.lift mix aI bq _ Tryz.func40 (c:=(ak Tryz.f40)) (by kernel_rfl) (o:=aO [] [MX] aU) (aR trivial) (aQ [aP (aK (ak Tryz.f40)) 0] (by kernel_rfl) ⟨aeX,trivial⟩ (by kernel_rfl)) ?_
 intro z; kernel_rfl
def MZ:Nat->List Pre
 | 6=>[.gP 1]
 | _=>[]
def qC (m:List aL) (i:Int) (o:List Str) (lists:List (List Str)) (out:List dK) (k:Int) (x_:dK):Tree ((Int×dK)⊕dK) :=
 .ite (decide (k<(lists.length:Int))) (
 ask (aD k lists.length) <|
 ask (aD i m.length) <|
 .bnd (Du (lists.getD k.toNat ([]:List Str)) (m.getD i.toNat (aS bH:aL)).1) fun y1 =>
 .ite y1 (
 .ret (.inl ((ay (k+1)),x_.1,x_.2.1,(ay (x_.2.2+1))))) (
 .ret (.inl ((ay (k+1)),x_)))) (
 .ret (.inr x_))
def M3:Lp:=⟨8,[],[],(ca (aJ (.cons (.own 3) (.cons (.own 0) (.cons (.val false (.list bH)) (.cons (.own 2) (.cons (.val false (.int .i64)) (.cons (.ref 4 0) (.cons (.val false (.int .i64)) (aF (aJ (bB (aZ .nil))))))))))))),(.rows 9 .str (.dead (.rows 23 (.list .str) (.rows 45 fQ (.cells 45 (.cons (.flat fQ) .nil) .nil))))),0,.one 3 [] (ca (aJ (.cons (.own 3) (.cons (.own 0) (.cons (.val false (.list bH)) (.cons (.own 2) (.cons (.val false (.int .i64)) (.cons (.ref 4 0) (ca (aF (aJ (bB (aZ .nil))))))))))))) (.rows 9 .str (.dead (.rows 23 (.list .str) (.rows 45 fQ (.cells 45 (.cons (.flat fQ) .nil) .nil))))),fun z=>.bnd (.loop (fun v=>qC z.1.2.2.2.2.2.2.2.1 z.1.2.2.2.2.2.2.2.2.2.1 z.2.1 z.2.2.1 z.2.2.2.1 v.1 v.2) (z.1.2.2.2.2.2.2.2.2.2.2.2.1,z.2.2.2.2.1.1)) fun r=>.ret ((cu (ai ((),(),z.1.2.2.2.2.2.2.2.1,(),z.1.2.2.2.2.2.2.2.2.2.1,(),(cu (ah (ai (aC (aj ())))))))),z.2.1,z.2.2.1,z.2.2.2.1,(r,()),())⟩
theorem aeY:M3.ok Tryz.prog (aP (aK (aP (aK (ak Tryz.f14)) 0)) 0):=by
 refine Lp.lift (π:=((List aL)×Int×(List Str)×(List (List Str))×(List dK))) (V:=(Int×dK)) (ρ:=dK) mix aI M3 (o:=aO [zN,lV,qB,H5,zV] [] MZ) (aR ⟨Dl,lW,rG,M4,Dv,trivial⟩) (aQ [] (by kernel_rfl) trivial rfl) (fun x v=>((cu (ai ((),(),x.1,(),x.2.1,(),v.1,(ah (ai (aC (aj ()))))))),x.2.2.1,x.2.2.2.1,x.2.2.2.2,(v.2,()),())) (fun x r=>((cu (ai ((),(),x.1,(),x.2.1,(),(cu (ah (ai (aC (aj ())))))))),x.2.2.1,x.2.2.2.1,x.2.2.2.2,(r,()),())) (fun x v=>qC x.1 x.2.1 x.2.2.1 x.2.2.2.1 x.2.2.2.2 v.1 v.2) (fun x r=>.ret ((cu (ai ((),(),x.1,(),x.2.1,(),(cu (ah (ai (aC (aj ())))))))),x.2.2.1,x.2.2.2.1,x.2.2.2.2,(r,()),())) (fun z=>(z.1.2.2.2.2.2.2.2.1,z.1.2.2.2.2.2.2.2.2.2.1,z.2.1,z.2.2.1,z.2.2.2.1)) (fun z=>(z.1.2.2.2.2.2.2.2.2.2.2.2.1,z.2.2.2.2.1.1)) (fun _=>rfl) (fun _=>rfl) (fun _ _ _ h=>h) ?_
 intro x v; kernel_rfl
def zW (m:List aL) (o:List Str) (lists:List (List Str)) (i:Int) (out:List dK):Tree ((Int×(List dK))⊕(List dK)) :=
 .ite (decide (i<(m.length:Int))) (
 ask (aD i m.length) <|
 ask (aD i m.length) <|
 .both (
 .both (
 .bnd (uq o [(m.getD i.toNat (aS bH:aL)).1]) fun y5 =>
 ask (aD 0 y5.length) <|
 (fun q9=>.both (.both q9 q9) q9) (.bnd (.loop (fun v=>qC m i o lists out v.1 v.2) (0,(m.getD i.toNat (aS bH:aL)).1,(y5.getD ((0:Int).toNat) (0:Int)),0)) fun r8 =>
 ask (decide ((out++[r8]).length*32<=bD)) <|
 .ret (.inl ((ay (i+1)),(out++[r8]))))) (
 .bnd (uq o [(m.getD i.toNat (aS bH:aL)).1]) fun y3 =>
 ask (aD 0 y3.length) <|
 .bnd (.loop (fun v=>qC m i o lists out v.1 v.2) (0,(m.getD i.toNat (aS bH:aL)).1,(y3.getD ((0:Int).toNat) (0:Int)),0)) fun r4 =>
 ask (decide ((out++[r4]).length*32<=bD)) <|
 .ret (.inl ((ay (i+1)),(out++[r4]))))) (
 .bnd (uq o [(m.getD i.toNat (aS bH:aL)).1]) fun y1 =>
 ask (aD 0 y1.length) <|
 .bnd (.loop (fun v=>qC m i o lists out v.1 v.2) (0,(m.getD i.toNat (aS bH:aL)).1,(y1.getD ((0:Int).toNat) (0:Int)),0)) fun r2 =>
 ask (decide ((out++[r2]).length*32<=bD)) <|
 .ret (.inl ((ay (i+1)),(out++[r2]))))) (
 .ret (.inr out))
def M5:Lp:=⟨4,[.own 5 45 fQ,.gP 1],[],(ca (aJ (.cons (.own 3) (.cons (.own 0) (.cons (.val false (.list bH)) (.cons (.own 2) (.cons (.val false (.int .i64)) (ca8 (bB (aZ .nil)))))))))),(.rows 9 .str (.dead (.rows 23 (.list .str) (.rows 45 fQ .nil)))),0,.one 1 [] (ca (aJ (.cons (.own 3) (aJ (ca8 (bB (aZ .nil))))))) (.dead (.dead (.dead (.rows 45 fQ .nil)))),fun z=>.bnd (.loop (fun v=>zW z.1.2.2.2.2.2.2.2.1 z.2.1 z.2.2.1 v.1 v.2) (z.1.2.2.2.2.2.2.2.2.2.1,z.2.2.2.1)) fun r=>.ret ((cu (ai ((),(ai (az (aC (aj ()))))))),r,())⟩
theorem aeZ:M5.ok Tryz.prog (aP (aK (ak Tryz.f14)) 0):=by
 refine Lp.lift (π:=((List aL)×(List Str)×(List (List Str)))) (V:=(Int×(List dK))) (ρ:=List dK) mix aI M5 (o:=aO [zN,lV,qB,H5,zV] [M3] MZ) (aR ⟨Dl,lW,rG,M4,Dv,trivial⟩) (aQ [aP (aK (aP (aK (ak Tryz.f14)) 0)) 0] (by kernel_rfl) ⟨aeY,trivial⟩ (by kernel_rfl)) (fun x v=>((cu (ai ((),(),x.1,(),v.1,(az (aC (aj ())))))),x.2.1,x.2.2,v.2,())) (fun x r=>((cu (ai ((),(ai (az (aC (aj ()))))))),r,())) (fun x v=>zW x.1 x.2.1 x.2.2 v.1 v.2) (fun x r=>.ret ((cu (ai ((),(ai (az (aC (aj ()))))))),r,())) (fun z=>(z.1.2.2.2.2.2.2.2.1,z.2.1,z.2.2.1)) (fun z=>(z.1.2.2.2.2.2.2.2.2.2.1,z.2.2.2.1)) (fun _=>rfl) (fun _=>rfl) (fun _ _ _ h=>h) ?_
 intro x v; kernel_rfl
def H6 (x0:List Entry) (x1:Int):Tree (List dK) :=
 .bnd (Dk x0 16) fun y1 =>
 .bnd (qA x0) fun y2 =>
 .bnd (wT x0 x1) fun y3 =>
 .bnd (.loop (fun v=>zW y2 y1 y3 v.1 v.2) (0,([]:List dK))) fun r4 =>
 .ret r4
def M6:aA:=⟨14,(.cons (.val false (.list bf)) (.cons (.val false (.int .i64)) .nil)),.fresh 45 fQ,fun z=>H6 z.1 z.2.1,([]:List dK)⟩
theorem Vv:M6.ok Tryz.prog:=by
 refine aA.lift mix aI bq _ Tryz.func14 (c:=(ak Tryz.f14)) (by kernel_rfl) (o:=aO [zN,lV,qB,H5,zV] [M5] MZ) (aR ⟨Dl,lW,rG,M4,Dv,trivial⟩) (aQ [aP (aK (ak Tryz.f14)) 0] (by kernel_rfl) ⟨aeZ,trivial⟩ (by kernel_rfl)) ?_
 intro z; kernel_rfl
def zX (list:List Str) (gone:List Str) (n:Int) (i:Int):Tree ((Int×Int)⊕Int) :=
 .ite (decide (i<(list.length:Int))) (
 ask (aD i list.length) <|
 .bnd (Du gone (list.getD i.toNat ([]:Str))) fun y1 =>
 .ite (!y1) (
 .ret (.inl ((ay (n+1)),(ay (i+1))))) (
 .ret (.inl (n,(ay (i+1)))))) (
 .ret (.inr n))
def M7:Lp:=⟨3,[],[],(.cons (.val false (.list .str)) (.cons (.val false (.list .str)) (ca (aF (.cons (.val false (.int .i64)) (.cons (.val false (.int .i64)) (bB .nil))))))),.nil,0,.one 1 [] (ca (aJ (.cons (.val false (.int .i64)) (ca (bB .nil))))) .nil,fun z=>.bnd (.loop (fun v=>zX z.1.1 z.1.2.1 v.1 v.2) (z.1.2.2.2.2.2.1,z.1.2.2.2.2.2.2.1)) fun r=>.ret ((cu (ai (r,(cu (aC ()))))),())⟩
theorem ae0:M7.ok Tryz.prog (aP (aK (ak Tryz.f42)) 0):=by
 refine Lp.lift (π:=((List Str)×(List Str))) (V:=(Int×Int)) (ρ:=Int) mix aI M7 (o:=aO [zV] [] aU) (aR ⟨Dv,trivial⟩) (aQ [] (by kernel_rfl) trivial rfl) (fun x v=>((x.1,x.2,(cu (ah (v.1,v.2,(aC ()))))),())) (fun x r=>((cu (ai (r,(cu (aC ()))))),())) (fun x v=>zX x.1 x.2 v.1 v.2) (fun x r=>.ret ((cu (ai (r,(cu (aC ()))))),())) (fun z=>(z.1.1,z.1.2.1)) (fun z=>(z.1.2.2.2.2.2.1,z.1.2.2.2.2.2.2.1)) (fun _=>rfl) (fun _=>rfl) (fun _ _ _ h=>h) ?_
 intro x v; kernel_rfl
def Dw (x0:List Str) (x1:List Str):Tree Int :=
 .bnd (.loop (fun v=>zX x0 x1 v.1 v.2) (0,0)) fun r1 =>
 .ret r1
def Dx:aA:=⟨42,(.cons (.val false (.list .str)) (.cons (.val false (.list .str)) .nil)),.vals (.val false (.int .i64)),fun z=>Dw z.1 z.2.1,(0:Int)⟩
theorem H7:Dx.ok Tryz.prog:=by
 refine aA.lift mix aI bq _ Tryz.func42 (c:=(ak Tryz.f42)) (by kernel_rfl) (o:=aO [zV] [M7] aU) (aR ⟨Dv,trivial⟩) (aQ [aP (aK (ak Tryz.f42)) 0] (by kernel_rfl) ⟨ae0,trivial⟩ (by kernel_rfl)) ?_
 intro z; kernel_rfl
def zY (gone:List Str) (lists:List (List Str)) (i:Int) (out:List Int):Tree ((Int×(List Int))⊕(List Int)) :=
 .ite (decide (i<(lists.length:Int))) (
 ask (aD i lists.length) <|
 ask ((!(decide ((0:Int)<((lists.getD i.toNat ([]:List Str)).length:Int))))||aD i lists.length) <|
 .dH (decide ((0:Int)<((lists.getD i.toNat ([]:List Str)).length:Int))) (Dw (lists.getD i.toNat ([]:List Str)) gone) (0:Int) fun y1 =>
 .ite ((decide ((0:Int)<((lists.getD i.toNat ([]:List Str)).length:Int)))&&(decide (y1=0))) (
 ask (decide ((out++[i]).length*8<=bD)) <|
 .ret (.inl ((ay (i+1)),(out++[i])))) (
 .ret (.inl ((ay (i+1)),out)))) (
 .ret (.inr out))
def M8:Lp:=⟨4,[.own 7 3 (.int .i64)],[],(aF (.cons (.val false (.list .str)) (aJ (.cons (.own 1) (.cons (.own 0) (.cons (.val false (.int .i64)) (ca (aJ (ca8 (bB .nil)))))))))),(.rows 23 (.list .str) (.rows 3 (.int .i64) .nil)),0,.one 1 [] (ca (aF (aJ (.cons (.own 1) (ca (aF (aJ (ca8 (bB .nil))))))))) (.dead (.rows 3 (.int .i64) .nil)),fun z=>.bnd (.loop (fun v=>zY z.1.2.2.1 z.2.1 v.1 v.2) (z.1.2.2.2.2.2.2.2.2.2.1,z.2.2.1)) fun r=>.ret ((cu (ah (ai ((),(cu (ah (ai (az (aC ()))))))))),r,())⟩
theorem ae1:M8.ok Tryz.prog (aP (aK (ak Tryz.f17)) 0):=by
 refine Lp.lift (π:=((List Str)×(List (List Str)))) (V:=(Int×(List Int))) (ρ:=List Int) mix aI M8 (o:=aO [qB,Dx] [] aU) (aR ⟨rG,H7,trivial⟩) (aQ [] (by kernel_rfl) trivial rfl) (fun x v=>((ah (x.1,(ai ((),(),v.1,(cu (ai (az (aC ())))))))),x.2,v.2,())) (fun x r=>((cu (ah (ai ((),(cu (ah (ai (az (aC ()))))))))),r,())) (fun x v=>zY x.1 x.2 v.1 v.2) (fun x r=>.ret ((cu (ah (ai ((),(cu (ah (ai (az (aC ()))))))))),r,())) (fun z=>(z.1.2.2.1,z.2.1)) (fun z=>(z.1.2.2.2.2.2.2.2.2.2.1,z.2.2.1)) (fun _=>rfl) (fun _=>rfl) (fun _ _ _ h=>h) ?_
 intro x v; kernel_rfl
def Dy (x0:List Entry) (x1:Int) (x2:List Str):Tree (List Int) :=
 .bnd (wT x0 x1) fun y1 =>
 .bnd (.loop (fun v=>zY x2 y1 v.1 v.2) (0,([]:List Int))) fun r2 =>
 .ret r2
def ae2:aA:=⟨17,(.cons (.val false (.list bf)) (.cons (.val false (.int .i64)) (.cons (.val false (.list .str)) .nil))),.fresh 3 (.int .i64),fun z=>Dy z.1 z.2.1 z.2.2.1,([]:List Int)⟩
theorem ae3:ae2.ok Tryz.prog:=by
 refine aA.lift mix aI bq _ Tryz.func17 (c:=(ak Tryz.f17)) (by kernel_rfl) (o:=aO [qB,Dx] [M8] aU) (aR ⟨rG,H7,trivial⟩) (aQ [aP (aK (ak Tryz.f17)) 0] (by kernel_rfl) ⟨ae1,trivial⟩ (by kernel_rfl)) ?_
 intro z; kernel_rfl
def M9:aA:=⟨17,(.cons (.val false (.list bf)) (.cons (.val false (.int .i64)) (.cons (.val false (.list .str)) .nil))),.kJ 3 (.int .i64),fun z=>Dy z.1 z.2.1 z.2.2.1,([]:List Int)⟩
theorem Vw:M9.ok Tryz.prog:=fun x y h=>oM (ae3 x y h)
def zZ (a:List Int) (b:List Int) (i:Int):Tree (Int⊕(Bool⊕Unit)) :=
 .ite ((decide (i<(a.length:Int)))&&(decide (i<(b.length:Int)))) (
 ask (aD i a.length) <|
 ask (aD i b.length) <|
 .ite (!decide ((a.getD i.toNat (0:Int))=(b.getD i.toNat (0:Int)))) (
 .ret (.inr (.inl false))) (
 .ret (.inl (ay (i+1))))) (
 .ret (.inr (.inr ())))
def Na:Lp:=⟨4,[],[],(.cons (.val false (.list (.int .i64))) (.cons (.val false (.list (.int .i64))) (ca (aF (.cons (.val false (.int .i64)) (aF (ca8 (bB .nil)))))))),.nil,0,.more 0 [] (aJ (.cons (.val false .bool) (ca (aF (ca8 (bB .nil)))))) .nil (.one 1 [] (aZ .nil) .nil),fun z=>.bnd (.loop (fun v=>zZ z.1.1 z.1.2.1 v) z.1.2.2.2.2.2.1) fun r=>.sum r (fun a0=>.ret (.inl ((ai (a0,(cu (ah (az (aC ())))))),()))) (fun b0=>.ret (.inr ((aj ()),())))⟩
theorem ae4:Na.ok Tryz.prog (aP (aK (ak Tryz.f15)) 0):=by
 refine Lp.lift (π:=((List Int)×(List Int))) (V:=Int) (ρ:=(Bool⊕Unit)) mix aI Na (o:=aO [] [] aU) (aR trivial) (aQ [] (by kernel_rfl) trivial rfl) (fun x v=>((x.1,x.2,(cu (ah (v,(ah (az (aC ()))))))),())) (fun x r=>match r with | .inl a0=>.inl ((ai (a0,(cu (ah (az (aC ())))))),()) | .inr b0=>(.inr ((aj ()),()))) (fun x v=>zZ x.1 x.2 v) (fun x r=>.sum r (fun a0=>.ret (.inl ((ai (a0,(cu (ah (az (aC ())))))),()))) (fun b0=>.ret (.inr ((aj ()),())))) (fun z=>(z.1.1,z.1.2.1)) (fun z=>z.1.2.2.2.2.2.1) (fun _=>rfl) (fun _=>rfl) (fun x r Q h=>match r,h with | .inl _,h=>h | .inr b0,h=>(h)) ?_
 intro x v; kernel_rfl
def H8 (x0:List Int) (x1:List Int):Tree Bool :=
 .ite (!decide ((x0.length:Int)=(x1.length:Int))) (
 .ret false) (
 .bnd (.loop (fun v=>zZ x0 x1 v) 0) fun r1 =>
 .sum r1 (fun r2 =>
 .ret r2) (fun r3 =>
 .ret true))
def Nb:aA:=⟨15,(.cons (.val false (.list (.int .i64))) (.cons (.val false (.list (.int .i64))) .nil)),.vals (.val false .bool),fun z=>H8 z.1 z.2.1,false⟩
theorem Vx:Nb.ok Tryz.prog:=by
 refine aA.lift mix aI bq _ Tryz.func15 (c:=(ak Tryz.f15)) (by kernel_rfl) (o:=aO [] [Na] aU) (aR trivial) (aQ [aP (aK (ak Tryz.f15)) 0] (by kernel_rfl) ⟨ae4,trivial⟩ (by kernel_rfl)) ?_
 intro z; kernel_rfl
def z8 (gone:List Str) (lists:List (List Str)) (n:Int) (some:Bool) (i:Int):Tree ((Int×Bool×Int)⊕Int) :=
 .ite (decide (i<(lists.length:Int))) (
 ask (aD i lists.length) <|
 .bnd (Dw (lists.getD i.toNat ([]:List Str)) gone) fun y1 =>
 ask (aD i lists.length) <|
 .ite ((decide ((0:Int)<((lists.getD i.toNat ([]:List Str)).length:Int)))&&((!some)||(decide (y1<n)))) (
 .ret (.inl (y1,true,(ay (i+1))))) (
 .ret (.inl (n,some,(ay (i+1)))))) (
 .ret (.inr n))
def Nc:Lp:=⟨4,[],[],(aF (.cons (.val false (.list .str)) (aJ (.cons (.val false (.int .i64)) (.cons (.val false .bool) (.cons (.own 0) (.cons (.val false (.int .i64)) (ca (aZ .nil))))))))),(.rows 23 (.list .str) .nil),0,.one 1 [] (ca (aF (aJ (.cons (.val false (.int .i64)) (aJ (aZ .nil)))))) .nil,fun z=>.bnd (.loop (fun v=>z8 z.1.2.2.1 z.2.1 v.1 v.2.1 v.2.2) (z.1.2.2.2.2.2.2.2.1,z.1.2.2.2.2.2.2.2.2.1,z.1.2.2.2.2.2.2.2.2.2.2.1)) fun r=>.ret ((cu (ah (ai (r,(ai (aj ())))))),())⟩
theorem ae5:Nc.ok Tryz.prog (aP (aK (ak Tryz.f19)) 0):=by
 refine Lp.lift (π:=((List Str)×(List (List Str)))) (V:=(Int×Bool×Int)) (ρ:=Int) mix aI Nc (o:=aO [qB,Dx] [] aU) (aR ⟨rG,H7,trivial⟩) (aQ [] (by kernel_rfl) trivial rfl) (fun x v=>((ah (x.1,(ai (v.1,v.2.1,(),v.2.2,(cu (aj ())))))),x.2,())) (fun x r=>((cu (ah (ai (r,(ai (aj ())))))),())) (fun x v=>z8 x.1 x.2 v.1 v.2.1 v.2.2) (fun x r=>.ret ((cu (ah (ai (r,(ai (aj ())))))),())) (fun z=>(z.1.2.2.1,z.2.1)) (fun z=>(z.1.2.2.2.2.2.2.2.1,z.1.2.2.2.2.2.2.2.2.1,z.1.2.2.2.2.2.2.2.2.2.2.1)) (fun _=>rfl) (fun _=>rfl) (fun _ _ _ h=>h) ?_
 intro x v; kernel_rfl
def H9 (x0:List Entry) (x1:Int) (x2:List Str):Tree Int :=
 .bnd (wT x0 x1) fun y1 =>
 .bnd (.loop (fun v=>z8 x2 y1 v.1 v.2.1 v.2.2) (0,false,0)) fun r2 =>
 .ret r2
def Nf:aA:=⟨19,(.cons (.val false (.list bf)) (.cons (.val false (.int .i64)) (.cons (.val false (.list .str)) .nil))),.vals (.val false (.int .i64)),fun z=>H9 z.1 z.2.1 z.2.2.1,(0:Int)⟩
theorem Vy:Nf.ok Tryz.prog:=by
 refine aA.lift mix aI bq _ Tryz.func19 (c:=(ak Tryz.f19)) (by kernel_rfl) (o:=aO [qB,Dx] [Nc] aU) (aR ⟨rG,H7,trivial⟩) (aQ [aP (aK (ak Tryz.f19)) 0] (by kernel_rfl) ⟨ae5,trivial⟩ (by kernel_rfl)) ?_
 intro z; kernel_rfl
def Aa (l:List Entry) (copies:Int) (gone:List Str) (a:List (List Str)) (b:List (List Str)) (i:Int):Tree (Int⊕(Bool⊕Unit)) :=
 .ite ((decide (i<(a.length:Int)))&&(decide (i<(b.length:Int)))) (
 ask (aD i a.length) <|
 ask (aD i b.length) <|
 .bnd (um (a.getD i.toNat ([]:List Str)) (b.getD i.toNat ([]:List Str))) fun y1 =>
 .ite (!y1) (
 .ret (.inr (.inl false))) (
 .ret (.inl (ay (i+1))))) (
 .ret (.inr (.inr ())))
def Ng:Lp:=⟨7,[],[],(.cons (.val false (.list bf)) (.cons (.val false (.int .i64)) (.cons (.val false (.list .str)) (aJ (.cons (.own 0) (.cons (.own 1) (.cons (.val false (.int .i64)) (aF (ca8 (aZ (aZ .nil))))))))))),(.rows 23 (.list .str) (.rows 23 (.list .str) .nil)),0,.more 0 [] (aF (aJ (.cons (.val false .bool) (ca (aJ (ca8 (aZ (aZ .nil)))))))) .nil (.one 1 [] (.cons (.val false (.list bf)) (.cons (.val false (.int .i64)) (.cons (.val false (.list .str)) (ca (bB (aZ (aZ .nil))))))) .nil),fun z=>.bnd (.loop (fun v=>Aa z.1.1 z.1.2.1 z.1.2.2.1 z.2.1 z.2.2.1 v) z.1.2.2.2.2.2.2.2.2.2.1) fun r=>.sum r (fun a0=>.ret (.inl ((ah (ai (a0,(cu (ai (az (aj (aj ())))))))),()))) (fun b0=>.ret (.inr ((z.1.1,z.1.2.1,z.1.2.2.1,(cu (aC (aj (aj ()))))),())))⟩
theorem ae6:Ng.ok Tryz.prog (aP (aK (ak Tryz.f3)) 0):=by
 refine Lp.lift (π:=((List Entry)×Int×(List Str)×(List (List Str))×(List (List Str)))) (V:=Int) (ρ:=(Bool⊕Unit)) mix aI Ng (o:=aO [wU,Nh,uo,lT,qB,Dh,uh,M6,G7,Hf,M9,Nb,uj,Nf] [] aU) (aR ⟨Ab,Vz,wP,lU,rG,Hl,wL,Vv,L6,Md,Vw,Vx,wM,Vy,trivial⟩) (aQ [] (by kernel_rfl) trivial rfl) (fun x v=>((x.1,x.2.1,x.2.2.1,(ai ((),(),v,(ah (az (aj (aj ()))))))),x.2.2.2.1,x.2.2.2.2,())) (fun x r=>match r with | .inl a0=>.inl ((ah (ai (a0,(cu (ai (az (aj (aj ())))))))),()) | .inr b0=>(.inr ((x.1,x.2.1,x.2.2.1,(cu (aC (aj (aj ()))))),()))) (fun x v=>Aa x.1 x.2.1 x.2.2.1 x.2.2.2.1 x.2.2.2.2 v) (fun x r=>.sum r (fun a0=>.ret (.inl ((ah (ai (a0,(cu (ai (az (aj (aj ())))))))),()))) (fun b0=>.ret (.inr ((x.1,x.2.1,x.2.2.1,(cu (aC (aj (aj ()))))),())))) (fun z=>(z.1.1,z.1.2.1,z.1.2.2.1,z.2.1,z.2.2.1)) (fun z=>z.1.2.2.2.2.2.2.2.2.2.1) (fun _=>rfl) (fun _=>rfl) (fun x r Q h=>match r,h with | .inl _,h=>h | .inr b0,h=>(h)) ?_
 intro x v; kernel_rfl
def Ni (x0:List Entry) (x1:Int) (x2:List Str):Tree Bool :=
 .bnd (Ac x0) fun y1 =>
 .dH (!(!y1)) (Ia x2) false fun y2 =>
 .ite ((!y1)||(!y2)) (
 .bnd rF fun y3 =>
 .ret y3) (
 .bnd (qx x0 x1) fun y4 =>
 .bnd (wT x0 x1) fun y5 =>
 .ite (!decide ((y4.length:Int)=(y5.length:Int))) (
 .ret false) (
 .bnd (.loop (fun v=>Aa x0 x1 x2 y4 y5 v) 0) fun r6 =>
 .sum r6 (fun r7 =>
 .ret r7) (fun r8 =>
 .bnd (ug x0 x1) fun y9 =>
 .bnd (H6 x0 x1) fun y10 =>
 .bnd (CY y9 y10) fun y11 =>
 .dH y11 (ui x0 x1 x2) ([]:List Int) fun y12 =>
 .dH y11 (Dy x0 x1 x2) ([]:List Int) fun y13 =>
 .dH y11 (H8 y12 y13) false fun y14 =>
 .dH (y11&&y14) (zC x0 x1 x2) (0:Int) fun y15 =>
 .dH (y11&&y14) (H9 x0 x1 x2) (0:Int) fun y16 =>
 .dH ((y11&&y14)&&(decide (y15=y16))) rF false fun y17 =>
 .ret (((y11&&y14)&&(decide (y15=y16)))&&y17))))
def Dz:aA:=⟨3,(.cons (.val false (.list bf)) (.cons (.val false (.int .i64)) (.cons (.val false (.list .str)) .nil))),.vals (.val false .bool),fun z=>Ni z.1 z.2.1 z.2.2.1,false⟩
theorem ae7:Dz.ok Tryz.prog:=by
 refine aA.lift mix aI bq _ Tryz.func3 (c:=(ak Tryz.f3)) (by kernel_rfl) (o:=aO [wU,Nh,uo,lT,qB,Dh,uh,M6,G7,Hf,M9,Nb,uj,Nf] [Ng] aU) (aR ⟨Ab,Vz,wP,lU,rG,Hl,wL,Vv,L6,Md,Vw,Vx,wM,Vy,trivial⟩) (aQ [aP (aK (ak Tryz.f3)) 0] (by kernel_rfl) ⟨ae6,trivial⟩ (by kernel_rfl)) ?_
 intro z; kernel_rfl
def Ad (rack:Str) (m:List aL) (i:Int) (out:List Str):Tree ((Int×(List Str))⊕(List Str)) :=
 .ite (decide (i<(m.length:Int))) (
 ask (aD i m.length) <|
 .ite ((m.getD i.toNat (aS bH:aL)).2.1==rack) (
 ask (aD i m.length) <|
 ask (decide ((out++[(m.getD i.toNat (aS bH:aL)).1]).length*16<=bD)) <|
 .ret (.inl ((ay (i+1)),(out++[(m.getD i.toNat (aS bH:aL)).1])))) (
 .ret (.inl ((ay (i+1)),out)))) (
 .ret (.inr out))
def Nj:Lp:=⟨4,[.own 5 9 .str],[],(ca (.cons (.val false .str) (ca (aF (.cons (.own 1) (.cons (.own 0) (.cons (.val false (.int .i64)) (ca8 (bB .nil))))))))),(.rows 51 bH (.rows 9 .str .nil)),0,.one 1 [] (ca (aJ (.cons (.own 1) (aF (ca8 (bB .nil)))))) (.dead (.rows 9 .str .nil)),fun z=>.bnd (.loop (fun v=>Ad z.1.2.1 z.2.1 v.1 v.2) (z.1.2.2.2.2.2.2.2.1,z.2.2.1)) fun r=>.ret ((cu (ai ((),(ah (az (aC ())))))),r,())⟩
theorem ae8:Nj.ok Tryz.prog (aP (aK (ak Tryz.f22)) 0):=by
 refine Lp.lift (π:=(Str×(List aL))) (V:=(Int×(List Str))) (ρ:=List Str) mix aI Nj (o:=aO [lV] [] aU) (aR ⟨lW,trivial⟩) (aQ [] (by kernel_rfl) trivial rfl) (fun x v=>((cu (x.1,(cu (ah ((),(),v.1,(az (aC ()))))))),x.2,v.2,())) (fun x r=>((cu (ai ((),(ah (az (aC ())))))),r,())) (fun x v=>Ad x.1 x.2 v.1 v.2) (fun x r=>.ret ((cu (ai ((),(ah (az (aC ())))))),r,())) (fun z=>(z.1.2.1,z.2.1)) (fun z=>(z.1.2.2.2.2.2.2.2.1,z.2.2.1)) (fun _=>rfl) (fun _=>rfl) (fun _ _ _ h=>h) ?_
 intro x v; kernel_rfl
def Ib (x0:List Entry) (x1:Str):Tree (List Str) :=
 .bnd (qA x0) fun y1 =>
 .bnd (.loop (fun v=>Ad x1 y1 v.1 v.2) (0,([]:List Str))) fun r2 =>
 .ret r2
def VA:aA:=⟨22,(.cons (.val false (.list bf)) (.cons (.val false .str) .nil)),.fresh 9 .str,fun z=>Ib z.1 z.2.1,([]:List Str)⟩
theorem ae9:VA.ok Tryz.prog:=by
 refine aA.lift mix aI bq _ Tryz.func22 (c:=(ak Tryz.f22)) (by kernel_rfl) (o:=aO [lV] [Nj] aU) (aR ⟨lW,trivial⟩) (aQ [aP (aK (ak Tryz.f22)) 0] (by kernel_rfl) ⟨ae8,trivial⟩ (by kernel_rfl)) ?_
 intro z; kernel_rfl
def Ae (zone:Str) (m:List aL) (i:Int) (out:List Str):Tree ((Int×(List Str))⊕(List Str)) :=
 .ite (decide (i<(m.length:Int))) (
 ask (aD i m.length) <|
 .ite ((m.getD i.toNat (aS bH:aL)).2.2.1==zone) (
 ask (aD i m.length) <|
 ask (decide ((out++[(m.getD i.toNat (aS bH:aL)).1]).length*16<=bD)) <|
 .ret (.inl ((ay (i+1)),(out++[(m.getD i.toNat (aS bH:aL)).1])))) (
 .ret (.inl ((ay (i+1)),out)))) (
 .ret (.inr out))
def Nk:Lp:=⟨4,[.own 5 9 .str],[],(ca (.cons (.val false .str) (ca (aF (.cons (.own 1) (.cons (.own 0) (.cons (.val false (.int .i64)) (ca8 (bB .nil))))))))),(.rows 51 bH (.rows 9 .str .nil)),0,.one 1 [] (ca (aJ (.cons (.own 1) (aF (ca8 (bB .nil)))))) (.dead (.rows 9 .str .nil)),fun z=>.bnd (.loop (fun v=>Ae z.1.2.1 z.2.1 v.1 v.2) (z.1.2.2.2.2.2.2.2.1,z.2.2.1)) fun r=>.ret ((cu (ai ((),(ah (az (aC ())))))),r,())⟩
theorem afa:Nk.ok Tryz.prog (aP (aK (ak Tryz.f24)) 0):=by
 refine Lp.lift (π:=(Str×(List aL))) (V:=(Int×(List Str))) (ρ:=List Str) mix aI Nk (o:=aO [lV] [] aU) (aR ⟨lW,trivial⟩) (aQ [] (by kernel_rfl) trivial rfl) (fun x v=>((cu (x.1,(cu (ah ((),(),v.1,(az (aC ()))))))),x.2,v.2,())) (fun x r=>((cu (ai ((),(ah (az (aC ())))))),r,())) (fun x v=>Ae x.1 x.2 v.1 v.2) (fun x r=>.ret ((cu (ai ((),(ah (az (aC ())))))),r,())) (fun z=>(z.1.2.1,z.2.1)) (fun z=>(z.1.2.2.2.2.2.2.2.1,z.2.2.1)) (fun _=>rfl) (fun _=>rfl) (fun _ _ _ h=>h) ?_
 intro x v; kernel_rfl
def DC (x0:List Entry) (x1:Str):Tree (List Str) :=
 .bnd (qA x0) fun y1 =>
 .bnd (.loop (fun v=>Ae x1 y1 v.1 v.2) (0,([]:List Str))) fun r2 =>
 .ret r2
def afb:aA:=⟨24,(.cons (.val false (.list bf)) (.cons (.val false .str) .nil)),.fresh 9 .str,fun z=>DC z.1 z.2.1,([]:List Str)⟩
theorem afc:afb.ok Tryz.prog:=by
 refine aA.lift mix aI bq _ Tryz.func24 (c:=(ak Tryz.f24)) (by kernel_rfl) (o:=aO [lV] [Nk] aU) (aR ⟨lW,trivial⟩) (aQ [aP (aK (ak Tryz.f24)) 0] (by kernel_rfl) ⟨afa,trivial⟩ (by kernel_rfl)) ?_
 intro z; kernel_rfl
def VB:aA:=⟨24,(.cons (.val false (.list bf)) (.cons (.val false .str) .nil)),.kJ 9 .str,fun z=>DC z.1 z.2.1,([]:List Str)⟩
theorem afd:VB.ok Tryz.prog:=fun x y h=>oM (afc x y h)
def Nl (x0:List Entry) (x1:Str) (x2:Str):Tree Bool :=
 .bnd (CU x0 40) fun y1 =>
 .ite (((!y1)||(decide ((100:Int)<(x1.length:Int))))||(decide ((100:Int)<(x2.length:Int)))) (
 .bnd rF fun y2 =>
 .ret y2) (
 .bnd (wO x0 x1) fun y3 =>
 .bnd (Ib x0 x1) fun y4 =>
 .bnd (um y3 y4) fun y5 =>
 .dH y5 (zJ x0 x2) ([]:List Str) fun y6 =>
 .dH y5 (DC x0 x2) ([]:List Str) fun y7 =>
 .dH y5 (um y6 y7) false fun y8 =>
 .dH (y5&&y8) rF false fun y9 =>
 .ret ((y5&&y8)&&y9))
def DD:aA:=⟨4,(.cons (.val false (.list bf)) (.cons (.val false .str) (.cons (.val false .str) .nil))),.vals (.val false .bool),fun z=>Nl z.1 z.2.1 z.2.2.1,false⟩
theorem afe:DD.ok Tryz.prog:=by
 refine aA.lift mix aI bq _ Tryz.func4 (c:=(ak Tryz.f4)) (by kernel_rfl) (o:=aO [Nn,uo,zF,VA,Dh,Mq,VB] [] aU) (aR ⟨VC,wP,zG,ae9,Hl,Vi,afd,trivial⟩) (aQ [] (by kernel_rfl) trivial rfl) ?_
 intro z; kernel_rfl
def Af (l:List Str) (s_:Str) (k:Int):Tree (Int⊕Int) :=
 ask ((!(decide (k<(l.length:Int))))||aD k l.length) <|
 .ite ((decide (k<(l.length:Int)))&&(eY (l.getD k.toNat ([]:Str)) s_)) (
 .ret (.inl (ay (k+1)))) (
 .ret (.inr k))
def Np:Lp:=⟨2,[],[],(.cons (.val false (.list .str)) (.cons (.val false .str) (ca (aF (.cons (.val false (.int .i64)) (ca (aF (ca8 (aZ .nil))))))))),.nil,0,.one 1 [] (.cons (.val false (.list .str)) (.cons (.val false .str) (ca (aF (.cons (.val false (.int .i64)) (ca (aF (ca8 (aZ .nil))))))))) .nil,fun z=>.bnd (.loop (fun v=>Af z.1.1 z.1.2.1 v) z.1.2.2.2.2.2.1) fun r=>.ret ((z.1.1,z.1.2.1,(cu (ah (r,(cu (ah (az (aj ())))))))),())⟩
theorem aff:Np.ok Tryz.prog (aP (aK (ak Tryz.f50)) 0):=by
 refine Lp.lift (π:=((List Str)×Str)) (V:=Int) (ρ:=Int) mix aI Np (o:=aO [] [] aU) (aR trivial) (aQ [] (by kernel_rfl) trivial rfl) (fun x v=>((x.1,x.2,(cu (ah (v,(cu (ah (az (aj ())))))))),())) (fun x r=>((x.1,x.2,(cu (ah (r,(cu (ah (az (aj ())))))))),())) (fun x v=>Af x.1 x.2 v) (fun x r=>.ret ((x.1,x.2,(cu (ah (r,(cu (ah (az (aj ())))))))),())) (fun z=>(z.1.1,z.1.2.1)) (fun z=>z.1.2.2.2.2.2.1) (fun _=>rfl) (fun _=>rfl) (fun _ _ _ h=>h) ?_
 intro x v; kernel_rfl
def Ic (x0:List Str) (x1:Str):Tree (List Str) :=
 .bnd (.loop (fun v=>Af x0 x1 v) 0) fun r1 =>
 ask ((!(decide (r1<(x0.length:Int))))||aD r1 x0.length) <|
 .ite ((decide (r1<(x0.length:Int)))&&((x0.getD r1.toNat ([]:Str))==x1)) (
 .ret x0) (
 ask (df r1 x0.length) <|
 ask (decide ((x0.take r1.toNat).length*16<=bD)) <|
 ask (decide (((x0.take r1.toNat)++[x1]).length*16<=bD)) <|
 ask (df r1 x0.length) <|
 ask (decide ((((x0.take r1.toNat)++[x1])++(x0.drop r1.toNat)).length*16<=bD)) <|
 .ret (((x0.take r1.toNat)++[x1])++(x0.drop r1.toNat)))
def Nq:aA:=⟨50,(.cons (.val false (.list .str)) (.cons (.val false .str) .nil)),.vals (.val false (.list .str)),fun z=>Ic z.1 z.2.1,([]:List Str)⟩
theorem VD:Nq.ok Tryz.prog:=by
 refine aA.lift mix aI bq _ Tryz.func50 (c:=(ak Tryz.f50)) (by kernel_rfl) (o:=aO [] [Np] aU) (aR trivial) (aQ [aP (aK (ak Tryz.f50)) 0] (by kernel_rfl) ⟨aff,trivial⟩ (by kernel_rfl)) ?_
 intro z; kernel_rfl
def Ag (l:List aL) (out:List Str) (i:Int):Tree (((List Str)×Int)⊕(List Str)) :=
 .ite (decide (i<(l.length:Int))) (
 ask (aD i l.length) <|
 .bnd (Ic out (l.getD i.toNat (aS bH:aL)).2.1) fun y1 =>
 .ret (.inl (y1,(ay (i+1))))) (
 .ret (.inr out))
def Nr:Lp:=⟨3,[],[],(.cons (.val false (.list bH)) (aF (.cons (.val false (.list .str)) (.cons (.val false (.int .i64)) (aF (aJ (ca8 .nil))))))),.nil,0,.one 1 [] (ca (aF (.cons (.val false (.list .str)) (ca (aF (aJ (ca8 .nil))))))) .nil,fun z=>.bnd (.loop (fun v=>Ag z.1.1 v.1 v.2) (z.1.2.2.2.1,z.1.2.2.2.2.1)) fun r=>.ret ((cu (ah (r,(cu (ah (ai (az ()))))))),())⟩
theorem afg:Nr.ok Tryz.prog (aP (aK (ak Tryz.f27)) 0):=by
 refine Lp.lift (π:=List aL) (V:=((List Str)×Int)) (ρ:=List Str) mix aI Nr (o:=aO [Nq] [] aU) (aR ⟨VD,trivial⟩) (aQ [] (by kernel_rfl) trivial rfl) (fun x v=>((x,(ah (v.1,v.2,(ah (ai (az ())))))),())) (fun x r=>((cu (ah (r,(cu (ah (ai (az ()))))))),())) (fun x v=>Ag x v.1 v.2) (fun x r=>.ret ((cu (ah (r,(cu (ah (ai (az ()))))))),())) (fun z=>z.1.1) (fun z=>(z.1.2.2.2.1,z.1.2.2.2.2.1)) (fun _=>rfl) (fun _=>rfl) (fun _ _ _ h=>h) ?_
 intro x v; kernel_rfl
def Ns (x0:List aL):Tree (List Str) :=
 .bnd (.loop (fun v=>Ag x0 v.1 v.2) ([],0)) fun r1 =>
 .ret r1
def DF:aA:=⟨27,(.cons (.val false (.list bH)) .nil),.vals (.val false (.list .str)),fun z=>Ns z.1,([]:List Str)⟩
theorem Ie:DF.ok Tryz.prog:=by
 refine aA.lift mix aI bq _ Tryz.func27 (c:=(ak Tryz.f27)) (by kernel_rfl) (o:=aO [Nq] [Nr] aU) (aR ⟨VD,trivial⟩) (aQ [aP (aK (ak Tryz.f27)) 0] (by kernel_rfl) ⟨afg,trivial⟩ (by kernel_rfl)) ?_
 intro z; kernel_rfl
def Ig:Nat->List Pre
 | 5=>[.gP 0]
 | _=>[]
def Ah (l:List Entry) (n:Int) (m:List aL) (racks:List Str) (each:Int) (lists:List (List Str)) (i:Int):Tree (Int⊕(Bool⊕Unit)) :=
 .ite (decide (i<(lists.length:Int))) (
 ask (aD i lists.length) <|
 .ite (!decide (((lists.getD i.toNat ([]:List Str)).length:Int)=each)) (
 .ret (.inr (.inl false))) (
 .ret (.inl (ay (i+1))))) (
 .ret (.inr (.inr ())))
def Nt:Lp:=⟨11,[],[],(.cons (.val false (.list bf)) (aJ (.cons (.val false (.int .i64)) (.cons (.val false (.list bH)) (.cons (.val false (.list .str)) (.cons (.val false (.int .i64)) (.cons (.own 1) (.cons (.val false (.int .i64)) (ca (aF (bB (aZ (aZ (aZ .nil)))))))))))))),(.dead (.rows 23 (.list .str) .nil)),0,.more 0 [] (aJ (.cons (.val false .bool) (ca (ca8 (bB (aZ (aZ (aZ .nil)))))))) .nil (.one 1 [] (.cons (.val false (.list bf)) (aJ (.cons (.val false (.int .i64)) (.cons (.val false (.list bH)) (.cons (.val false (.list .str)) (.cons (.val false (.int .i64)) (ca (aJ (bB (aZ (aZ (aZ .nil)))))))))))) .nil),fun z=>.bnd (.loop (fun v=>Ah z.1.1 z.1.2.2.2.2.2.1 z.1.2.2.2.2.2.2.1 z.1.2.2.2.2.2.2.2.1 z.1.2.2.2.2.2.2.2.2.1 z.2.1 v) z.1.2.2.2.2.2.2.2.2.2.2.1) fun r=>.sum r (fun a0=>.ret (.inl ((ai (a0,(cu (az (aC (aj (aj (aj ())))))))),()))) (fun b0=>.ret (.inr ((z.1.1,(ai (z.1.2.2.2.2.2.1,z.1.2.2.2.2.2.2.1,z.1.2.2.2.2.2.2.2.1,z.1.2.2.2.2.2.2.2.2.1,(cu (ai (aC (aj (aj (aj ()))))))))),())))⟩
theorem afh:Nt.ok Tryz.prog (aP (aK (ak Tryz.f5)) 0):=by
 refine Lp.lift (π:=((List Entry)×Int×(List aL)×(List Str)×Int×(List (List Str)))) (V:=Int) (ρ:=(Bool⊕Unit)) mix aI Nt (o:=aO [wU,uu,uo,lV,DF,lT,uh,zF,De,uj] [] Ig) (aR ⟨Ab,wV,wP,lW,Ie,lU,wL,zG,Df,wM,trivial⟩) (aQ [] (by kernel_rfl) trivial rfl) (fun x v=>((x.1,(ai (x.2.1,x.2.2.1,x.2.2.2.1,x.2.2.2.2.1,(),v,(cu (ah (aC (aj (aj (aj ()))))))))),x.2.2.2.2.2,())) (fun x r=>match r with | .inl a0=>.inl ((ai (a0,(cu (az (aC (aj (aj (aj ())))))))),()) | .inr b0=>(.inr ((x.1,(ai (x.2.1,x.2.2.1,x.2.2.2.1,x.2.2.2.2.1,(cu (ai (aC (aj (aj (aj ()))))))))),()))) (fun x v=>Ah x.1 x.2.1 x.2.2.1 x.2.2.2.1 x.2.2.2.2.1 x.2.2.2.2.2 v) (fun x r=>.sum r (fun a0=>.ret (.inl ((ai (a0,(cu (az (aC (aj (aj (aj ())))))))),()))) (fun b0=>.ret (.inr ((x.1,(ai (x.2.1,x.2.2.1,x.2.2.2.1,x.2.2.2.2.1,(cu (ai (aC (aj (aj (aj ()))))))))),())))) (fun z=>(z.1.1,z.1.2.2.2.2.2.1,z.1.2.2.2.2.2.2.1,z.1.2.2.2.2.2.2.2.1,z.1.2.2.2.2.2.2.2.2.1,z.2.1)) (fun z=>z.1.2.2.2.2.2.2.2.2.2.2.1) (fun _=>rfl) (fun _=>rfl) (fun x r Q h=>match r,h with | .inl _,h=>h | .inr b0,h=>(h)) ?_
 intro x v; kernel_rfl
def wW (l:List Entry) (n:Int) (m:List aL) (racks:List Str) (each:Int) (s_:List dK) (kept:Int) (owned:Int) (i:Int):Tree ((Int×Int×Int)⊕(Int×Int)) :=
 .ite (decide (i<(s_.length:Int))) (
 ask (aD i s_.length) <|
 ask (aD i s_.length) <|
 .ret (.inl ((ay (kept+(s_.getD i.toNat (aS fQ:dK)).2.2)),(ay (owned+(s_.getD i.toNat (aS fQ:dK)).2.1)),(ay (i+1))))) (
 .ret (.inr (kept,owned)))
def Nu:Lp:=⟨18,[],[],(.cons (.val false (.list bf)) (aJ (.cons (.val false (.int .i64)) (.cons (.val false (.list bH)) (.cons (.val false (.list .str)) (.cons (.val false (.int .i64)) (aF (.cons (.own 0) (.cons (.val false (.int .i64)) (.cons (.val false (.int .i64)) (.cons (.val false (.int .i64)) (ca (aF (aJ (ca8 (aZ (aZ (aZ .nil)))))))))))))))))),(.rows 45 fQ .nil),0,.one 3 [] (.cons (.val false (.list bf)) (aJ (.cons (.val false (.int .i64)) (.cons (.val false (.list bH)) (.cons (.val false (.list .str)) (.cons (.val false (.int .i64)) (aF (.cons (.own 0) (.cons (.val false (.int .i64)) (.cons (.val false (.int .i64)) (bB (aZ (aZ (aZ .nil)))))))))))))) (.rows 45 fQ .nil),fun z=>.bnd (.loop (fun v=>wW z.1.1 z.1.2.2.2.2.2.1 z.1.2.2.2.2.2.2.1 z.1.2.2.2.2.2.2.2.1 z.1.2.2.2.2.2.2.2.2.1 z.2.1 v.1 v.2.1 v.2.2) (z.1.2.2.2.2.2.2.2.2.2.2.2.2.1,z.1.2.2.2.2.2.2.2.2.2.2.2.2.2.1,z.1.2.2.2.2.2.2.2.2.2.2.2.2.2.2.1)) fun r=>.ret ((z.1.1,(ai (z.1.2.2.2.2.2.1,z.1.2.2.2.2.2.2.1,z.1.2.2.2.2.2.2.2.1,z.1.2.2.2.2.2.2.2.2.1,(ah ((),r.1,r.2,(aC (aj (aj (aj ()))))))))),z.2.1,())⟩
theorem afi:Nu.ok Tryz.prog (aP (aK (ak Tryz.f5)) 1):=by
 refine Lp.lift (π:=((List Entry)×Int×(List aL)×(List Str)×Int×(List dK))) (V:=(Int×Int×Int)) (ρ:=(Int×Int)) mix aI Nu (o:=aO [wU,uu,uo,lV,DF,lT,uh,zF,De,uj] [] Ig) (aR ⟨Ab,wV,wP,lW,Ie,lU,wL,zG,Df,wM,trivial⟩) (aQ [] (by kernel_rfl) trivial rfl) (fun x v=>((x.1,(ai (x.2.1,x.2.2.1,x.2.2.2.1,x.2.2.2.2.1,(ah ((),v.1,v.2.1,v.2.2,(cu (ah (ai (az (aj (aj (aj ())))))))))))),x.2.2.2.2.2,())) (fun x r=>((x.1,(ai (x.2.1,x.2.2.1,x.2.2.2.1,x.2.2.2.2.1,(ah ((),r.1,r.2,(aC (aj (aj (aj ()))))))))),x.2.2.2.2.2,())) (fun x v=>wW x.1 x.2.1 x.2.2.1 x.2.2.2.1 x.2.2.2.2.1 x.2.2.2.2.2 v.1 v.2.1 v.2.2) (fun x r=>.ret ((x.1,(ai (x.2.1,x.2.2.1,x.2.2.2.1,x.2.2.2.2.1,(ah ((),r.1,r.2,(aC (aj (aj (aj ()))))))))),x.2.2.2.2.2,())) (fun z=>(z.1.1,z.1.2.2.2.2.2.1,z.1.2.2.2.2.2.2.1,z.1.2.2.2.2.2.2.2.1,z.1.2.2.2.2.2.2.2.2.1,z.2.1)) (fun z=>(z.1.2.2.2.2.2.2.2.2.2.2.2.2.1,z.1.2.2.2.2.2.2.2.2.2.2.2.2.2.1,z.1.2.2.2.2.2.2.2.2.2.2.2.2.2.2.1)) (fun _=>rfl) (fun _=>rfl) (fun _ _ _ h=>h) ?_
 intro x v; kernel_rfl
def rH (l:List Entry) (n:Int) (racks:List Str) (i:Int):Tree (Int⊕(Bool⊕Unit)) :=
 .ite ((decide (i<(racks.length:Int)))&&(decide ((1:Int)<(racks.length:Int)))) (
 ask (aD i racks.length) <|
 .bnd (wO l (racks.getD i.toNat ([]:Str))) fun y1 =>
 .bnd (ui l n y1) fun y2 =>
 .dH (!(decide ((0:Int)<(y2.length:Int)))) (zC l n y1) (0:Int) fun y3 =>
 .ite ((decide ((0:Int)<(y2.length:Int)))||(decide (y3<1))) (
 .ret (.inr (.inl false))) (
 .ret (.inl (ay (i+1))))) (
 .ret (.inr (.inr ())))
def Nv:Lp:=⟨25,[],[],(.cons (.val false (.list bf)) (aJ (.cons (.val false (.int .i64)) (ca (.cons (.val false (.list .str)) (ca (aF (aJ (.cons (.val false (.int .i64)) (aF (aJ (ca8 (aZ (aZ (aZ .nil))))))))))))))),.nil,0,.more 0 [] (aJ (.cons (.val false .bool) (ca (ca8 (bB (aZ (aZ (aZ .nil)))))))) .nil (.one 5 [] (aF (aJ (ca8 (bB (aZ (aZ (aZ .nil))))))) .nil),fun z=>.bnd (.loop (fun v=>rH z.1.1 z.1.2.2.2.2.2.1 z.1.2.2.2.2.2.2.2.1 v) z.1.2.2.2.2.2.2.2.2.2.2.2.2.2.2.2.1) fun r=>.sum r (fun a0=>.ret (.inl ((ai (a0,(cu (az (aC (aj (aj (aj ())))))))),()))) (fun b0=>.ret (.inr ((ah (ai (az (aC (aj (aj (aj ()))))))),())))⟩
theorem afj:Nv.ok Tryz.prog (aP (aK (ak Tryz.f5)) 2):=by
 refine Lp.lift (π:=((List Entry)×Int×(List Str))) (V:=Int) (ρ:=(Bool⊕Unit)) mix aI Nv (o:=aO [wU,uu,uo,lV,DF,lT,uh,zF,De,uj] [] Ig) (aR ⟨Ab,wV,wP,lW,Ie,lU,wL,zG,Df,wM,trivial⟩) (aQ [] (by kernel_rfl) trivial rfl) (fun x v=>((x.1,(ai (x.2.1,(cu (x.2.2,(cu (ah (ai (v,(ah (ai (az (aj (aj (aj ()))))))))))))))),())) (fun x r=>match r with | .inl a0=>.inl ((ai (a0,(cu (az (aC (aj (aj (aj ())))))))),()) | .inr b0=>(.inr ((ah (ai (az (aC (aj (aj (aj ()))))))),()))) (fun x v=>rH x.1 x.2.1 x.2.2 v) (fun x r=>.sum r (fun a0=>.ret (.inl ((ai (a0,(cu (az (aC (aj (aj (aj ())))))))),()))) (fun b0=>.ret (.inr ((ah (ai (az (aC (aj (aj (aj ()))))))),())))) (fun z=>(z.1.1,z.1.2.2.2.2.2.1,z.1.2.2.2.2.2.2.2.1)) (fun z=>z.1.2.2.2.2.2.2.2.2.2.2.2.2.2.2.2.1) (fun _=>rfl) (fun _=>rfl) (fun x r Q h=>match r,h with | .inl _,h=>h | .inr b0,h=>(h)) ?_
 intro x v; kernel_rfl
def Nw (x0:List Entry) (x1:Int):Tree Bool :=
 .bnd (Ac x0) fun y1 =>
 .dH (!(!y1)) (wJ x0) false fun y2 =>
 .ite ((!y1)||(!y2)) (
 .bnd rF fun y3 =>
 .ret y3) (
 ask (!decide ((15:Int)=0)) <|
 .bnd (qA x0) fun y4 =>
 .bnd (Ns y4) fun y5 =>
 .bnd (qx x0 (ay ((2:Int)+((ay (x1)).tmod 15)))) fun y6 =>
 .ite (!decide ((y6.length:Int)=16)) (
 .ret false) (
 .bnd (.loop (fun v=>Ah x0 (ay ((2:Int)+((ay (x1)).tmod 15))) y4 y5 (ae.jh (ay ((2:Int)+((ay (x1)).tmod 15))) (y4.length:Int)) y6 v) 0) fun r7 =>
 .sum r7 (fun r8 =>
 .ret r8) (fun r9 =>
 .bnd (ug x0 (ay ((2:Int)+((ay (x1)).tmod 15)))) fun y10 =>
 .bnd (.loop (fun v=>wW x0 (ay ((2:Int)+((ay (x1)).tmod 15))) y4 y5 (ae.jh (ay ((2:Int)+((ay (x1)).tmod 15))) (y4.length:Int)) y10 v.1 v.2.1 v.2.2) (0,0,0)) fun r11 =>
 .ite (((!decide (r11.1=(ay ((ae.jh (ay ((2:Int)+((ay (x1)).tmod 15))) (y4.length:Int))*16))))||(decide ((16:Int)<r11.2)))||(!decide ((y10.length:Int)=(y4.length:Int)))) (
 .ret false) (
 .bnd (.loop (fun v=>rH x0 (ay ((2:Int)+((ay (x1)).tmod 15))) y5 v) 0) fun r12 =>
 .sum r12 (fun r13 =>
 .ret r13) (fun r14 =>
 .bnd rF fun y15 =>
 .ret y15)))))
def DI:aA:=⟨5,(.cons (.val false (.list bf)) (.cons (.val false (.int .u8)) .nil)),.vals (.val false .bool),fun z=>Nw z.1 z.2.1,false⟩
theorem afk:DI.ok Tryz.prog:=by
 refine aA.lift mix aI bq _ Tryz.func5 (c:=(ak Tryz.f5)) (by kernel_rfl) (o:=aO [wU,uu,uo,lV,DF,lT,uh,zF,De,uj] [Nt,Nu,Nv] Ig) (aR ⟨Ab,wV,wP,lW,Ie,lU,wL,zG,Df,wM,trivial⟩) (aQ [aP (aK (ak Tryz.f5)) 0,aP (aK (ak Tryz.f5)) 1,aP (aK (ak Tryz.f5)) 2] (by kernel_rfl) ⟨afh,afi,afj,trivial⟩ (by kernel_rfl)) ?_
 intro z; kernel_rfl
end
end Go.aT
