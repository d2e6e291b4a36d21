/- Lifted: 129 functions, part 1. -/
import Derived.Test.YtjkhncojgilbaaaGreatDoorTrG
import Derived.Test.YtjkhncojgilbaaaGreatDoorTrF
import Derived.Test.YtjkhncojgilbaaaGreatDoorGlp
import Derived.Test.YtjkhncojgilbaaaGreatDoorShf
import Derived.Test.YtjkhncojgilbaaaGreatDoorTrM
namespace Go.aT
open Go Go.Proofs
set_option maxRecDepth 100000
noncomputable section
abbrev dK:Type:=(Str×(Int×Int))
abbrev fQ:Ty:=(.pair .str (.pair (.int .i64) (.int .i64)))
abbrev aL:Type:=(Str×(Str×(Str×Bool)))
abbrev bH:Ty:=(.pair .str (.pair .str (.pair .str .bool)))
abbrev ik:Type:=(Int×(Str×Str))
abbrev jY:Ty:=(.pair (.int .i64) (.pair .str .str))
abbrev Entry:Type:=(Str×ik)
abbrev bf:Ty:=(.pair .str jY)
def LQ (x0:ik):Tree Bool :=
 .ret ((decide ((x0.2.1.length:Int)<=100))&&(decide ((x0.2.2.length:Int)<=300)))
def Ny:aA:=⟨44,(.cons (.val true jY) .nil),.vals (.val false .bool),fun z=>LQ z.1,false⟩
theorem VE:Ny.ok Tryz.prog:=by
 refine aA.lift mix aI bq _ Tryz.func44 (c:=(ak Tryz.f44)) (by kernel_rfl) (o:=aO [] [] aU) (aR trivial) (aQ [] (by kernel_rfl) trivial rfl) ?_
 intro z; kernel_rfl
def zt (l:List Entry) (most:Int) (i:Int):Tree (Int⊕(Bool⊕Unit)) :=
 .ite ((decide (i<(l.length:Int)))&&(decide (i<most))) (
 ask (aD i l.length) <|
 ask ((!(!(decide ((200:Int)<((l.getD i.toNat (aS bf:Entry)).1.length:Int)))))||aD i l.length) <|
 .dH (!(decide ((200:Int)<((l.getD i.toNat (aS bf:Entry)).1.length:Int)))) (LQ (l.getD i.toNat (aS bf:Entry)).2) false fun y1 =>
 .ite ((decide ((200:Int)<((l.getD i.toNat (aS bf:Entry)).1.length:Int)))||(!y1)) (
 .ret (.inr (.inl false))) (
 .ret (.inl (ay (i+1))))) (
 .ret (.inr (.inr ())))
def Nz:Lp:=⟨2,[],[],(.cons (.val false (.list bf)) (.cons (.val false (.int .i64)) (ca (aF (.cons (.val false (.int .i64)) (ca (aF (aJ (ca8 (bB .nil)))))))))),.nil,0,.more 0 [] (aJ (.cons (.val false .bool) (aZ .nil))) .nil (.one 1 [] (.cons (.val false (.list bf)) (.cons (.val false (.int .i64)) (ca (aF (aZ .nil))))) .nil),fun z=>.bnd (.loop (fun v=>zt z.1.1 z.1.2.1 v) z.1.2.2.2.2.2.1) fun r=>.sum r (fun a0=>.ret (.inl ((ai (a0,(aj ()))),()))) (fun b0=>.ret (.inr ((z.1.1,z.1.2.1,(cu (ah (aj ())))),())))⟩
theorem afl:Nz.ok Tryz.prog (aP (aK (ak Tryz.f20)) 0):=by
 refine Lp.lift (π:=((List Entry)×Int)) (V:=Int) (ρ:=(Bool⊕Unit)) mix aI Nz (o:=aO [Ny] [] aU) (aR ⟨VE,trivial⟩) (aQ [] (by kernel_rfl) trivial rfl) (fun x v=>((x.1,x.2,(cu (ah (v,(cu (ah (ai (az (aC ()))))))))),())) (fun x r=>match r with | .inl a0=>.inl ((ai (a0,(aj ()))),()) | .inr b0=>(.inr ((x.1,x.2,(cu (ah (aj ())))),()))) (fun x v=>zt x.1 x.2 v) (fun x r=>.sum r (fun a0=>.ret (.inl ((ai (a0,(aj ()))),()))) (fun b0=>.ret (.inr ((x.1,x.2,(cu (ah (aj ())))),())))) (fun z=>(z.1.1,z.1.2.1)) (fun z=>z.1.2.2.2.2.2.1) (fun _=>rfl) (fun _=>rfl) (fun x r Q h=>match r,h with | .inl _,h=>h | .inr b0,h=>(h)) ?_
 intro x v; kernel_rfl
def CU (x0:List Entry) (x1:Int):Tree Bool :=
 .bnd (.loop (fun v=>zt x0 x1 v) 0) fun r1 =>
 .sum r1 (fun r2 =>
 .ret r2) (fun r3 =>
 .ret (decide ((x0.length:Int)<=x1)))
def Nn:aA:=⟨20,(.cons (.val false (.list bf)) (.cons (.val false (.int .i64)) .nil)),.vals (.val false .bool),fun z=>CU z.1 z.2.1,false⟩
theorem VC:Nn.ok Tryz.prog:=by
 refine aA.lift mix aI bq _ Tryz.func20 (c:=(ak Tryz.f20)) (by kernel_rfl) (o:=aO [Ny] [Nz] aU) (aR ⟨VE,trivial⟩) (aQ [aP (aK (ak Tryz.f20)) 0] (by kernel_rfl) ⟨afl,trivial⟩ (by kernel_rfl)) ?_
 intro z; kernel_rfl
def zq (l:List Entry) (path:Str) (i:Int) (out:List Entry):Tree ((Int×(List Entry))⊕(List Entry)) :=
 .ite (decide (i<(l.length:Int))) (
 ask (aD i l.length) <|
 ask ((!(decide ((path.length:Int)<((l.getD i.toNat (aS bf:Entry)).1.length:Int))))||df (path.length:Int) (l.getD i.toNat (aS bf:Entry)).1.length) <|
 ask ((!((decide ((path.length:Int)<((l.getD i.toNat (aS bf:Entry)).1.length:Int)))&&((jd (l.getD i.toNat (aS bf:Entry)).1 0 (path.length:Int).toNat)==path)))||aD (path.length:Int) (l.getD i.toNat (aS bf:Entry)).1.length) <|
 .ite (((decide ((path.length:Int)<((l.getD i.toNat (aS bf:Entry)).1.length:Int)))&&((jd (l.getD i.toNat (aS bf:Entry)).1 0 (path.length:Int).toNat)==path))&&(decide ((gU (l.getD i.toNat (aS bf:Entry)).1 (path.length:Int))=47))) (
 ask (aD i l.length) <|
 ask (decide ((out++[(l.getD i.toNat (aS bf:Entry))]).length*56<=bD)) <|
 .ret (.inl ((ay (i+1)),(out++[(l.getD i.toNat (aS bf:Entry))])))) (
 .ret (.inl ((ay (i+1)),out)))) (
 .ret (.inr out))
def NA:Lp:=⟨3,[.own 5 65 bf],[],(.cons (.val false (.list bf)) (.cons (.val false .str) (ca (aF (.cons (.own 0) (.cons (.val false (.int .i64)) (ca8 (aZ .nil)))))))),(.rows 65 bf .nil),0,.one 1 [] (ca (aJ (.cons (.own 0) (ca (ca8 (aZ .nil)))))) (.rows 65 bf .nil),fun z=>.bnd (.loop (fun v=>zq z.1.1 z.1.2.1 v.1 v.2) (z.1.2.2.2.2.2.2.1,z.2.1)) fun r=>.ret ((cu (ai ((),(cu (az (aj ())))))),r,())⟩
theorem afm:NA.ok Tryz.prog (aP (aK (ak Tryz.f48)) 0):=by
 refine Lp.lift (π:=((List Entry)×Str)) (V:=(Int×(List Entry))) (ρ:=List Entry) mix aI NA (o:=aO [] [] aU) (aR trivial) (aQ [] (by kernel_rfl) trivial rfl) (fun x v=>((x.1,x.2,(cu (ah ((),v.1,(az (aj ())))))),v.2,())) (fun x r=>((cu (ai ((),(cu (az (aj ())))))),r,())) (fun x v=>zq x.1 x.2 v.1 v.2) (fun x r=>.ret ((cu (ai ((),(cu (az (aj ())))))),r,())) (fun z=>(z.1.1,z.1.2.1)) (fun z=>(z.1.2.2.2.2.2.2.1,z.2.1)) (fun _=>rfl) (fun _=>rfl) (fun _ _ _ h=>h) ?_
 intro x v; kernel_rfl
def GV (x0:List Entry) (x1:Str):Tree (List Entry) :=
 .bnd (.loop (fun v=>zq x0 x1 v.1 v.2) (0,([]:List Entry))) fun r1 =>
 .ret r1
def NB:aA:=⟨48,(.cons (.val false (.list bf)) (.cons (.val false .str) .nil)),.fresh 65 bf,fun z=>GV z.1 z.2.1,([]:List Entry)⟩
theorem VF:NB.ok Tryz.prog:=by
 refine aA.lift mix aI bq _ Tryz.func48 (c:=(ak Tryz.f48)) (by kernel_rfl) (o:=aO [] [NA] aU) (aR trivial) (aQ [aP (aK (ak Tryz.f48)) 0] (by kernel_rfl) ⟨afm,trivial⟩ (by kernel_rfl)) ?_
 intro z; kernel_rfl
def rJ (s_:Str) (from_:Int) (i:Int) (out:List Str):Tree ((Int×Int×(List Str))⊕(Int×(List Str))) :=
 .ite (decide (i<(s_.length:Int))) (
 ask (aD i s_.length) <|
 .ite (decide ((gU s_ i)=47)) (
 ask (df i s_.length) <|
 ask (df from_ i.toNat) <|
 ask (decide ((out++[(jd s_ from_.toNat i.toNat)]).length*16<=bD)) <|
 .ret (.inl ((ay (i+1)),(ay (i+1)),(out++[(jd s_ from_.toNat i.toNat)])))) (
 .ret (.inl (from_,(ay (i+1)),out)))) (
 .ret (.inr (from_,out)))
def NC:Lp:=⟨6,[.own 3 9 .str],[],(.cons (.val false .str) (aF (.cons (.own 0) (.cons (.val false (.int .i64)) (.cons (.val false (.int .i64)) (aJ (ca8 (bB .nil)))))))),(.rows 9 .str .nil),0,.one 1 [] (.cons (.val false .str) (aF (.cons (.own 0) (.cons (.val false (.int .i64)) (ca (aJ (ca8 (bB .nil)))))))) (.rows 9 .str .nil),fun z=>.bnd (.loop (fun v=>rJ z.1.1 v.1 v.2.1 v.2.2) (z.1.2.2.2.2.1,z.1.2.2.2.2.2.1,z.2.1)) fun r=>.ret ((z.1.1,(ah ((),r.1,(cu (ai (az (aC ()))))))),r.2,())⟩
theorem afn:NC.ok Tryz.prog (aP (aK (ak Tryz.f76)) 0):=by
 refine Lp.lift (π:=Str) (V:=(Int×Int×(List Str))) (ρ:=(Int×(List Str))) mix aI NC (o:=aO [] [] aU) (aR trivial) (aQ [] (by kernel_rfl) trivial rfl) (fun x v=>((x,(ah ((),v.1,v.2.1,(ai (az (aC ())))))),v.2.2,())) (fun x r=>((x,(ah ((),r.1,(cu (ai (az (aC ()))))))),r.2,())) (fun x v=>rJ x v.1 v.2.1 v.2.2) (fun x r=>.ret ((x,(ah ((),r.1,(cu (ai (az (aC ()))))))),r.2,())) (fun z=>z.1.1) (fun z=>(z.1.2.2.2.2.1,z.1.2.2.2.2.2.1,z.2.1)) (fun _=>rfl) (fun _=>rfl) (fun _ _ _ h=>h) ?_
 intro x v; kernel_rfl
def Ih (x0:Str):Tree (List Str) :=
 .ite (x0==([]:Str)) (
 .ret []) (
 .bnd (.loop (fun v=>rJ x0 v.1 v.2.1 v.2.2) (0,0,([]:List Str))) fun r1 =>
 ask (df r1.1 x0.length) <|
 ask (decide ((r1.2++[(jd x0 r1.1.toNat x0.length)]).length*16<=bD)) <|
 .ret (r1.2++[(jd x0 r1.1.toNat x0.length)]))
def VG:aA:=⟨76,(.cons (.val false .str) .nil),.fresh 9 .str,fun z=>Ih z.1,([]:List Str)⟩
theorem afo:VG.ok Tryz.prog:=by
 refine aA.lift mix aI bq _ Tryz.func76 (c:=(ak Tryz.f76)) (by kernel_rfl) (o:=aO [] [NC] aU) (aR trivial) (aQ [aP (aK (ak Tryz.f76)) 0] (by kernel_rfl) ⟨afn,trivial⟩ (by kernel_rfl)) ?_
 intro z; kernel_rfl
def zh (s_:Str) (i:Int):Tree (Int⊕(Bool⊕Unit)) :=
 .ite (decide (i<(s_.length:Int))) (
 ask (aD i s_.length) <|
 ask ((!(!(decide ((gU s_ i)<97))))||aD i s_.length) <|
 ask ((!((decide ((gU s_ i)<97))||(decide ((122:Int)<(gU s_ i)))))||aD i s_.length) <|
 ask ((!(((decide ((gU s_ i)<97))||(decide ((122:Int)<(gU s_ i))))&&(!(decide ((gU s_ i)<48)))))||aD i s_.length) <|
 ask ((!(((decide ((gU s_ i)<97))||(decide ((122:Int)<(gU s_ i))))&&((decide ((gU s_ i)<48))||(decide ((57:Int)<(gU s_ i))))))||aD i s_.length) <|
 .ite ((((decide ((gU s_ i)<97))||(decide ((122:Int)<(gU s_ i))))&&((decide ((gU s_ i)<48))||(decide ((57:Int)<(gU s_ i)))))&&(!decide ((gU s_ i)=45))) (
 .ret (.inr (.inl false))) (
 .ret (.inl (ay (i+1))))) (
 .ret (.inr (.inr ())))
def ND:Lp:=⟨2,[],[],(.cons (.val false .str) (aF (.cons (.val false (.int .i64)) (aF (ca8 (aZ .nil)))))),.nil,0,.more 0 [] (aF (.cons (.val false .bool) (ca (aF (ca8 (aZ .nil)))))) .nil (.one 1 [] (.cons (.val false .str) (ca (aJ (ca8 (aZ .nil))))) .nil),fun z=>.bnd (.loop (fun v=>zh z.1.1 v) z.1.2.2.2.1) fun r=>.sum r (fun a0=>.ret (.inl ((ah (a0,(cu (ah (az (aj ())))))),()))) (fun b0=>.ret (.inr ((z.1.1,(cu (ai (az (aj ()))))),())))⟩
theorem afp:ND.ok Tryz.prog (aP (aK (ak Tryz.f52)) 0):=by
 refine Lp.lift (π:=Str) (V:=Int) (ρ:=(Bool⊕Unit)) mix aI ND (o:=aO [] [] aU) (aR trivial) (aQ [] (by kernel_rfl) trivial rfl) (fun x v=>((x,(ah (v,(ah (az (aj ())))))),())) (fun x r=>match r with | .inl a0=>.inl ((ah (a0,(cu (ah (az (aj ())))))),()) | .inr b0=>(.inr ((x,(cu (ai (az (aj ()))))),()))) (fun x v=>zh x v) (fun x r=>.sum r (fun a0=>.ret (.inl ((ah (a0,(cu (ah (az (aj ())))))),()))) (fun b0=>.ret (.inr ((x,(cu (ai (az (aj ()))))),())))) (fun z=>z.1.1) (fun z=>z.1.2.2.2.1) (fun _=>rfl) (fun _=>rfl) (fun x r Q h=>match r,h with | .inl _,h=>h | .inr b0,h=>(h)) ?_
 intro x v; kernel_rfl
def mG (x0:Str):Tree Bool :=
 .bnd (.loop (fun v=>zh x0 v) 0) fun r1 =>
 .sum r1 (fun r2 =>
 .ret r2) (fun r3 =>
 .ret ((decide ((1:Int)<=(x0.length:Int)))&&(decide ((x0.length:Int)<=16))))
def oN:aA:=⟨52,(.cons (.val false .str) .nil),.vals (.val false .bool),fun z=>mG z.1,false⟩
theorem qy:oN.ok Tryz.prog:=by
 refine aA.lift mix aI bq _ Tryz.func52 (c:=(ak Tryz.f52)) (by kernel_rfl) (o:=aO [] [ND] aU) (aR trivial) (aQ [aP (aK (ak Tryz.f52)) 0] (by kernel_rfl) ⟨afp,trivial⟩ (by kernel_rfl)) ?_
 intro z; kernel_rfl
def afq:Nat->List Pre
 | 4=>[.two]
 | _=>[]
def DJ (x0:Str) (x1:Str):Tree (aL×Bool×Unit) :=
 .bnd (Ih x1) fun y1 =>
 .bnd (mG x0) fun y2 =>
 ask ((!(!((!y2)||(!decide ((y1.length:Int)=3)))))||aD 0 y1.length) <|
 .dH (!((!y2)||(!decide ((y1.length:Int)=3)))) (mG (y1.getD ((0:Int).toNat) ([]:Str))) false fun y3 =>
 ask ((!(!(((!y2)||(!decide ((y1.length:Int)=3)))||(!y3))))||aD 1 y1.length) <|
 .dH (!(((!y2)||(!decide ((y1.length:Int)=3)))||(!y3))) (mG (y1.getD ((1:Int).toNat) ([]:Str))) false fun y4 =>
 ask ((!(!((((!y2)||(!decide ((y1.length:Int)=3)))||(!y3))||(!y4))))||aD 2 y1.length) <|
 ask ((!((!((((!y2)||(!decide ((y1.length:Int)=3)))||(!y3))||(!y4)))&&(!((y1.getD ((2:Int).toNat) ([]:Str))==([117,112]:Str)))))||aD 2 y1.length) <|
 .ite (((((!y2)||(!decide ((y1.length:Int)=3)))||(!y3))||(!y4))||((!((y1.getD ((2:Int).toNat) ([]:Str))==([117,112]:Str)))&&(!((y1.getD ((2:Int).toNat) ([]:Str))==([100,111,119,110]:Str))))) (
 .ret (([],[],[],false),false,())) (
 ask (aD 0 y1.length) <|
 ask (aD 1 y1.length) <|
 ask (aD 2 y1.length) <|
 .ret ((x0,(y1.getD ((0:Int).toNat) ([]:Str)),(y1.getD ((1:Int).toNat) ([]:Str)),((y1.getD ((2:Int).toNat) ([]:Str))==([117,112]:Str))),true,()))
def NF:aA:=⟨49,(.cons (.val false .str) (.cons (.val false .str) .nil)),.vals (.cons (.val true bH) (.cons (.val false .bool) .nil)),fun z=>DJ z.1 z.2.1,((aS bH:aL),false,())⟩
theorem VH:NF.ok Tryz.prog:=by
 refine aA.lift mix aI bq _ Tryz.func49 (c:=(ak Tryz.f49)) (by kernel_rfl) (o:=aO [VG,oN] [] afq) (aR ⟨afo,qy,trivial⟩) (aQ [] (by kernel_rfl) trivial rfl) ?_
 intro z; kernel_rfl
def VI:Nat->List Pre
 | 6=>[.gP 0]
 | _=>[]
def Ai (under:List Entry) (i:Int) (out:List aL):Tree ((Int×(List aL))⊕(List aL)) :=
 .ite (decide (i<(under.length:Int))) (
 ask (aD i under.length) <|
 ask (df 5 (under.getD i.toNat (aS bf:Entry)).1.length) <|
 ask (aD i under.length) <|
 .both (
 .bnd (DJ (jd (under.getD i.toNat (aS bf:Entry)).1 (5:Int).toNat (under.getD i.toNat (aS bf:Entry)).1.length) (under.getD i.toNat (aS bf:Entry)).2.2.2) fun y2 =>
 (fun q9=>.both (.both q9 (.both q9 q9)) (.both (.both q9 q9) (.both (.both q9 q9) q9))) (.ite y2.2.1 (
 ask (decide ((out++[y2.1]).length*56<=bD)) <|
 .ret (.inl ((ay (i+1)),(out++[y2.1])))) (
 .ret (.inl ((ay (i+1)),out))))) (
 .bnd (DJ (jd (under.getD i.toNat (aS bf:Entry)).1 (5:Int).toNat (under.getD i.toNat (aS bf:Entry)).1.length) (under.getD i.toNat (aS bf:Entry)).2.2.2) fun y1 =>
 (fun q9=>.both (.both q9 q9) q9) (.ite y1.2.1 (
 ask (decide ((out++[y1.1]).length*56<=bD)) <|
 .ret (.inl ((ay (i+1)),(out++[y1.1])))) (
 .ret (.inl ((ay (i+1)),out)))))) (
 .ret (.inr out))
def NG:Lp:=⟨4,[.own 3 51 bH,.gP 0],[],(ca (aF (.cons (.own 1) (.cons (.val false (.list bf)) (.cons (.val false (.int .i64)) (aZ .nil)))))),(.dead (.rows 51 bH .nil)),0,.one 1 [] (ca (aF (.cons (.own 1) (aF (aZ .nil))))) (.dead (.rows 51 bH .nil)),fun z=>.bnd (.loop (fun v=>Ai z.1.2.2.2.2.1 v.1 v.2) (z.1.2.2.2.2.2.1,z.2.1)) fun r=>.ret ((cu (ah ((),(ah (aj ()))))),r,())⟩
theorem afr:NG.ok Tryz.prog (aP (aK (ak Tryz.f26)) 0):=by
 refine Lp.lift (π:=List Entry) (V:=(Int×(List aL))) (ρ:=List aL) mix aI NG (o:=aO [NB,NF] [] VI) (aR ⟨VF,VH,trivial⟩) (aQ [] (by kernel_rfl) trivial rfl) (fun x v=>((cu (ah ((),x,v.1,(aj ())))),v.2,())) (fun x r=>((cu (ah ((),(ah (aj ()))))),r,())) (fun x v=>Ai x v.1 v.2) (fun x r=>.ret ((cu (ah ((),(ah (aj ()))))),r,())) (fun z=>z.1.2.2.2.2.1) (fun z=>(z.1.2.2.2.2.2.1,z.2.1)) (fun _=>rfl) (fun _=>rfl) (fun _ _ _ h=>h) ?_
 intro x v; kernel_rfl
def qA (x0:List Entry):Tree (List aL) :=
 .bnd (GV x0 ([110,111,100,101]:Str)) fun y1 =>
 .bnd (.loop (fun v=>Ai y1 v.1 v.2) (0,([]:List aL))) fun r2 =>
 .ret r2
def lV:aA:=⟨26,(.cons (.val false (.list bf)) .nil),.fresh 51 bH,fun z=>qA z.1,([]:List aL)⟩
theorem lW:lV.ok Tryz.prog:=by
 refine aA.lift mix aI bq _ Tryz.func26 (c:=(ak Tryz.f26)) (by kernel_rfl) (o:=aO [NB,NF] [NG] VI) (aR ⟨VF,VH,trivial⟩) (aQ [aP (aK (ak Tryz.f26)) 0] (by kernel_rfl) ⟨afr,trivial⟩ (by kernel_rfl)) ?_
 intro z; kernel_rfl
def VJ:aA:=⟨26,(.cons (.val false (.list bf)) .nil),.kJ 51 bH,fun z=>qA z.1,([]:List aL)⟩
theorem afs:VJ.ok Tryz.prog:=fun x y h=>oM (lW x y h)
def Ac (x0:List Entry):Tree Bool :=
 .bnd (CU x0 40) fun y1 =>
 .dH y1 (qA x0) ([]:List aL) fun y2 =>
 .ret (y1&&(decide ((y2.length:Int)<=6)))
def wU:aA:=⟨6,(.cons (.val false (.list bf)) .nil),.vals (.val false .bool),fun z=>Ac z.1,false⟩
theorem Ab:wU.ok Tryz.prog:=by
 refine aA.lift mix aI bq _ Tryz.func6 (c:=(ak Tryz.f6)) (by kernel_rfl) (o:=aO [Nn,VJ] [] aU) (aR ⟨VC,afs,trivial⟩) (aQ [] (by kernel_rfl) trivial rfl) ?_
 intro z; kernel_rfl
def Aj (l:List Str) (i:Int):Tree (Int⊕(Bool⊕Unit)) :=
 .ite ((decide (i<(l.length:Int)))&&(decide (i<20))) (
 ask (aD i l.length) <|
 .ite (decide ((1024:Int)<((l.getD i.toNat ([]:Str)).length:Int))) (
 .ret (.inr (.inl false))) (
 .ret (.inl (ay (i+1))))) (
 .ret (.inr (.inr ())))
def NH:Lp:=⟨2,[],[],(.cons (.val false (.list .str)) (aF (.cons (.val false (.int .i64)) (ca (aF (bB .nil)))))),.nil,0,.more 0 [] (aF (.cons (.val false .bool) (aJ (bB .nil)))) .nil (.one 1 [] (.cons (.val false (.list .str)) (aF (aJ (bB .nil)))) .nil),fun z=>.bnd (.loop (fun v=>Aj z.1.1 v) z.1.2.2.2.1) fun r=>.sum r (fun a0=>.ret (.inl ((ah (a0,(ai (aC ())))),()))) (fun b0=>.ret (.inr ((z.1.1,(ah (ai (aC ())))),())))⟩
theorem aft:NH.ok Tryz.prog (aP (aK (ak Tryz.f7)) 0):=by
 refine Lp.lift (π:=List Str) (V:=Int) (ρ:=(Bool⊕Unit)) mix aI NH (o:=aO [] [] aU) (aR trivial) (aQ [] (by kernel_rfl) trivial rfl) (fun x v=>((x,(ah (v,(cu (ah (aC ())))))),())) (fun x r=>match r with | .inl a0=>.inl ((ah (a0,(ai (aC ())))),()) | .inr b0=>(.inr ((x,(ah (ai (aC ())))),()))) (fun x v=>Aj x v) (fun x r=>.sum r (fun a0=>.ret (.inl ((ah (a0,(ai (aC ())))),()))) (fun b0=>.ret (.inr ((x,(ah (ai (aC ())))),())))) (fun z=>z.1.1) (fun z=>z.1.2.2.2.1) (fun _=>rfl) (fun _=>rfl) (fun x r Q h=>match r,h with | .inl _,h=>h | .inr b0,h=>(h)) ?_
 intro x v; kernel_rfl
def Ia (x0:List Str):Tree Bool :=
 .bnd (.loop (fun v=>Aj x0 v) 0) fun r1 =>
 .sum r1 (fun r2 =>
 .ret r2) (fun r3 =>
 .ret (decide ((x0.length:Int)<=20)))
def Nh:aA:=⟨7,(.cons (.val false (.list .str)) .nil),.vals (.val false .bool),fun z=>Ia z.1,false⟩
theorem Vz:Nh.ok Tryz.prog:=by
 refine aA.lift mix aI bq _ Tryz.func7 (c:=(ak Tryz.f7)) (by kernel_rfl) (o:=aO [] [NH] aU) (aR trivial) (aQ [aP (aK (ak Tryz.f7)) 0] (by kernel_rfl) ⟨aft,trivial⟩ (by kernel_rfl)) ?_
 intro z; kernel_rfl
def VK (x0:aL):Tree (Str×Int×Unit) :=
 .bnd (mG x0.2.1) fun y1 =>
 .dH (!(!y1)) (mG x0.2.2.1) false fun y2 =>
 .ite ((!y1)||(!y2)) (
 .ret (([]:Str),1,())) (
 .ite x0.2.2.2 (
 ask (decide (x0.2.1.length+([47]:Str).length<=9223372036854775807)) <|
 ask (decide ((x0.2.1++([47]:Str)).length+x0.2.2.1.length<=9223372036854775807)) <|
 ask (decide (((x0.2.1++([47]:Str))++x0.2.2.1).length+([47]:Str).length<=9223372036854775807)) <|
 ask (decide ((((x0.2.1++([47]:Str))++x0.2.2.1)++([47]:Str)).length+([117,112]:Str).length<=9223372036854775807)) <|
 .ret (((((x0.2.1++([47]:Str))++x0.2.2.1)++([47]:Str))++([117,112]:Str)),0,())) (
 ask (decide (x0.2.1.length+([47]:Str).length<=9223372036854775807)) <|
 ask (decide ((x0.2.1++([47]:Str)).length+x0.2.2.1.length<=9223372036854775807)) <|
 ask (decide (((x0.2.1++([47]:Str))++x0.2.2.1).length+([47]:Str).length<=9223372036854775807)) <|
 ask (decide ((((x0.2.1++([47]:Str))++x0.2.2.1)++([47]:Str)).length+([100,111,119,110]:Str).length<=9223372036854775807)) <|
 .ret (((((x0.2.1++([47]:Str))++x0.2.2.1)++([47]:Str))++([100,111,119,110]:Str)),0,())))
def NI:aA:=⟨51,(.cons (.val true bH) .nil),.vals (.cons (.val false .str) (.cons (.val false (.int .i64)) .nil)),fun z=>VK z.1,(([]:Str),(0:Int),())⟩
theorem VL:NI.ok Tryz.prog:=by
 refine aA.lift mix aI bq _ Tryz.func51 (c:=(ak Tryz.f51)) (by kernel_rfl) (o:=aO [oN] [] aU) (aR ⟨qy,trivial⟩) (aQ [] (by kernel_rfl) trivial rfl) ?_
 intro z; kernel_rfl
def NJ (x0:Str):Tree Str :=
 ask (decide (([110,111,100,101,47]:Str).length+x0.length<=9223372036854775807)) <|
 .ret (([110,111,100,101,47]:Str)++x0)
def NK:aA:=⟨54,(.cons (.val false .str) .nil),.vals (.val false .str),fun z=>NJ z.1,([]:Str)⟩
theorem VM:NK.ok Tryz.prog:=by
 refine aA.lift mix aI bq _ Tryz.func54 (c:=(ak Tryz.f54)) (by kernel_rfl) (o:=aO [] [] aU) (aR trivial) (aQ [] (by kernel_rfl) trivial rfl) ?_
 intro z; kernel_rfl
def zn (l:List Entry) (key:Str) (c:ik) (i:Int):Tree (Int⊕(ik⊕Unit)) :=
 .ite (decide (i<(l.length:Int))) (
 ask (aD i l.length) <|
 .ite ((l.getD i.toNat (aS bf:Entry)).1==key) (
 ask (aD i l.length) <|
 .ret (.inr (.inl (l.getD i.toNat (aS bf:Entry)).2))) (
 .ret (.inl (ay (i+1))))) (
 .ret (.inr (.inr ())))
def NL:Lp:=⟨2,[],[],(.cons (.val false (.list bf)) (.cons (.val false .str) (aF (.cons (.ref 0 0) (.cons (.val false (.int .i64)) (ca (aF (bB .nil)))))))),(.cells 63 (.cons (.flat jY) .nil) .nil),0,.more 0 [] (aJ (.cons (.ref 0 0) (aJ (bB .nil)))) (.cells 63 (.cons (.flat jY) .nil) .nil) (.one 1 [] (aJ (.cons (.ref 0 0) (aJ (bB .nil)))) (.cells 63 (.cons (.flat jY) .nil) .nil)),fun z=>.bnd (.loop (fun v=>zn z.1.1 z.1.2.1 z.2.1.1 v) z.1.2.2.2.2.2.1) fun r=>.sum r (fun a0=>.ret (.inl ((ai ((),(ai (aC ())))),(a0,()),()))) (fun b0=>.ret (.inr ((ai ((),(ai (aC ())))),(z.2.1.1,()),())))⟩
theorem afu:NL.ok Tryz.prog (aP (aK (ak Tryz.f53)) 0):=by
 refine Lp.lift (π:=((List Entry)×Str×ik)) (V:=Int) (ρ:=(ik⊕Unit)) mix aI NL (o:=aO [] [] aU) (aR trivial) (aQ [] (by kernel_rfl) trivial rfl) (fun x v=>((x.1,x.2.1,(ah ((),v,(cu (ah (aC ())))))),(x.2.2,()),())) (fun x r=>match r with | .inl a0=>.inl ((ai ((),(ai (aC ())))),(a0,()),()) | .inr b0=>(.inr ((ai ((),(ai (aC ())))),(x.2.2,()),()))) (fun x v=>zn x.1 x.2.1 x.2.2 v) (fun x r=>.sum r (fun a0=>.ret (.inl ((ai ((),(ai (aC ())))),(a0,()),()))) (fun b0=>.ret (.inr ((ai ((),(ai (aC ())))),(x.2.2,()),())))) (fun z=>(z.1.1,z.1.2.1,z.2.1.1)) (fun z=>z.1.2.2.2.2.2.1) (fun _=>rfl) (fun _=>rfl) (fun x r Q h=>match r,h with | .inl _,h=>h | .inr b0,h=>(h)) ?_
 intro x v; kernel_rfl
def CS (x0:List Entry) (x1:Str):Tree ik :=
 .bnd (.loop (fun v=>zn x0 x1 (0,[],[]) v) 0) fun r1 =>
 .sum r1 (fun r2 =>
 .ret r2) (fun r3 =>
 .ret (0,[],[]))
def Di:aA:=⟨53,(.cons (.val false (.list bf)) (.cons (.val false .str) .nil)),.vals (.val true jY),fun z=>CS z.1 z.2.1,(aS jY:ik)⟩
theorem Ho:Di.ok Tryz.prog:=by
 refine aA.lift mix aI bq _ Tryz.func53 (c:=(ak Tryz.f53)) (by kernel_rfl) (o:=aO [] [NL] aU) (aR trivial) (aQ [aP (aK (ak Tryz.f53)) 0] (by kernel_rfl) ⟨afu,trivial⟩ (by kernel_rfl)) ?_
 intro z; kernel_rfl
def GM (x0:ik):Tree Bool :=
 .dH (((decide ((1:Int)<=x0.1))&&(decide (x0.1<=9007199254740992)))&&(!(x0.2.1==([]:Str)))) (mG x0.2.1) false fun y1 =>
 .ret ((((decide ((1:Int)<=x0.1))&&(decide (x0.1<=9007199254740992)))&&((x0.2.1==([]:Str))||y1))&&(decide ((x0.2.2.length:Int)<=256)))
def VN:aA:=⟨75,(.cons (.val true jY) .nil),.vals (.val false .bool),fun z=>GM z.1,false⟩
theorem afv:VN.ok Tryz.prog:=by
 refine aA.lift mix aI bq _ Tryz.func75 (c:=(ak Tryz.f75)) (by kernel_rfl) (o:=aO [oN] [] aU) (aR ⟨qy,trivial⟩) (aQ [] (by kernel_rfl) trivial rfl) ?_
 intro z; kernel_rfl
def CQ (x0:Entry):Tree Bool :=
 .dH ((decide ((1:Int)<=(x0.1.length:Int)))&&(decide ((x0.1.length:Int)<=128))) (GM x0.2) false fun y1 =>
 .ret (((decide ((1:Int)<=(x0.1.length:Int)))&&(decide ((x0.1.length:Int)<=128)))&&y1)
def Ii:aA:=⟨47,(.cons (.val true bf) .nil),.vals (.val false .bool),fun z=>CQ z.1,false⟩
theorem NM:Ii.ok Tryz.prog:=by
 refine aA.lift mix aI bq _ Tryz.func47 (c:=(ak Tryz.f47)) (by kernel_rfl) (o:=aO [VN] [] aU) (aR ⟨afv,trivial⟩) (aQ [] (by kernel_rfl) trivial rfl) ?_
 intro z; kernel_rfl
def zl (l:List Entry) (i:Int):Tree (Int⊕(Bool⊕Unit)) :=
 .ite (decide (i<(l.length:Int))) (
 ask (aD i l.length) <|
 .bnd (CQ (l.getD i.toNat (aS bf:Entry))) fun y1 =>
 ask ((!((!(!y1))&&(decide ((0:Int)<i))))||aD (ay (i-1)) l.length) <|
 ask ((!((!(!y1))&&(decide ((0:Int)<i))))||aD i l.length) <|
 .ite ((!y1)||((decide ((0:Int)<i))&&(!eY (l.getD ((ay (i-1)).toNat) (aS bf:Entry)).1 (l.getD i.toNat (aS bf:Entry)).1))) (
 .ret (.inr (.inl false))) (
 .ret (.inl (ay (i+1))))) (
 .ret (.inr (.inr ())))
def NN:Lp:=⟨4,[],[],(.cons (.val false (.list bf)) (aF (.cons (.val false (.int .i64)) (ca (aZ .nil))))),.nil,0,.more 0 [] (aF (.cons (.val false .bool) (aF (aZ .nil)))) .nil (.one 1 [] (ca (aJ (aZ .nil))) .nil),fun z=>.bnd (.loop (fun v=>zl z.1.1 v) z.1.2.2.2.1) fun r=>.sum r (fun a0=>.ret (.inl ((ah (a0,(ah (aj ())))),()))) (fun b0=>.ret (.inr ((cu (ai (aj ()))),())))⟩
theorem afw:NN.ok Tryz.prog (aP (aK (ak Tryz.f25)) 0):=by
 refine Lp.lift (π:=List Entry) (V:=Int) (ρ:=(Bool⊕Unit)) mix aI NN (o:=aO [Ii] [] aU) (aR ⟨NM,trivial⟩) (aQ [] (by kernel_rfl) trivial rfl) (fun x v=>((x,(ah (v,(cu (aj ()))))),())) (fun x r=>match r with | .inl a0=>.inl ((ah (a0,(ah (aj ())))),()) | .inr b0=>(.inr ((cu (ai (aj ()))),()))) (fun x v=>zl x v) (fun x r=>.sum r (fun a0=>.ret (.inl ((ah (a0,(ah (aj ())))),()))) (fun b0=>.ret (.inr ((cu (ai (aj ()))),())))) (fun z=>z.1.1) (fun z=>z.1.2.2.2.1) (fun _=>rfl) (fun _=>rfl) (fun x r Q h=>match r,h with | .inl _,h=>h | .inr b0,h=>(h)) ?_
 intro x v; kernel_rfl
def wJ (x0:List Entry):Tree Bool :=
 .ite (decide ((4096:Int)<(x0.length:Int))) (
 .ret false) (
 .bnd (.loop (fun v=>zl x0 v) 0) fun r1 =>
 .sum r1 (fun r2 =>
 .ret r2) (fun r3 =>
 .ret true))
def uu:aA:=⟨25,(.cons (.val false (.list bf)) .nil),.vals (.val false .bool),fun z=>wJ z.1,false⟩
theorem wV:uu.ok Tryz.prog:=by
 refine aA.lift mix aI bq _ Tryz.func25 (c:=(ak Tryz.f25)) (by kernel_rfl) (o:=aO [Ii] [NN] aU) (aR ⟨NM,trivial⟩) (aQ [aP (aK (ak Tryz.f25)) 0] (by kernel_rfl) ⟨afw,trivial⟩ (by kernel_rfl)) ?_
 intro z; kernel_rfl
def VO (x0:ik) (x1:ik):Tree Bool :=
 .ite (!decide (x0.1=x1.1)) (
 .ret (decide (x1.1<x0.1))) (
 .ite (!(x0.2.1==x1.2.1)) (
 .ret (!(eY x0.2.1 x1.2.1||x0.2.1==x1.2.1))) (
 .ret (!(eY x0.2.2 x1.2.2||x0.2.2==x1.2.2))))
def VP:aA:=⟨118,(.cons (.val true jY) (.cons (.val true jY) .nil)),.vals (.val false .bool),fun z=>VO z.1 z.2.1,false⟩
theorem afx:VP.ok Tryz.prog:=by
 refine aA.lift mix aI bq _ Tryz.func118 (c:=(ak Tryz.f118)) (by kernel_rfl) (o:=aO [] [] aU) (aR trivial) (aQ [] (by kernel_rfl) trivial rfl) ?_
 intro z; kernel_rfl
def VQ (x0:ik) (x1:ik):Tree ik :=
 .bnd (VO x1 x0) fun y1 =>
 .ite y1 (
 .ret x1) (
 .ret x0)
def NP:aA:=⟨100,(.cons (.val true jY) (.cons (.val true jY) .nil)),.vals (.val true jY),fun z=>VQ z.1 z.2.1,(aS jY:ik)⟩
theorem VR:NP.ok Tryz.prog:=by
 refine aA.lift mix aI bq _ Tryz.func100 (c:=(ak Tryz.f100)) (by kernel_rfl) (o:=aO [VP] [] aU) (aR ⟨afx,trivial⟩) (aQ [] (by kernel_rfl) trivial rfl) ?_
 intro z; kernel_rfl
def VS:Nat->List Pre
 | 7=>[.two]
 | _=>[]
def NQ (l:List Entry) (x_:Entry) (k:Int):Tree (Int⊕Int) :=
 ask ((!(decide (k<(l.length:Int))))||aD k l.length) <|
 .ite ((decide (k<(l.length:Int)))&&(eY (l.getD k.toNat (aS bf:Entry)).1 x_.1)) (
 .ret (.inl (ay (k+1)))) (
 .ret (.inr k))
def NR:Lp:=⟨2,[],[],(.cons (.val false (.list bf)) (aF (.cons (.ref 0 0) (ca (.cons (.val false (.int .i64)) (ca (aF (aZ (aZ .nil))))))))),(.cells 65 (.cons (.flat bf) .nil) .nil),0,.one 1 [] (.cons (.val false (.list bf)) (aF (.cons (.ref 0 0) (ca (.cons (.val false (.int .i64)) (ca (aF (aZ (aZ .nil))))))))) (.cells 65 (.cons (.flat bf) .nil) .nil),fun z=>.bnd (.loop (fun v=>NQ z.1.1 z.2.1.1 v) z.1.2.2.2.2.2.1) fun r=>.ret ((z.1.1,(ah ((),(cu (r,(cu (ah (aj (aj ()))))))))),(z.2.1.1,()),())⟩
theorem afy:NR.ok Tryz.prog (aP (aK (ak Tryz.f77)) 0):=by
 refine Lp.lift (π:=((List Entry)×Entry)) (V:=Int) (ρ:=Int) mix aI NR (o:=aO [NP] [] VS) (aR ⟨VR,trivial⟩) (aQ [] (by kernel_rfl) trivial rfl) (fun x v=>((x.1,(ah ((),(cu (v,(cu (ah (aj (aj ()))))))))),(x.2,()),())) (fun x r=>((x.1,(ah ((),(cu (r,(cu (ah (aj (aj ()))))))))),(x.2,()),())) (fun x v=>NQ x.1 x.2 v) (fun x r=>.ret ((x.1,(ah ((),(cu (r,(cu (ah (aj (aj ()))))))))),(x.2,()),())) (fun z=>(z.1.1,z.2.1.1)) (fun z=>z.1.2.2.2.2.2.1) (fun _=>rfl) (fun _=>rfl) (fun _ _ _ h=>h) ?_
 intro x v; kernel_rfl
def NS (x0:List Entry) (x1:Entry):Tree (List Entry) :=
 .bnd (.loop (fun v=>NQ x0 x1 v) 0) fun r1 =>
 ask (df r1 x0.length) <|
 ask (decide ((x0.take r1.toNat).length*56<=bD)) <|
 ask ((!(decide (r1<(x0.length:Int))))||aD r1 x0.length) <|
 .ite ((decide (r1<(x0.length:Int)))&&((x0.getD r1.toNat (aS bf:Entry)).1==x1.1)) (
 ask (aD r1 x0.length) <|
 .bnd (VQ (x0.getD r1.toNat (aS bf:Entry)).2 x1.2) fun y2 =>
 ask (decide (((x0.take r1.toNat)++[(x1.1,y2)]).length*56<=bD)) <|
 ask (df (ay (r1+1)) x0.length) <|
 ask (decide ((((x0.take r1.toNat)++[(x1.1,y2)])++(x0.drop (ay (r1+1)).toNat)).length*56<=bD)) <|
 .ret (((x0.take r1.toNat)++[(x1.1,y2)])++(x0.drop (ay (r1+1)).toNat))) (
 ask (decide (((x0.take r1.toNat)++[x1]).length*56<=bD)) <|
 ask (df r1 x0.length) <|
 ask (decide ((((x0.take r1.toNat)++[x1])++(x0.drop r1.toNat)).length*56<=bD)) <|
 .ret (((x0.take r1.toNat)++[x1])++(x0.drop r1.toNat)))
def Ij:aA:=⟨77,(.cons (.val false (.list bf)) (.cons (.val true bf) .nil)),.fresh 65 bf,fun z=>NS z.1 z.2.1,([]:List Entry)⟩
theorem NT:Ij.ok Tryz.prog:=by
 refine aA.lift mix aI bq _ Tryz.func77 (c:=(ak Tryz.f77)) (by kernel_rfl) (o:=aO [NP] [NR] VS) (aR ⟨VR,trivial⟩) (aQ [aP (aK (ak Tryz.f77)) 0] (by kernel_rfl) ⟨afy,trivial⟩ (by kernel_rfl)) ?_
 intro z; kernel_rfl
def VT (x0:List Entry) (x1:Entry):Tree ((List Entry)×Int×Unit) :=
 .bnd (wJ x0) fun y1 =>
 .dH (!(!y1)) (CQ x1) false fun y2 =>
 .ite ((!y1)||(!y2)) (
 .ret ([],1,())) (
 .bnd (NS x0 x1) fun y3 =>
 .ite (decide ((4096:Int)<(y3.length:Int))) (
 .ret ([],4,())) (
 .ret (y3,0,())))
def NU:aA:=⟨55,(.cons (.val false (.list bf)) (.cons (.val true bf) .nil)),.vals (.cons (.val false (.list bf)) (.cons (.val false (.int .i64)) .nil)),fun z=>VT z.1 z.2.1,(([]:List Entry),(0:Int),())⟩
theorem VU:NU.ok Tryz.prog:=by
 refine aA.lift mix aI bq _ Tryz.func55 (c:=(ak Tryz.f55)) (by kernel_rfl) (o:=aO [uu,Ii,Ij] [] aU) (aR ⟨wV,NM,NT,trivial⟩) (aQ [] (by kernel_rfl) trivial rfl) ?_
 intro z; kernel_rfl
def NV (l:List aL) (i:Int) (out:List Str):Tree ((Int×(List Str))⊕(List Str)) :=
 .ite (decide (i<(l.length:Int))) (
 ask (aD i l.length) <|
 ask (decide ((out++[(l.getD i.toNat (aS bH:aL)).1]).length*16<=bD)) <|
 .ret (.inl ((ay (i+1)),(out++[(l.getD i.toNat (aS bH:aL)).1])))) (
 .ret (.inr out))
def NW:Lp:=⟨3,[.own 3 9 .str],[],(.cons (.val false (.list bH)) (aF (.cons (.own 0) (.cons (.val false (.int .i64)) (ca (aF (aJ (ca8 .nil)))))))),(.rows 9 .str .nil),0,.one 1 [] (ca (aF (.cons (.own 0) (bB .nil)))) (.rows 9 .str .nil),fun z=>.bnd (.loop (fun v=>NV z.1.1 v.1 v.2) (z.1.2.2.2.2.1,z.2.1)) fun r=>.ret ((cu (ah ((),(aC ())))),r,())⟩
theorem afz:NW.ok Tryz.prog (aP (aK (ak Tryz.f58)) 0):=by
 refine Lp.lift (π:=List aL) (V:=(Int×(List Str))) (ρ:=List Str) mix aI NW (o:=aO [] [] aU) (aR trivial) (aQ [] (by kernel_rfl) trivial rfl) (fun x v=>((x,(ah ((),v.1,(cu (ah (ai (az ()))))))),v.2,())) (fun x r=>((cu (ah ((),(aC ())))),r,())) (fun x v=>NV x v.1 v.2) (fun x r=>.ret ((cu (ah ((),(aC ())))),r,())) (fun z=>z.1.1) (fun z=>(z.1.2.2.2.2.1,z.2.1)) (fun _=>rfl) (fun _=>rfl) (fun _ _ _ h=>h) ?_
 intro x v; kernel_rfl
def Ik (x0:List aL):Tree (List Str) :=
 .bnd (.loop (fun v=>NV x0 v.1 v.2) (0,([]:List Str))) fun r1 =>
 .ret r1
def NY:aA:=⟨58,(.cons (.val false (.list bH)) .nil),.fresh 9 .str,fun z=>Ik z.1,([]:List Str)⟩
theorem VV:NY.ok Tryz.prog:=by
 refine aA.lift mix aI bq _ Tryz.func58 (c:=(ak Tryz.f58)) (by kernel_rfl) (o:=aO [] [NW] aU) (aR trivial) (aQ [aP (aK (ak Tryz.f58)) 0] (by kernel_rfl) ⟨afz,trivial⟩ (by kernel_rfl)) ?_
 intro z; kernel_rfl
def NZ (l:List Str) (s_:Str) (i:Int):Tree (Int⊕(Int⊕Unit)) :=
 .ite (decide (i<(l.length:Int))) (
 ask (aD i l.length) <|
 .ite ((l.getD i.toNat ([]:Str))==s_) (
 .ret (.inr (.inl i))) (
 .ret (.inl (ay (i+1))))) (
 .ret (.inr (.inr ())))
def N7:Lp:=⟨2,[],[],(.cons (.val false (.list .str)) (.cons (.val false .str) (ca (aF (.cons (.val false (.int .i64)) (ca (aJ (ca8 .nil)))))))),.nil,0,.more 0 [] (aJ (.cons (.val false (.int .i64)) (aF (aJ (ca8 .nil))))) .nil (.one 1 [] (ca (aF (bB .nil))) .nil),fun z=>.bnd (.loop (fun v=>NZ z.1.1 z.1.2.1 v) z.1.2.2.2.2.2.1) fun r=>.sum r (fun a0=>.ret (.inl ((ai (a0,(ah (ai (az ()))))),()))) (fun b0=>.ret (.inr ((cu (ah (aC ()))),())))⟩
theorem afA:N7.ok Tryz.prog (aP (aK (ak Tryz.f80)) 0):=by
 refine Lp.lift (π:=((List Str)×Str)) (V:=Int) (ρ:=(Int⊕Unit)) mix aI N7 (o:=aO [] [] aU) (aR trivial) (aQ [] (by kernel_rfl) trivial rfl) (fun x v=>((x.1,x.2,(cu (ah (v,(cu (ai (az ()))))))),())) (fun x r=>match r with | .inl a0=>.inl ((ai (a0,(ah (ai (az ()))))),()) | .inr b0=>(.inr ((cu (ah (aC ()))),()))) (fun x v=>NZ x.1 x.2 v) (fun x r=>.sum r (fun a0=>.ret (.inl ((ai (a0,(ah (ai (az ()))))),()))) (fun b0=>.ret (.inr ((cu (ah (aC ()))),())))) (fun z=>(z.1.1,z.1.2.1)) (fun z=>z.1.2.2.2.2.2.1) (fun _=>rfl) (fun _=>rfl) (fun x r Q h=>match r,h with | .inl _,h=>h | .inr b0,h=>(h)) ?_
 intro x v; kernel_rfl
def N8 (x0:List Str) (x1:Str):Tree Int :=
 .bnd (.loop (fun v=>NZ x0 x1 v) 0) fun r1 =>
 .sum r1 (fun r2 =>
 .ret r2) (fun r3 =>
 .ret (-1))
def wX:aA:=⟨80,(.cons (.val false (.list .str)) (.cons (.val false .str) .nil)),.vals (.val false (.int .i64)),fun z=>N8 z.1 z.2.1,(0:Int)⟩
theorem Ak:wX.ok Tryz.prog:=by
 refine aA.lift mix aI bq _ Tryz.func80 (c:=(ak Tryz.f80)) (by kernel_rfl) (o:=aO [] [N7] aU) (aR trivial) (aQ [aP (aK (ak Tryz.f80)) 0] (by kernel_rfl) ⟨afA,trivial⟩ (by kernel_rfl)) ?_
 intro z; kernel_rfl
def N9 (names:List Str) (i:Int) (out:List Str):Tree ((Int×(List Str))⊕(List Str)) :=
 .ite (decide (i<(names.length:Int))) (
 ask (aD i names.length) <|
 .bnd (N8 out (names.getD i.toNat ([]:Str))) fun y1 =>
 .ite (decide (y1<0)) (
 ask (aD i names.length) <|
 ask (decide ((out++[(names.getD i.toNat ([]:Str))]).length*16<=bD)) <|
 .ret (.inl ((ay (i+1)),(out++[(names.getD i.toNat ([]:Str))])))) (
 .ret (.inl ((ay (i+1)),out)))) (
 .ret (.inr out))
def Oa:Lp:=⟨3,[.own 3 9 .str],[],(.cons (.val false (.list .str)) (aF (.cons (.own 0) (.cons (.val false (.int .i64)) (ca (aJ (bB .nil))))))),(.rows 9 .str .nil),0,.one 1 [] (ca (aF (.cons (.own 0) (aF (aJ (bB .nil)))))) (.rows 9 .str .nil),fun z=>.bnd (.loop (fun v=>N9 z.1.1 v.1 v.2) (z.1.2.2.2.2.1,z.2.1)) fun r=>.ret ((cu (ah ((),(ah (ai (aC ())))))),r,())⟩
theorem afB:Oa.ok Tryz.prog (aP (aK (ak Tryz.f78)) 0):=by
 refine Lp.lift (π:=List Str) (V:=(Int×(List Str))) (ρ:=List Str) mix aI Oa (o:=aO [wX] [] aU) (aR ⟨Ak,trivial⟩) (aQ [] (by kernel_rfl) trivial rfl) (fun x v=>((x,(ah ((),v.1,(cu (ai (aC ())))))),v.2,())) (fun x r=>((cu (ah ((),(ah (ai (aC ())))))),r,())) (fun x v=>N9 x v.1 v.2) (fun x r=>.ret ((cu (ah ((),(ah (ai (aC ())))))),r,())) (fun z=>z.1.1) (fun z=>(z.1.2.2.2.2.1,z.2.1)) (fun _=>rfl) (fun _=>rfl) (fun _ _ _ h=>h) ?_
 intro x v; kernel_rfl
def VW (x0:List Str):Tree (List Str) :=
 .bnd (.loop (fun v=>N9 x0 v.1 v.2) (0,([]:List Str))) fun r1 =>
 .ret r1
def DK:aA:=⟨78,(.cons (.val false (.list .str)) .nil),.fresh 9 .str,fun z=>VW z.1,([]:List Str)⟩
theorem Il:DK.ok Tryz.prog:=by
 refine aA.lift mix aI bq _ Tryz.func78 (c:=(ak Tryz.f78)) (by kernel_rfl) (o:=aO [wX] [Oa] aU) (aR ⟨Ak,trivial⟩) (aQ [aP (aK (ak Tryz.f78)) 0] (by kernel_rfl) ⟨afB,trivial⟩ (by kernel_rfl)) ?_
 intro z; kernel_rfl
def Al (owners:List Str) (names:List Str) (i:Int) (out:List Int) (n:Int) (k:Int):Tree ((Int×Int)⊕Int) :=
 .ite (decide (k<(owners.length:Int))) (
 ask (aD k owners.length) <|
 ask (aD i names.length) <|
 .ite ((owners.getD k.toNat ([]:Str))==(names.getD i.toNat ([]:Str))) (
 .ret (.inl ((ay (n+1)),(ay (k+1))))) (
 .ret (.inl (n,(ay (k+1)))))) (
 .ret (.inr n))
def Ob:Lp:=⟨7,[],[],(.cons (.val false (.list .str)) (.cons (.val false (.list .str)) (ca (aF (.cons (.own 0) (.cons (.val false (.int .i64)) (.cons (.val false (.int .i64)) (.cons (.val false (.int .i64)) (aJ (ca8 (bB .nil))))))))))),(.rows 3 (.int .i64) .nil),0,.one 3 [] (.cons (.val false (.list .str)) (.cons (.val false (.list .str)) (ca (aF (.cons (.own 0) (.cons (.val false (.int .i64)) (.cons (.val false (.int .i64)) (ca (aJ (ca8 (bB .nil))))))))))) (.rows 3 (.int .i64) .nil),fun z=>.bnd (.loop (fun v=>Al z.1.1 z.1.2.1 z.1.2.2.2.2.2.2.1 z.2.1 v.1 v.2) (z.1.2.2.2.2.2.2.2.1,z.1.2.2.2.2.2.2.2.2.1)) fun r=>.ret ((z.1.1,z.1.2.1,(cu (ah ((),z.1.2.2.2.2.2.2.1,r,(cu (ai (az (aC ())))))))),z.2.1,())⟩
theorem afC:Ob.ok Tryz.prog (aP (aK (aP (aK (ak Tryz.f39)) 0)) 0):=by
 refine Lp.lift (π:=((List Str)×(List Str)×Int×(List Int))) (V:=(Int×Int)) (ρ:=Int) mix aI Ob (o:=aO [] [] aU) (aR trivial) (aQ [] (by kernel_rfl) trivial rfl) (fun x v=>((x.1,x.2.1,(cu (ah ((),x.2.2.1,v.1,v.2,(ai (az (aC ()))))))),x.2.2.2,())) (fun x r=>((x.1,x.2.1,(cu (ah ((),x.2.2.1,r,(cu (ai (az (aC ())))))))),x.2.2.2,())) (fun x v=>Al x.1 x.2.1 x.2.2.1 x.2.2.2 v.1 v.2) (fun x r=>.ret ((x.1,x.2.1,(cu (ah ((),x.2.2.1,r,(cu (ai (az (aC ())))))))),x.2.2.2,())) (fun z=>(z.1.1,z.1.2.1,z.1.2.2.2.2.2.2.1,z.2.1)) (fun z=>(z.1.2.2.2.2.2.2.2.1,z.1.2.2.2.2.2.2.2.2.1)) (fun _=>rfl) (fun _=>rfl) (fun _ _ _ h=>h) ?_
 intro x v; kernel_rfl
def Am (owners:List Str) (names:List Str) (i:Int) (out:List Int):Tree ((Int×(List Int))⊕(List Int)) :=
 .ite (decide (i<(names.length:Int))) (
 .bnd (.loop (fun v=>Al owners names i out v.1 v.2) (0,0)) fun r1 =>
 ask (decide ((out++[r1]).length*8<=bD)) <|
 .ret (.inl ((ay (i+1)),(out++[r1])))) (
 .ret (.inr out))
def Oc:Lp:=⟨3,[.own 5 3 (.int .i64)],[],(.cons (.val false (.list .str)) (.cons (.val false (.list .str)) (ca (aF (.cons (.own 0) (.cons (.val false (.int .i64)) (aF (aJ (ca8 (bB .nil)))))))))),(.rows 3 (.int .i64) .nil),0,.one 1 [] (ca (aJ (.cons (.own 0) (ca (aF (aJ (ca8 (bB .nil)))))))) (.rows 3 (.int .i64) .nil),fun z=>.bnd (.loop (fun v=>Am z.1.1 z.1.2.1 v.1 v.2) (z.1.2.2.2.2.2.2.1,z.2.1)) fun r=>.ret ((cu (ai ((),(cu (ah (ai (az (aC ())))))))),r,())⟩
theorem afD:Oc.ok Tryz.prog (aP (aK (ak Tryz.f39)) 0):=by
 refine Lp.lift (π:=((List Str)×(List Str))) (V:=(Int×(List Int))) (ρ:=List Int) mix aI Oc (o:=aO [] [Ob] aU) (aR trivial) (aQ [aP (aK (aP (aK (ak Tryz.f39)) 0)) 0] (by kernel_rfl) ⟨afC,trivial⟩ (by kernel_rfl)) (fun x v=>((x.1,x.2,(cu (ah ((),v.1,(ah (ai (az (aC ())))))))),v.2,())) (fun x r=>((cu (ai ((),(cu (ah (ai (az (aC ())))))))),r,())) (fun x v=>Am x.1 x.2 v.1 v.2) (fun x r=>.ret ((cu (ai ((),(cu (ah (ai (az (aC ())))))))),r,())) (fun z=>(z.1.1,z.1.2.1)) (fun z=>(z.1.2.2.2.2.2.2.1,z.2.1)) (fun _=>rfl) (fun _=>rfl) (fun _ _ _ h=>h) ?_
 intro x v; kernel_rfl
def uq (x0:List Str) (x1:List Str):Tree (List Int) :=
 .bnd (.loop (fun v=>Am x0 x1 v.1 v.2) (0,([]:List Int))) fun r1 =>
 .ret r1
def Im:aA:=⟨39,(.cons (.val false (.list .str)) (.cons (.val false (.list .str)) .nil)),.fresh 3 (.int .i64),fun z=>uq z.1 z.2.1,([]:List Int)⟩
theorem Io:Im.ok Tryz.prog:=by
 refine aA.lift mix aI bq _ Tryz.func39 (c:=(ak Tryz.f39)) (by kernel_rfl) (o:=aO [] [Oc] aU) (aR trivial) (aQ [aP (aK (ak Tryz.f39)) 0] (by kernel_rfl) ⟨afD,trivial⟩ (by kernel_rfl)) ?_
 intro z; kernel_rfl
def H5:aA:=⟨39,(.cons (.val false (.list .str)) (.cons (.val false (.list .str)) .nil)),.kJ 3 (.int .i64),fun z=>uq z.1 z.2.1,([]:List Int)⟩
theorem M4:H5.ok Tryz.prog:=fun x y h=>oM (Io x y h)
def Od (names:List Str) (least:Int) (over:Int) (i:Int) (loads:List Int) (out:List Int) (ahead:Int) (k:Int):Tree ((Int×Int)⊕Int) :=
 .ite (decide (k<(names.length:Int))) (
 ask (aD k loads.length) <|
 ask (aD i loads.length) <|
 ask ((!(!(decide ((loads.getD i.toNat (0:Int))<(loads.getD k.toNat (0:Int))))))||aD k loads.length) <|
 ask ((!(!(decide ((loads.getD i.toNat (0:Int))<(loads.getD k.toNat (0:Int))))))||aD i loads.length) <|
 .ite ((decide ((loads.getD i.toNat (0:Int))<(loads.getD k.toNat (0:Int))))||((decide ((loads.getD k.toNat (0:Int))=(loads.getD i.toNat (0:Int))))&&(decide (k<i)))) (
 .ret (.inl ((ay (ahead+1)),(ay (k+1))))) (
 .ret (.inl (ahead,(ay (k+1)))))) (
 .ret (.inr ahead))
def Oe:Lp:=⟨9,[],[],(ca (.cons (.val false (.list .str)) (ca (aF (.cons (.own 0) (.cons (.val false (.int .i64)) (.cons (.val false (.int .i64)) (.cons (.own 1) (.cons (.val false (.int .i64)) (.cons (.val false (.int .i64)) (.cons (.val false (.int .i64)) (aZ (aZ .nil))))))))))))),(.rows 3 (.int .i64) (.rows 3 (.int .i64) .nil)),0,.one 3 [] (ca (.cons (.val false (.list .str)) (ca (aF (.cons (.own 0) (.cons (.val false (.int .i64)) (.cons (.val false (.int .i64)) (.cons (.own 1) (.cons (.val false (.int .i64)) (.cons (.val false (.int .i64)) (ca (aZ (aZ .nil))))))))))))) (.rows 3 (.int .i64) (.rows 3 (.int .i64) .nil)),fun z=>.bnd (.loop (fun v=>Od z.1.2.1 z.1.2.2.2.2.2.2.1 z.1.2.2.2.2.2.2.2.1 z.1.2.2.2.2.2.2.2.2.2.1 z.2.1 z.2.2.1 v.1 v.2) (z.1.2.2.2.2.2.2.2.2.2.2.1,z.1.2.2.2.2.2.2.2.2.2.2.2.1)) fun r=>.ret ((cu (z.1.2.1,(cu (ah ((),z.1.2.2.2.2.2.2.1,z.1.2.2.2.2.2.2.2.1,(),z.1.2.2.2.2.2.2.2.2.2.1,r,(cu (aj (aj ())))))))),z.2.1,z.2.2.1,())⟩
theorem afE:Oe.ok Tryz.prog (aP (aK (aP (aK (ak Tryz.f79)) 0)) 0):=by
 refine Lp.lift (π:=((List Str)×Int×Int×Int×(List Int)×(List Int))) (V:=(Int×Int)) (ρ:=Int) mix aI Oe (o:=aO [Im] [] aU) (aR ⟨Io,trivial⟩) (aQ [] (by kernel_rfl) trivial rfl) (fun x v=>((cu (x.1,(cu (ah ((),x.2.1,x.2.2.1,(),x.2.2.2.1,v.1,v.2,(aj (aj ()))))))),x.2.2.2.2.1,x.2.2.2.2.2,())) (fun x r=>((cu (x.1,(cu (ah ((),x.2.1,x.2.2.1,(),x.2.2.2.1,r,(cu (aj (aj ())))))))),x.2.2.2.2.1,x.2.2.2.2.2,())) (fun x v=>Od x.1 x.2.1 x.2.2.1 x.2.2.2.1 x.2.2.2.2.1 x.2.2.2.2.2 v.1 v.2) (fun x r=>.ret ((cu (x.1,(cu (ah ((),x.2.1,x.2.2.1,(),x.2.2.2.1,r,(cu (aj (aj ())))))))),x.2.2.2.2.1,x.2.2.2.2.2,())) (fun z=>(z.1.2.1,z.1.2.2.2.2.2.2.1,z.1.2.2.2.2.2.2.2.1,z.1.2.2.2.2.2.2.2.2.2.1,z.2.1,z.2.2.1)) (fun z=>(z.1.2.2.2.2.2.2.2.2.2.2.1,z.1.2.2.2.2.2.2.2.2.2.2.2.1)) (fun _=>rfl) (fun _=>rfl) (fun _ _ _ h=>h) ?_
 intro x v; kernel_rfl
def Og (names:List Str) (least:Int) (over:Int) (loads:List Int) (i:Int) (out:List Int):Tree ((Int×(List Int))⊕(List Int)) :=
 .ite (decide (i<(names.length:Int))) (
 .bnd (.loop (fun v=>Od names least over i loads out v.1 v.2) (0,0)) fun r1 =>
 .ite (decide (r1<over)) (
 ask (decide ((out++[(ay (least+1))]).length*8<=bD)) <|
 .ret (.inl ((ay (i+1)),(out++[(ay (least+1))])))) (
 ask (decide ((out++[least]).length*8<=bD)) <|
 .ret (.inl ((ay (i+1)),(out++[least]))))) (
 .ret (.inr out))
def Oh:Lp:=⟨5,[.own 8 3 (.int .i64)],[],(ca (.cons (.val false (.list .str)) (ca (aF (.cons (.own 0) (.cons (.val false (.int .i64)) (.cons (.val false (.int .i64)) (.cons (.own 1) (.cons (.val false (.int .i64)) (aF (aZ (aZ .nil)))))))))))),(.rows 3 (.int .i64) (.rows 3 (.int .i64) .nil)),0,.one 1 [] (ca8 (.cons (.own 1) (ca (aF (aZ (aZ .nil)))))) (.dead (.rows 3 (.int .i64) .nil)),fun z=>.bnd (.loop (fun v=>Og z.1.2.1 z.1.2.2.2.2.2.2.1 z.1.2.2.2.2.2.2.2.1 z.2.1 v.1 v.2) (z.1.2.2.2.2.2.2.2.2.2.1,z.2.2.1)) fun r=>.ret ((az ((),(cu (ah (aj (aj ())))))),r,())⟩
theorem afF:Oh.ok Tryz.prog (aP (aK (ak Tryz.f79)) 0):=by
 refine Lp.lift (π:=((List Str)×Int×Int×(List Int))) (V:=(Int×(List Int))) (ρ:=List Int) mix aI Oh (o:=aO [Im] [Oe] aU) (aR ⟨Io,trivial⟩) (aQ [aP (aK (aP (aK (ak Tryz.f79)) 0)) 0] (by kernel_rfl) ⟨afE,trivial⟩ (by kernel_rfl)) (fun x v=>((cu (x.1,(cu (ah ((),x.2.1,x.2.2.1,(),v.1,(ah (aj (aj ())))))))),x.2.2.2,v.2,())) (fun x r=>((az ((),(cu (ah (aj (aj ())))))),r,())) (fun x v=>Og x.1 x.2.1 x.2.2.1 x.2.2.2 v.1 v.2) (fun x r=>.ret ((az ((),(cu (ah (aj (aj ())))))),r,())) (fun z=>(z.1.2.1,z.1.2.2.2.2.2.2.1,z.1.2.2.2.2.2.2.2.1,z.2.1)) (fun z=>(z.1.2.2.2.2.2.2.2.2.2.1,z.2.2.1)) (fun _=>rfl) (fun _=>rfl) (fun _ _ _ h=>h) ?_
 intro x v; kernel_rfl
def VX (x0:List Str) (x1:List Str):Tree (List Int) :=
 .bnd (uq x0 x1) fun y1 =>
 ask (!decide ((x1.length:Int)=0)) <|
 ask (!decide ((x1.length:Int)=0)) <|
 .bnd (.loop (fun v=>Og x1 (ay ((x0.length:Int).tdiv (x1.length:Int))) ((x0.length:Int).tmod (x1.length:Int)) y1 v.1 v.2) (0,([]:List Int))) fun r2 =>
 .ret r2
def DL:aA:=⟨79,(.cons (.val false (.list .str)) (.cons (.val false (.list .str)) .nil)),.fresh 3 (.int .i64),fun z=>VX z.1 z.2.1,([]:List Int)⟩
theorem Ip:DL.ok Tryz.prog:=by
 refine aA.lift mix aI bq _ Tryz.func79 (c:=(ak Tryz.f79)) (by kernel_rfl) (o:=aO [Im] [Oh] aU) (aR ⟨Io,trivial⟩) (aQ [aP (aK (ak Tryz.f79)) 0] (by kernel_rfl) ⟨afF,trivial⟩ (by kernel_rfl)) ?_
 intro z; kernel_rfl
def Oi (owners:List Str) (names:List Str) (shares:List Int) (i:Int) (out:List Str) (has:List Int) (kept:List Int):Tree ((Int×(List Str)×(List Int)×(List Int))⊕((List Str)×(List Int)×(List Int))) :=
 .ite (decide (i<(owners.length:Int))) (
 ask (aD i owners.length) <|
 .bnd (N8 names (owners.getD i.toNat ([]:Str))) fun y1 =>
 ask ((!(decide ((0:Int)<=y1)))||aD y1 has.length) <|
 ask ((!(decide ((0:Int)<=y1)))||aD y1 shares.length) <|
 .ite ((decide ((0:Int)<=y1))&&(decide ((has.getD y1.toNat (0:Int))<(shares.getD y1.toNat (0:Int))))) (
 ask (aD y1 has.length) <|
 ask (aD y1 has.length) <|
 ask (aD i owners.length) <|
 ask (aD i out.length) <|
 ask (aD i kept.length) <|
 .ret (.inl ((ay (i+1)),(out.set i.toNat (owners.getD i.toNat ([]:Str))),(has.set y1.toNat (ay ((has.getD y1.toNat (0:Int))+1))),(kept.set i.toNat 1)))) (
 .ret (.inl ((ay (i+1)),out,has,kept)))) (
 .ret (.inr (out,has,kept)))
def Oj:Lp:=⟨9,[],[],(.cons (.val false (.list .str)) (.cons (.own 0) (ca (aF (.cons (.own 1) (.cons (.own 2) (.cons (.own 3) (.cons (.own 4) (.cons (.val false (.int .i64)) (ca (aF (ca8 (bB (aZ (aZ (aZ .nil)))))))))))))))),(.rows 9 .str (.rows 9 .str (.rows 3 (.int .i64) (.rows 3 (.int .i64) (.rows 3 (.int .i64) .nil))))),0,.one 1 [] (.cons (.val false (.list .str)) (.cons (.own 0) (ca (aF (.cons (.own 1) (.cons (.own 2) (.cons (.own 3) (.cons (.own 4) (aJ (ca8 (bB (aZ (aZ (aZ .nil)))))))))))))) (.rows 9 .str (.rows 9 .str (.rows 3 (.int .i64) (.rows 3 (.int .i64) (.rows 3 (.int .i64) .nil))))),fun z=>.bnd (.loop (fun v=>Oi z.1.1 z.2.1 z.2.2.2.1 v.1 v.2.1 v.2.2.1 v.2.2.2) (z.1.2.2.2.2.2.2.2.2.2.1,z.2.2.1,z.2.2.2.2.1,z.2.2.2.2.2.1)) fun r=>.ret ((z.1.1,(),(cu (ah ((),(),(),(),(ai (az (aC (aj (aj (aj ())))))))))),z.2.1,r.1,z.2.2.2.1,r.2.1,r.2.2,())⟩
theorem afG:Oj.ok Tryz.prog (aP (aK (ak Tryz.f57)) 0):=by
 refine Lp.lift (π:=((List Str)×(List Str)×(List Int))) (V:=(Int×(List Str)×(List Int)×(List Int))) (ρ:=((List Str)×(List Int)×(List Int))) mix aI Oj (o:=aO [DK,DL,wX] [] aU) (aR ⟨Il,Ip,Ak,trivial⟩) (aQ [] (by kernel_rfl) trivial rfl) (fun x v=>((x.1,(),(cu (ah ((),(),(),(),v.1,(cu (ah (az (aC (aj (aj (aj ()))))))))))),x.2.1,v.2.1,x.2.2,v.2.2.1,v.2.2.2,())) (fun x r=>((x.1,(),(cu (ah ((),(),(),(),(ai (az (aC (aj (aj (aj ())))))))))),x.2.1,r.1,x.2.2,r.2.1,r.2.2,())) (fun x v=>Oi x.1 x.2.1 x.2.2 v.1 v.2.1 v.2.2.1 v.2.2.2) (fun x r=>.ret ((x.1,(),(cu (ah ((),(),(),(),(ai (az (aC (aj (aj (aj ())))))))))),x.2.1,r.1,x.2.2,r.2.1,r.2.2,())) (fun z=>(z.1.1,z.2.1,z.2.2.2.1)) (fun z=>(z.1.2.2.2.2.2.2.2.2.2.1,z.2.2.1,z.2.2.2.2.1,z.2.2.2.2.2.1)) (fun _=>rfl) (fun _=>rfl) (fun _ _ _ h=>h) ?_
 intro x v; kernel_rfl
def Ol (owners:List Str) (i:Int) (names:List Str) (out:List Str) (shares:List Int) (has:List Int) (kept:List Int) (best:Int) (k:Int):Tree ((Int×Int)⊕Int) :=
 .ite (decide (k<(names.length:Int))) (
 ask (aD k has.length) <|
 ask (aD k shares.length) <|
 ask ((!((decide ((has.getD k.toNat (0:Int))<(shares.getD k.toNat (0:Int))))&&(!(decide (best<0)))))||aD k has.length) <|
 ask ((!((decide ((has.getD k.toNat (0:Int))<(shares.getD k.toNat (0:Int))))&&(!(decide (best<0)))))||aD best has.length) <|
 .ite ((decide ((has.getD k.toNat (0:Int))<(shares.getD k.toNat (0:Int))))&&((decide (best<0))||(decide ((has.getD k.toNat (0:Int))<(has.getD best.toNat (0:Int)))))) (
 .ret (.inl (k,(ay (k+1))))) (
 .ret (.inl (best,(ay (k+1)))))) (
 .ret (.inr best))
def Om:Lp:=⟨22,[],[],(.cons (.val false (.list .str)) (.cons (.own 0) (ca (aF (.cons (.own 1) (.cons (.own 2) (.cons (.own 3) (.cons (.own 4) (aF (.cons (.val false (.int .i64)) (.cons (.val false (.int .i64)) (.cons (.val false (.int .i64)) (ca (aF (aJ (bB (aZ (aZ (aZ .nil))))))))))))))))))),(.rows 9 .str (.rows 9 .str (.rows 3 (.int .i64) (.rows 3 (.int .i64) (.rows 3 (.int .i64) .nil))))),0,.one 5 [] (.cons (.val false (.list .str)) (.cons (.own 0) (ca (aF (.cons (.own 1) (.cons (.own 2) (.cons (.own 3) (.cons (.own 4) (aF (.cons (.val false (.int .i64)) (.cons (.val false (.int .i64)) (ca8 (bB (aZ (aZ (aZ .nil)))))))))))))))) (.rows 9 .str (.rows 9 .str (.rows 3 (.int .i64) (.rows 3 (.int .i64) (.rows 3 (.int .i64) .nil))))),fun z=>.bnd (.loop (fun v=>Ol z.1.1 z.1.2.2.2.2.2.2.2.2.2.2.2.1 z.2.1 z.2.2.1 z.2.2.2.1 z.2.2.2.2.1 z.2.2.2.2.2.1 v.1 v.2) (z.1.2.2.2.2.2.2.2.2.2.2.2.2.1,z.1.2.2.2.2.2.2.2.2.2.2.2.2.2.1)) fun r=>.ret ((z.1.1,(),(cu (ah ((),(),(),(),(ah (z.1.2.2.2.2.2.2.2.2.2.2.2.1,r,(az (aC (aj (aj (aj ()))))))))))),z.2.1,z.2.2.1,z.2.2.2.1,z.2.2.2.2.1,z.2.2.2.2.2.1,())⟩
theorem afH:Om.ok Tryz.prog (aP (aK (aP (aK (ak Tryz.f57)) 1)) 0):=by
 refine Lp.lift (π:=((List Str)×Int×(List Str)×(List Str)×(List Int)×(List Int)×(List Int))) (V:=(Int×Int)) (ρ:=Int) mix aI Om (o:=aO [DK,DL,wX] [] aU) (aR ⟨Il,Ip,Ak,trivial⟩) (aQ [] (by kernel_rfl) trivial rfl) (fun x v=>((x.1,(),(cu (ah ((),(),(),(),(ah (x.2.1,v.1,v.2,(cu (ah (ai (aC (aj (aj (aj ()))))))))))))),x.2.2.1,x.2.2.2.1,x.2.2.2.2.1,x.2.2.2.2.2.1,x.2.2.2.2.2.2,())) (fun x r=>((x.1,(),(cu (ah ((),(),(),(),(ah (x.2.1,r,(az (aC (aj (aj (aj ()))))))))))),x.2.2.1,x.2.2.2.1,x.2.2.2.2.1,x.2.2.2.2.2.1,x.2.2.2.2.2.2,())) (fun x v=>Ol x.1 x.2.1 x.2.2.1 x.2.2.2.1 x.2.2.2.2.1 x.2.2.2.2.2.1 x.2.2.2.2.2.2 v.1 v.2) (fun x r=>.ret ((x.1,(),(cu (ah ((),(),(),(),(ah (x.2.1,r,(az (aC (aj (aj (aj ()))))))))))),x.2.2.1,x.2.2.2.1,x.2.2.2.2.1,x.2.2.2.2.2.1,x.2.2.2.2.2.2,())) (fun z=>(z.1.1,z.1.2.2.2.2.2.2.2.2.2.2.2.1,z.2.1,z.2.2.1,z.2.2.2.1,z.2.2.2.2.1,z.2.2.2.2.2.1)) (fun z=>(z.1.2.2.2.2.2.2.2.2.2.2.2.2.1,z.1.2.2.2.2.2.2.2.2.2.2.2.2.2.1)) (fun _=>rfl) (fun _=>rfl) (fun _ _ _ h=>h) ?_
 intro x v; kernel_rfl
def Oo (owners:List Str) (names:List Str) (shares:List Int) (kept:List Int) (i:Int) (out:List Str) (has:List Int):Tree ((Int×(List Str)×(List Int))⊕(List Str)) :=
 .ite (decide (i<(owners.length:Int))) (
 ask (aD i kept.length) <|
 .ite (decide ((kept.getD i.toNat (0:Int))=1)) (
 .ret (.inl ((ay (i+1)),out,has))) (
 .bnd (.loop (fun v=>Ol owners i names out shares has kept v.1 v.2) ((-1),0)) fun r1 =>
 ask (aD r1 has.length) <|
 ask (aD r1 has.length) <|
 ask (aD r1 names.length) <|
 ask (aD i out.length) <|
 .ret (.inl ((ay (i+1)),(out.set i.toNat (names.getD r1.toNat ([]:Str))),(has.set r1.toNat (ay ((has.getD r1.toNat (0:Int))+1))))))) (
 .ret (.inr out))
def Oq:Lp:=⟨17,[],[],(.cons (.val false (.list .str)) (.cons (.own 0) (ca (aF (.cons (.own 1) (.cons (.own 2) (.cons (.own 3) (.cons (.own 4) (aF (.cons (.val false (.int .i64)) (ca (ca8 (bB (aZ (aZ (aZ .nil)))))))))))))))),(.rows 9 .str (.rows 9 .str (.rows 3 (.int .i64) (.rows 3 (.int .i64) (.rows 3 (.int .i64) .nil))))),0,.one 3 [] (ca (aJ (.cons (.own 1) (ca (aF (aJ (ca8 (bB (aZ (aZ (aZ .nil))))))))))) (.dead (.rows 9 .str .nil)),fun z=>.bnd (.loop (fun v=>Oo z.1.1 z.2.1 z.2.2.2.1 z.2.2.2.2.2.1 v.1 v.2.1 v.2.2) (z.1.2.2.2.2.2.2.2.2.2.2.2.1,z.2.2.1,z.2.2.2.2.1)) fun r=>.ret ((cu (ai ((),(cu (ah (ai (az (aC (aj (aj (aj ()))))))))))),r,())⟩
theorem afI:Oq.ok Tryz.prog (aP (aK (ak Tryz.f57)) 1):=by
 refine Lp.lift (π:=((List Str)×(List Str)×(List Int)×(List Int))) (V:=(Int×(List Str)×(List Int))) (ρ:=List Str) mix aI Oq (o:=aO [DK,DL,wX] [Om] aU) (aR ⟨Il,Ip,Ak,trivial⟩) (aQ [aP (aK (aP (aK (ak Tryz.f57)) 1)) 0] (by kernel_rfl) ⟨afH,trivial⟩ (by kernel_rfl)) (fun x v=>((x.1,(),(cu (ah ((),(),(),(),(ah (v.1,(cu (az (aC (aj (aj (aj ())))))))))))),x.2.1,v.2.1,x.2.2.1,v.2.2,x.2.2.2,())) (fun x r=>((cu (ai ((),(cu (ah (ai (az (aC (aj (aj (aj ()))))))))))),r,())) (fun x v=>Oo x.1 x.2.1 x.2.2.1 x.2.2.2 v.1 v.2.1 v.2.2) (fun x r=>.ret ((cu (ai ((),(cu (ah (ai (az (aC (aj (aj (aj ()))))))))))),r,())) (fun z=>(z.1.1,z.2.1,z.2.2.2.1,z.2.2.2.2.2.1)) (fun z=>(z.1.2.2.2.2.2.2.2.2.2.2.2.1,z.2.2.1,z.2.2.2.2.1)) (fun _=>rfl) (fun _=>rfl) (fun _ _ _ h=>h) ?_
 intro x v; kernel_rfl
def DN (x0:List Str) (x1:List Str):Tree (List Str) :=
 .bnd (VW x1) fun y1 =>
 ask (decide ((0:Int)<=(x0.length:Int))) <|
 ask (decide ((x0.length:Int)<=(x0.length:Int))) <|
 ask (decide ((x0.length:Int).toNat*16<=bD)) <|
 .ite (decide ((y1.length:Int)=0)) (
 .ret (List.replicate (x0.length:Int).toNat ([]:Str))) (
 .bnd (VX x0 y1) fun y2 =>
 ask (decide ((0:Int)<=(y1.length:Int))) <|
 ask (decide ((y1.length:Int)<=(y1.length:Int))) <|
 ask (decide ((y1.length:Int).toNat*8<=bD)) <|
 ask (decide ((0:Int)<=(x0.length:Int))) <|
 ask (decide ((x0.length:Int)<=(x0.length:Int))) <|
 ask (decide ((x0.length:Int).toNat*8<=bD)) <|
 .bnd (.loop (fun v=>Oi x0 y1 y2 v.1 v.2.1 v.2.2.1 v.2.2.2) (0,(List.replicate (x0.length:Int).toNat ([]:Str)),(List.replicate (y1.length:Int).toNat (0:Int)),(List.replicate (x0.length:Int).toNat (0:Int)))) fun r3 =>
 .bnd (.loop (fun v=>Oo x0 y1 y2 r3.2.2 v.1 v.2.1 v.2.2) (0,r3.1,r3.2.1)) fun r4 =>
 .ret r4)
def afJ:aA:=⟨57,(.cons (.val false (.list .str)) (.cons (.val false (.list .str)) .nil)),.fresh 9 .str,fun z=>DN z.1 z.2.1,([]:List Str)⟩
theorem afK:afJ.ok Tryz.prog:=by
 refine aA.lift mix aI bq _ Tryz.func57 (c:=(ak Tryz.f57)) (by kernel_rfl) (o:=aO [DK,DL,wX] [Oj,Oq] aU) (aR ⟨Il,Ip,Ak,trivial⟩) (aQ [aP (aK (ak Tryz.f57)) 0,aP (aK (ak Tryz.f57)) 1] (by kernel_rfl) ⟨afG,afI,trivial⟩ (by kernel_rfl)) ?_
 intro z; kernel_rfl
def Ot:aA:=⟨57,(.cons (.val false (.list .str)) (.cons (.val false (.list .str)) .nil)),.kJ 9 .str,fun z=>DN z.1 z.2.1,([]:List Str)⟩
theorem VY:Ot.ok Tryz.prog:=fun x y h=>oM (afK x y h)
def uw (n:Int) (s_:Str) (k:Int):Tree ((Str×Int)⊕Str) :=
 .ite (!decide (k=0)) (
 ask (!decide ((10:Int)=0)) <|
 .ite (decide ((k.tmod 10)<0)) (
 ask (df (ay ((ay ((0:Int)-(k.tmod 10)))+1)) ([48,49,50,51,52,53,54,55,56,57]:Str).length) <|
 ask (df (ay ((0:Int)-(k.tmod 10))) (ay ((ay ((0:Int)-(k.tmod 10)))+1)).toNat) <|
 ask (decide ((jd ([48,49,50,51,52,53,54,55,56,57]:Str) (ay ((0:Int)-(k.tmod 10))).toNat (ay ((ay ((0:Int)-(k.tmod 10)))+1)).toNat).length+s_.length<=9223372036854775807)) <|
 ask (!decide ((10:Int)=0)) <|
 .ret (.inl (((jd ([48,49,50,51,52,53,54,55,56,57]:Str) (ay ((0:Int)-(k.tmod 10))).toNat (ay ((ay ((0:Int)-(k.tmod 10)))+1)).toNat)++s_),(ay (k.tdiv 10))))) (
 ask (df (ay ((k.tmod 10)+1)) ([48,49,50,51,52,53,54,55,56,57]:Str).length) <|
 ask (df (k.tmod 10) (ay ((k.tmod 10)+1)).toNat) <|
 ask (decide ((jd ([48,49,50,51,52,53,54,55,56,57]:Str) (k.tmod 10).toNat (ay ((k.tmod 10)+1)).toNat).length+s_.length<=9223372036854775807)) <|
 ask (!decide ((10:Int)=0)) <|
 .ret (.inl (((jd ([48,49,50,51,52,53,54,55,56,57]:Str) (k.tmod 10).toNat (ay ((k.tmod 10)+1)).toNat)++s_),(ay (k.tdiv 10)))))) (
 .ret (.inr s_))
def Ou:Lp:=⟨5,[],[],(.cons (.val false (.int .i64)) (aF (.cons (.val false .str) (.cons (.val false (.int .i64)) (ca (ca8 (bB .nil))))))),.nil,0,.one 1 [] (.cons (.val false (.int .i64)) (aF (.cons (.val false .str) (aF (ca8 (bB .nil)))))) .nil,fun z=>.bnd (.loop (fun v=>uw z.1.1 v.1 v.2) (z.1.2.2.2.1,z.1.2.2.2.2.1)) fun r=>.ret ((z.1.1,(ah (r,(ah (az (aC ())))))),())⟩
theorem afL:Ou.ok Tryz.prog (aP (aK (ak Tryz.f95)) 0):=by
 refine Lp.lift (π:=Int) (V:=(Str×Int)) (ρ:=Str) mix aI Ou (o:=aO [] [] aU) (aR trivial) (aQ [] (by kernel_rfl) trivial rfl) (fun x v=>((x,(ah (v.1,v.2,(cu (az (aC ())))))),())) (fun x r=>((x,(ah (r,(ah (az (aC ())))))),())) (fun x v=>uw x v.1 v.2) (fun x r=>.ret ((x,(ah (r,(ah (az (aC ())))))),())) (fun z=>z.1.1) (fun z=>(z.1.2.2.2.1,z.1.2.2.2.2.1)) (fun _=>rfl) (fun _=>rfl) (fun _ _ _ h=>h) ?_
 intro x v; kernel_rfl
def Iq (x0:Int):Tree Str :=
 .ite (decide (x0=0)) (
 .ret ([48]:Str)) (
 .bnd (.loop (fun v=>uw x0 v.1 v.2) (([]:Str),x0)) fun r1 =>
 .ite (decide (x0<0)) (
 ask (decide (([45]:Str).length+r1.length<=9223372036854775807)) <|
 .ret (([45]:Str)++r1)) (
 .ret r1))
def VZ:aA:=⟨95,(.cons (.val false (.int .i64)) .nil),.vals (.val false .str),fun z=>Iq z.1,([]:Str)⟩
theorem afM:VZ.ok Tryz.prog:=by
 refine aA.lift mix aI bq _ Tryz.func95 (c:=(ak Tryz.f95)) (by kernel_rfl) (o:=aO [] [Ou] aU) (aR trivial) (aQ [aP (aK (ak Tryz.f95)) 0] (by kernel_rfl) ⟨afL,trivial⟩ (by kernel_rfl)) ?_
 intro z; kernel_rfl
def zK (x0:Int):Tree Str :=
 .bnd (Iq x0) fun y1 =>
 ask (decide (([114,105,110,103,47]:Str).length+y1.length<=9223372036854775807)) <|
 .ret (([114,105,110,103,47]:Str)++y1)
def zL:aA:=⟨69,(.cons (.val false (.int .i64)) .nil),.vals (.val false .str),fun z=>zK z.1,([]:Str)⟩
theorem Dj:zL.ok Tryz.prog:=by
 refine aA.lift mix aI bq _ Tryz.func69 (c:=(ak Tryz.f69)) (by kernel_rfl) (o:=aO [VZ] [] aU) (aR ⟨afM,trivial⟩) (aQ [] (by kernel_rfl) trivial rfl) ?_
 intro z; kernel_rfl
def Ov:Nat->List Pre
 | 13=>[.two]
 | _=>[]
def Ow (owners:List Str) (out:List Entry) (i:Int) (k:Int):Tree (Int⊕Int) :=
 ask ((!(decide (k<(out.length:Int))))||aD k out.length) <|
 .dH (decide (k<(out.length:Int))) (zK i) ([]:Str) fun y1 =>
 .ite ((decide (k<(out.length:Int)))&&(eY (out.getD k.toNat (aS bf:Entry)).1 y1)) (
 .ret (.inl (ay (k+1)))) (
 .ret (.inr k))
def Ox:Lp:=⟨9,[],[],(.cons (.val false (.list .str)) (aF (.cons (.val false (.list bf)) (.cons (.val false (.int .i64)) (.cons (.val false (.int .i64)) (ca (aF (aJ (bB (aZ .nil)))))))))),.nil,0,.one 3 [] (.cons (.val false (.list .str)) (aF (.cons (.val false (.list bf)) (.cons (.val false (.int .i64)) (.cons (.val false (.int .i64)) (ca (aF (aJ (bB (aZ .nil)))))))))) .nil,fun z=>.bnd (.loop (fun v=>Ow z.1.1 z.1.2.2.2.1 z.1.2.2.2.2.1 v) z.1.2.2.2.2.2.1) fun r=>.ret ((z.1.1,(ah (z.1.2.2.2.1,z.1.2.2.2.2.1,r,(cu (ah (ai (aC (aj ())))))))),())⟩
theorem afN:Ox.ok Tryz.prog (aP (aK (aP (aK (ak Tryz.f56)) 0)) 0):=by
 refine Lp.lift (π:=((List Str)×(List Entry)×Int)) (V:=Int) (ρ:=Int) mix aI Ox (o:=aO [oN,zL] [] Ov) (aR ⟨qy,Dj,trivial⟩) (aQ [] (by kernel_rfl) trivial rfl) (fun x v=>((x.1,(ah (x.2.1,x.2.2,v,(cu (ah (ai (aC (aj ())))))))),())) (fun x r=>((x.1,(ah (x.2.1,x.2.2,r,(cu (ah (ai (aC (aj ())))))))),())) (fun x v=>Ow x.1 x.2.1 x.2.2 v) (fun x r=>.ret ((x.1,(ah (x.2.1,x.2.2,r,(cu (ah (ai (aC (aj ())))))))),())) (fun z=>(z.1.1,z.1.2.2.2.1,z.1.2.2.2.2.1)) (fun z=>z.1.2.2.2.2.2.1) (fun _=>rfl) (fun _=>rfl) (fun _ _ _ h=>h) ?_
 intro x v; kernel_rfl
def Oy (owners:List Str) (out:List Entry) (i:Int):Tree (((List Entry)×Int)⊕(List Entry)) :=
 .ite (decide (i<(owners.length:Int))) (
 ask (aD i owners.length) <|
 .bnd (mG (owners.getD i.toNat ([]:Str))) fun y1 =>
 .ite (!y1) (
 .ret (.inl (out,(ay (i+1))))) (
 .bnd (.loop (fun v=>Ow owners out i v) 0) fun r2 =>
 ask (df r2 out.length) <|
 ask (decide ((out.take r2.toNat).length*56<=bD)) <|
 .bnd (zK i) fun y3 =>
 ask (aD i owners.length) <|
 ask (decide (((out.take r2.toNat)++[(y3,1,[],(owners.getD i.toNat ([]:Str)))]).length*56<=bD)) <|
 ask (df r2 out.length) <|
 ask (decide ((((out.take r2.toNat)++[(y3,1,[],(owners.getD i.toNat ([]:Str)))])++(out.drop r2.toNat)).length*56<=bD)) <|
 .ret (.inl ((((out.take r2.toNat)++[(y3,1,[],(owners.getD i.toNat ([]:Str)))])++(out.drop r2.toNat)),(ay (i+1)))))) (
 .ret (.inr out))
def Oz:Lp:=⟨5,[],[.gP 0],(.cons (.val false (.list .str)) (aF (.cons (.val false (.list bf)) (.cons (.val false (.int .i64)) (ca8 (bB (aZ .nil))))))),.nil,0,.one 1 [] (ca (aF (.cons (.val false (.list bf)) (ca (ca8 (bB (aZ .nil))))))) .nil,fun z=>.bnd (.loop (fun v=>Oy z.1.1 v.1 v.2) (z.1.2.2.2.1,z.1.2.2.2.2.1)) fun r=>.ret ((cu (ah (r,(cu (az (aC (aj ()))))))),())⟩
theorem afO:Oz.ok Tryz.prog (aP (aK (ak Tryz.f56)) 0):=by
 refine Lp.lift (π:=List Str) (V:=((List Entry)×Int)) (ρ:=List Entry) mix aI Oz (o:=aO [oN,zL] [Ox] Ov) (aR ⟨qy,Dj,trivial⟩) (aQ [aP (aK (aP (aK (ak Tryz.f56)) 0)) 0] (by kernel_rfl) ⟨afN,trivial⟩ (by kernel_rfl)) (fun x v=>((x,(ah (v.1,v.2,(az (aC (aj ())))))),())) (fun x r=>((cu (ah (r,(cu (az (aC (aj ()))))))),())) (fun x v=>Oy x v.1 v.2) (fun x r=>.ret ((cu (ah (r,(cu (az (aC (aj ()))))))),())) (fun z=>z.1.1) (fun z=>(z.1.2.2.2.1,z.1.2.2.2.2.1)) (fun _=>rfl) (fun _=>rfl) (fun _ _ _ h=>h) ?_
 intro x v; kernel_rfl
def Ir (x0:List Str):Tree (List Entry) :=
 .ite (decide ((4096:Int)<(x0.length:Int))) (
 .ret []) (
 .bnd (.loop (fun v=>Oy x0 v.1 v.2) ([],0)) fun r1 =>
 .ret r1)
def OA:aA:=⟨56,(.cons (.val false (.list .str)) .nil),.vals (.val false (.list bf)),fun z=>Ir z.1,([]:List Entry)⟩
theorem V3:OA.ok Tryz.prog:=by
 refine aA.lift mix aI bq _ Tryz.func56 (c:=(ak Tryz.f56)) (by kernel_rfl) (o:=aO [oN,zL] [Oz] Ov) (aR ⟨qy,Dj,trivial⟩) (aQ [aP (aK (ak Tryz.f56)) 0] (by kernel_rfl) ⟨afO,trivial⟩ (by kernel_rfl)) ?_
 intro z; kernel_rfl
def OB (b:List Entry) (out:List Entry) (i:Int):Tree (((List Entry)×Int)⊕(List Entry)) :=
 .ite (decide (i<(b.length:Int))) (
 ask (aD i b.length) <|
 .bnd (NS out (b.getD i.toNat (aS bf:Entry))) fun y1 =>
 .ret (.inl (y1,(ay (i+1))))) (
 .ret (.inr out))
def OC:Lp:=⟨6,[.gP 0],[.gP 0],(ca (.cons (.val false (.list bf)) (aJ (.cons (.val false (.list bf)) (.cons (.val false (.int .i64)) (ca (aF (ca8 (bB .nil))))))))),.nil,0,.one 1 [] (aF (aJ (.cons (.val false (.list bf)) (aJ (ca8 (bB .nil)))))) .nil,fun z=>.bnd (.loop (fun v=>OB z.1.2.1 v.1 v.2) (z.1.2.2.2.2.2.2.1,z.1.2.2.2.2.2.2.2.1)) fun r=>.ret ((ah (ai (r,(ai (az (aC ())))))),())⟩
theorem afP:OC.ok Tryz.prog (aP (aK (ak Tryz.f59)) 0):=by
 refine Lp.lift (π:=List Entry) (V:=((List Entry)×Int)) (ρ:=List Entry) mix aI OC (o:=aO [uu,Ij] [] aU) (aR ⟨wV,NT,trivial⟩) (aQ [] (by kernel_rfl) trivial rfl) (fun x v=>((cu (x,(ai (v.1,v.2,(cu (ah (az (aC ())))))))),())) (fun x r=>((ah (ai (r,(ai (az (aC ())))))),())) (fun x v=>OB x v.1 v.2) (fun x r=>.ret ((ah (ai (r,(ai (az (aC ())))))),())) (fun z=>z.1.2.1) (fun z=>(z.1.2.2.2.2.2.2.1,z.1.2.2.2.2.2.2.2.1)) (fun _=>rfl) (fun _=>rfl) (fun _ _ _ h=>h) ?_
 intro x v; kernel_rfl
def wY (x0:List Entry) (x1:List Entry):Tree ((List Entry)×Int×Unit) :=
 .bnd (wJ x0) fun y1 =>
 .dH (!(!y1)) (wJ x1) false fun y2 =>
 .ite ((!y1)||(!y2)) (
 .ret ([],1,())) (
 ask (decide (x0.length*56<=bD)) <|
 .bnd (.loop (fun v=>OB x1 v.1 v.2) (x0,0)) fun r3 =>
 .ite (decide ((4096:Int)<(r3.length:Int))) (
 .ret ([],4,())) (
 .ret (r3,0,())))
def OD:aA:=⟨59,(.cons (.val false (.list bf)) (.cons (.val false (.list bf)) .nil)),.vals (.cons (.val false (.list bf)) (.cons (.val false (.int .i64)) .nil)),fun z=>wY z.1 z.2.1,(([]:List Entry),(0:Int),())⟩
theorem V4:OD.ok Tryz.prog:=by
 refine aA.lift mix aI bq _ Tryz.func59 (c:=(ak Tryz.f59)) (by kernel_rfl) (o:=aO [uu,Ij] [OC] aU) (aR ⟨wV,NT,trivial⟩) (aQ [aP (aK (ak Tryz.f59)) 0] (by kernel_rfl) ⟨afP,trivial⟩ (by kernel_rfl)) ?_
 intro z; kernel_rfl
def Iu (members:List aL) (more:List Entry) (l:List Entry) (i:Int):Tree (((List Entry)×Int)⊕(((List Entry)×Int)⊕List Entry)) :=
 .ite (decide (i<(members.length:Int))) (
 ask (aD i members.length) <|
 .bnd (VK (members.getD i.toNat (aS bH:aL))) fun y1 =>
 ask ((!(!(!decide (y1.2.1=0))))||aD i members.length) <|
 .dH (!(!decide (y1.2.1=0))) (mG (members.getD i.toNat (aS bH:aL)).1) false fun y2 =>
 ask ((!(!((!decide (y1.2.1=0))||(!y2))))||aD i members.length) <|
 .dH (!((!decide (y1.2.1=0))||(!y2))) (NJ (members.getD i.toNat (aS bH:aL)).1) ([]:Str) fun y3 =>
 .dH (!((!decide (y1.2.1=0))||(!y2))) (CS l y3) (aS jY:ik) fun y4 =>
 .ite (((!decide (y1.2.1=0))||(!y2))||(!((decide (y4.1=0))&&((y4.2.1==[])&&((y4.2.2==[])&&true))))) (
 .ret (.inr (.inl ([],1)))) (
 ask (aD i members.length) <|
 .bnd (NJ (members.getD i.toNat (aS bH:aL)).1) fun y5 =>
 .bnd (VT l (y5,1,[],y1.1)) fun y6 =>
 .ret (.inl (y6.1,(ay (i+1)))))) (
 .ret (.inr (.inr l)))
def OE:Lp:=⟨5,[],[],(.cons (.val false (.list bH)) (.cons (.val false (.list bf)) (aJ (.cons (.val false (.list bf)) (.cons (.val false (.int .i64)) (aF (aJ (ca8 (aZ (aZ .nil)))))))))),.nil,0,.more 0 [] (aJ (.cons (.val false (.list bf)) (.cons (.val false (.int .i64)) (bB (aZ (aZ .nil)))))) .nil (.one 1 [] (.cons (.val false (.list bH)) (.cons (.val false (.list bf)) (aJ (.cons (.val false (.list bf)) (ca (aF (aJ (ca8 (aZ (aZ .nil)))))))))) .nil),fun z=>.bnd (.loop (fun v=>Iu z.1.1 z.1.2.1 v.1 v.2) (z.1.2.2.2.2.2.2.1,z.1.2.2.2.2.2.2.2.1)) fun r=>.sum r (fun a0=>.ret (.inl ((ai (a0.1,a0.2,(aC (aj (aj ()))))),()))) (fun b0=>.ret (.inr ((z.1.1,z.1.2.1,(ai (b0,(cu (ah (ai (az (aj (aj ()))))))))),())))⟩
theorem afQ:OE.ok Tryz.prog (aP (aK (ak Tryz.f28)) 0):=by
 refine Lp.lift (π:=((List aL)×(List Entry))) (V:=((List Entry)×Int)) (ρ:=(((List Entry)×Int)⊕List Entry)) mix aI OE (o:=aO [NI,oN,NK,Di,NU,NY,Ot,OA,OD] [] aU) (aR ⟨VL,qy,VM,Ho,VU,VV,VY,V3,V4,trivial⟩) (aQ [] (by kernel_rfl) trivial rfl) (fun x v=>((x.1,x.2,(ai (v.1,v.2,(ah (ai (az (aj (aj ())))))))),())) (fun x r=>match r with | .inl a0=>.inl ((ai (a0.1,a0.2,(aC (aj (aj ()))))),()) | .inr b0=>(.inr ((x.1,x.2,(ai (b0,(cu (ah (ai (az (aj (aj ()))))))))),()))) (fun x v=>Iu x.1 x.2 v.1 v.2) (fun x r=>.sum r (fun a0=>.ret (.inl ((ai (a0.1,a0.2,(aC (aj (aj ()))))),()))) (fun b0=>.ret (.inr ((x.1,x.2,(ai (b0,(cu (ah (ai (az (aj (aj ()))))))))),())))) (fun z=>(z.1.1,z.1.2.1)) (fun z=>(z.1.2.2.2.2.2.2.1,z.1.2.2.2.2.2.2.2.1)) (fun _=>rfl) (fun _=>rfl) (fun x r Q h=>match r,h with | .inl _,h=>h | .inr b0,h=>(h)) ?_
 intro x v; kernel_rfl
def Hm (x0:List aL) (x1:List Entry):Tree ((List Entry)×Int×Unit) :=
 .ite ((decide ((x0.length:Int)=0))||(decide ((8:Int)<(x0.length:Int)))) (
 .ret ([],1,())) (
 .bnd (.loop (fun v=>Iu x0 x1 v.1 v.2) ([],0)) fun r1 =>
 .sum r1 (fun r2 =>
 .ret (r2.1,r2.2,())) (fun r3 =>
 .both (
 ask (decide ((0:Int)<=16)) <|
 ask (decide ((16:Int)<=16)) <|
 ask (decide ((16:Int).toNat*16<=bD)) <|
 .bnd (Ik x0) fun y9 =>
 .bnd (DN (List.replicate (16:Int).toNat ([]:Str)) y9) fun y10 =>
 .bnd (Ir y10) fun y11 =>
 .bnd (wY r3 y11) fun y12 =>
 .bnd (wY y12.1 x1) fun y13 =>
 .ret (y13.1,y13.2.1,())) (
 .bnd (Ik x0) fun y4 =>
 ask (decide ((0:Int)<=16)) <|
 ask (decide ((16:Int)<=16)) <|
 ask (decide ((16:Int).toNat*16<=bD)) <|
 .bnd (DN (List.replicate (16:Int).toNat ([]:Str)) y4) fun y5 =>
 .bnd (Ir y5) fun y6 =>
 .bnd (wY r3 y6) fun y7 =>
 .bnd (wY y7.1 x1) fun y8 =>
 .ret (y8.1,y8.2.1,()))))
def Vj:aA:=⟨28,(.cons (.val false (.list bH)) (.cons (.val false (.list bf)) .nil)),.vals (.cons (.val false (.list bf)) (.cons (.val false (.int .i64)) .nil)),fun z=>Hm z.1 z.2.1,(([]:List Entry),(0:Int),())⟩
theorem aey:Vj.ok Tryz.prog:=by
 refine aA.lift mix aI bq _ Tryz.func28 (c:=(ak Tryz.f28)) (by kernel_rfl) (o:=aO [NI,oN,NK,Di,NU,NY,Ot,OA,OD] [OE] aU) (aR ⟨VL,qy,VM,Ho,VU,VV,VY,V3,V4,trivial⟩) (aQ [aP (aK (ak Tryz.f28)) 0] (by kernel_rfl) ⟨afQ,trivial⟩ (by kernel_rfl)) ?_
 intro z; kernel_rfl
def Iw (x0:List Entry):Tree (List Entry) :=
 .ite (Nat.beq x0.length 0) (
 .both (
 .ret []) (
 ask (decide (x0.length*56<=bD)) <|
 .ret x0)) (
 ask (decide (x0.length*56<=bD)) <|
 .ret x0)
def V5:aA:=⟨87,(.cons (.val false (.list bf)) .nil),.fresh 65 bf,fun z=>Iw z.1,([]:List Entry)⟩
theorem afR:V5.ok Tryz.prog:=by
 refine aA.lift mix aI bq _ Tryz.func87 (c:=(ak Tryz.f87)) (by kernel_rfl) (o:=aO [] [] aU) (aR trivial) (aQ [] (by kernel_rfl) trivial rfl) ?_
 intro z; kernel_rfl
def LP (x0:Str) (x1:Str):Tree Bool :=
 ask ((!(decide ((x1.length:Int)<=(x0.length:Int))))||df (x1.length:Int) x0.length) <|
 .ret ((decide ((x1.length:Int)<=(x0.length:Int)))&&((jd x0 0 (x1.length:Int).toNat)==x1))
def V6:aA:=⟨103,(.cons (.val false .str) (.cons (.val false .str) .nil)),.vals (.val false .bool),fun z=>LP z.1 z.2.1,false⟩
theorem afS:V6.ok Tryz.prog:=by
 refine aA.lift mix aI bq _ Tryz.func103 (c:=(ak Tryz.f103)) (by kernel_rfl) (o:=aO [] [] aU) (aR trivial) (aQ [] (by kernel_rfl) trivial rfl) ?_
 intro z; kernel_rfl
def GR (x0:Str) (x1:Str):Tree Bool :=
 .bnd (LP x0 x1) fun y1 =>
 .ret y1
def V7:aA:=⟨89,(.cons (.val false .str) (.cons (.val false .str) .nil)),.vals (.val false .bool),fun z=>GR z.1 z.2.1,false⟩
theorem afT:V7.ok Tryz.prog:=by
 refine aA.lift mix aI bq _ Tryz.func89 (c:=(ak Tryz.f89)) (by kernel_rfl) (o:=aO [V6] [] aU) (aR ⟨afS,trivial⟩) (aQ [] (by kernel_rfl) trivial rfl) ?_
 intro z; kernel_rfl
def zo (x0:Entry) (x1:Str):Tree Bool :=
 ask (decide (x1.length+([47]:Str).length<=9223372036854775807)) <|
 .bnd (GR x0.1 (x1++([47]:Str))) fun y1 =>
 .ret (!y1)
def DR:aA:=⟨88,(.cons (.val true bf) (.cons (.ptr .str) .nil)),.vals (.val false .bool),fun z=>zo z.1 z.2.1,false⟩
theorem Iy:DR.ok Tryz.prog:=by
 refine aA.lift mix aI bq _ Tryz.func88 (c:=(ak Tryz.f88)) (by kernel_rfl) (o:=aO [V7] [] aU) (aR ⟨afT,trivial⟩) (aQ [] (by kernel_rfl) trivial rfl) ?_
 intro z; kernel_rfl
def DT (s_:List Entry) (f:Str) (t:Int) (t2:Int):Tree (Int⊕(Int⊕Unit)) :=
 .ite (decide (t2<t)) (
 ask (aD t2 s_.length) <|
 .bnd (zo (s_.getD t2.toNat (aS bf:Entry)) f) fun y1 =>
 .ite y1 (
 .ret (.inr (.inl t2))) (
 .ret (.inl (ay (t2+1))))) (
 .ret (.inr (.inr ())))
def OG:Lp:=⟨2,[],[],(.cons (.val false (.list bf)) (.cons (.fn 88 .nil (.cons (.ptr .str) .nil)) (ca (aJ (.cons (.val false (.int .i64)) (.cons (.val false (.int .i64)) (aF (ca8 .nil)))))))),.nil,0,.more 0 [] (aJ (.cons (.val false (.int .i64)) (aF (aJ (ca8 .nil))))) .nil (.one 1 [] (ca (aF (bB .nil))) .nil),fun z=>.bnd (.loop (fun v=>DT z.1.1 z.1.2.1.2.1 z.1.2.2.2.2.2.2.2.1 v) z.1.2.2.2.2.2.2.2.2.1) fun r=>.sum r (fun a0=>.ret (.inl ((ai (a0,(ah (ai (az ()))))),()))) (fun b0=>.ret (.inr ((cu (ah (aC ()))),())))⟩
theorem afU:OG.ok Tryz.prog (aP (aK (ak Tryz.f81)) 0):=by
 refine Lp.lift (π:=((List Entry)×Str×Int)) (V:=Int) (ρ:=(Int⊕Unit)) mix aI OG (o:=aO [DR] [] aU) (aR ⟨Iy,trivial⟩) (aQ [] (by kernel_rfl) trivial rfl) (fun x v=>((x.1,((),x.2.1,()),(cu (ai (x.2.2,v,(ah (az ())))))),())) (fun x r=>match r with | .inl a0=>.inl ((ai (a0,(ah (ai (az ()))))),()) | .inr b0=>(.inr ((cu (ah (aC ()))),()))) (fun x v=>DT x.1 x.2.1 x.2.2 v) (fun x r=>.sum r (fun a0=>.ret (.inl ((ai (a0,(ah (ai (az ()))))),()))) (fun b0=>.ret (.inr ((cu (ah (aC ()))),())))) (fun z=>(z.1.1,z.1.2.1.2.1,z.1.2.2.2.2.2.2.2.1)) (fun z=>z.1.2.2.2.2.2.2.2.2.1) (fun _=>rfl) (fun _=>rfl) (fun x r Q h=>match r,h with | .inl _,h=>h | .inr b0,h=>(h)) ?_
 intro x v; kernel_rfl
def Iz (x0:List Entry) (x1:Str):Tree Int :=
 .bnd (.loop (fun v=>DT x0 x1 (x0.length:Int) v) 0) fun r1 =>
 .sum r1 (fun r2 =>
 .ret r2) (fun r3 =>
 .ret (-1))
def OH:aA:=⟨81,(.cons (.val false (.list bf)) (.cons (.fn 88 .nil (.cons (.ptr .str) .nil)) .nil)),.vals (.val false (.int .i64)),fun z=>Iz z.1 z.2.1.2.1,(0:Int)⟩
theorem V8:OH.ok Tryz.prog:=by
 refine aA.lift mix aI bq _ Tryz.func81 (c:=(ak Tryz.f81)) (by kernel_rfl) (o:=aO [DR] [OG] aU) (aR ⟨Iy,trivial⟩) (aQ [aP (aK (ak Tryz.f81)) 0] (by kernel_rfl) ⟨afU,trivial⟩ (by kernel_rfl)) ?_
 intro z; kernel_rfl
def DU (c:Str) (i:Int) (j:Int) (s_:List Entry):Tree ((Int×Int×(List Entry))⊕(Int×(List Entry))) :=
 .ite (decide (j<(s_.length:Int))) (
 ask (aD j s_.length) <|
 .bnd (zo (s_.getD j.toNat (aS bf:Entry)) c) fun y1 =>
 .ite (!y1) (
 ask (aD i s_.length) <|
 .ret (.inl ((ay (i+1)),(ay (j+1)),(s_.set i.toNat (s_.getD j.toNat (aS bf:Entry)))))) (
 .ret (.inl (i,(ay (j+1)),s_)))) (
 .ret (.inr (i,s_)))
def OI:Lp:=⟨5,[],[],(.cons (.own 0) (.cons (.fn 88 .nil (.cons (.ref 1 0) .nil)) (ca (aF (.cons (.val false (.int .i64)) (.cons (.val false (.int .i64)) (ca (aF (aZ .nil))))))))),(.rows 65 bf (.cells 9 (.cons (.val false .str) .nil) .nil)),2,.one 1 [] (.cons (.own 0) (aJ (.cons (.val false (.int .i64)) (aJ (aZ .nil))))) (.rows 65 bf (.cells 9 (.cons (.val false .str) .nil) .nil)),fun z=>.bnd (.loop (fun v=>DU z.2.2.1.1 v.1 v.2.1 v.2.2) (z.1.2.2.2.2.2.1,z.1.2.2.2.2.2.2.1,z.2.1)) fun r=>.ret (((),(ai (r.1,(ai (aj ()))))),r.2,(z.2.2.1.1,()),())⟩
theorem afV:OI.ok Tryz.prog (aP (aK (ak Tryz.f86)) 0):=by
 refine Lp.lift (π:=Str) (V:=(Int×Int×(List Entry))) (ρ:=(Int×(List Entry))) mix aI OI (o:=aO [OH,DR] [] aU) (aR ⟨V8,Iy,trivial⟩) (aQ [] (by kernel_rfl) trivial rfl) (fun x v=>(((),((),(),()),(cu (ah (v.1,v.2.1,(cu (ah (aj ()))))))),v.2.2,(x,()),())) (fun x r=>(((),(ai (r.1,(ai (aj ()))))),r.2,(x,()),())) (fun x v=>DU x v.1 v.2.1 v.2.2) (fun x r=>.ret (((),(ai (r.1,(ai (aj ()))))),r.2,(x,()),())) (fun z=>z.2.2.1.1) (fun z=>(z.1.2.2.2.2.2.1,z.1.2.2.2.2.2.2.1,z.2.1)) (fun _=>rfl) (fun _=>rfl) (fun _ _ _ h=>h) ?_
 intro x v; kernel_rfl
def IA (x0:List Entry) (x1:Str):Tree (List Entry×((Str×Unit)×Unit)) :=
 .bnd (Iz x0 x1) fun y1 =>
 .ite (decide (y1=(-1))) (
 .ret (x0,(x1,()),())) (
 .bnd (.loop (fun v=>DU x1 v.1 v.2.1 v.2.2) (y1,(ay (y1+1)),x0)) fun r2 =>
 ask (df r2.1 r2.2.length) <|
 ask (df r2.1 (lK r2.1.toNat (r2.2.length-r2.1.toNat) ([],0,[],[]) r2.2).length) <|
 .ret (((lK r2.1.toNat (r2.2.length-r2.1.toNat) ([],0,[],[]) r2.2).take r2.1.toNat),(x1,()),()))
def V9:fH:=⟨86,(.cons (.own 0) (.cons (.fn 88 .nil (.cons (.ref 1 0) .nil)) .nil)),(.rows 65 bf (.cells 9 (.cons (.val false .str) .nil) .nil)),[.gP 0],(.val false (.list bf)),(.dead (.cells 9 (.cons (.val false .str) .nil) .nil)),some 0,fun z=>IA z.2.1 z.2.2.1.1⟩
theorem afW:V9.ok Tryz.prog:=by
 refine fH.lift mix aI bq _ Tryz.func86 (c:=(ak Tryz.f86)) (by kernel_rfl) (o:=aO [OH,DR] [OI] aU) (aR ⟨V8,Iy,trivial⟩) (aQ [aP (aK (ak Tryz.f86)) 0] (by kernel_rfl) ⟨afV,trivial⟩ (by kernel_rfl)) (fun _=>rfl) ?_
 intro z; kernel_rfl
def GU (x0:List Entry) (x1:Str):Tree (List Entry) :=
 .bnd (Iw x0) fun y1 =>
 .bnd (IA y1 x1) fun y2 =>
 .ret y2.1
def OJ:aA:=⟨64,(.cons (.val false (.list bf)) (.cons (.val false .str) .nil)),.vals (.val false (.list bf)),fun z=>GU z.1 z.2.1,([]:List Entry)⟩
theorem Wd:OJ.ok Tryz.prog:=by
 refine aA.lift mix aI bq _ Tryz.func64 (c:=(ak Tryz.f64)) (by kernel_rfl) (o:=orM [V5] [V9] [] aU) (jW ⟨afR,trivial⟩ ⟨afW,trivial⟩) (jX [] (by kernel_rfl) trivial rfl) ?_
 intro z; kernel_rfl
def IB (x0:Str) (x1:Str):Tree Str :=
 .ret (trimS x0 x1)
def OL:aA:=⟨66,(.cons (.val false .str) (.cons (.val false .str) .nil)),.vals (.val false .str),fun z=>IB z.1 z.2.1,([]:Str)⟩
theorem We:OL.ok Tryz.prog :=
 afX (enters_of Tryz.func66 (by kernel_rfl) rfl) (fun s p w=>Tryz.strings_TrimPrefix s p w)
def OM (x0:Str) (x1:Str):Tree (List Str) :=
 DV x0 x1
def Wh:aA:=⟨104,(.cons (.val false .str) (.cons (.val false .str) .nil)),.fresh 9 .str,fun z=>OM z.1 z.2.1,([]:List Str)⟩
theorem afY:Wh.ok Tryz.prog :=
 afZ (enters_of Tryz.func104 (by kernel_rfl) rfl) (fun s p w hg hs h1=>let ⟨m,hm⟩:=hg.U0; Tryz.strings_Split s p m w hs hm h1)
def IC (x0:Str):Tree (List Str) :=
 .ite (x0==([]:Str)) (
 .ret []) (
 .bnd (OM x0 ([47]:Str)) fun y1 =>
 .ret y1)
def Wi:aA:=⟨90,(.cons (.val false .str) .nil),.fresh 9 .str,fun z=>IC z.1,([]:List Str)⟩
theorem af0:Wi.ok Tryz.prog:=by
 refine aA.lift mix aI bq _ Tryz.func90 (c:=(ak Tryz.f90)) (by kernel_rfl) (o:=aO [Wh] [] aU) (aR ⟨afY,trivial⟩) (aQ [] (by kernel_rfl) trivial rfl) ?_
 intro z; kernel_rfl
def GJ (x0:Int):Tree Bool :=
 .ret ((((decide ((97:Int)<=x0))&&(decide (x0<=122)))||((decide ((48:Int)<=x0))&&(decide (x0<=57))))||(decide (x0=45)))
def OO:aA:=⟨85,(.cons (.val false (.int .i32)) .nil),.vals (.val false .bool),fun z=>GJ z.1,false⟩
theorem Wj:OO.ok Tryz.prog:=by
 refine aA.lift mix aI bq _ Tryz.func85 (c:=(ak Tryz.f85)) (by kernel_rfl) (o:=aO [] [] aU) (aR trivial) (aQ [] (by kernel_rfl) trivial rfl) ?_
 intro z; kernel_rfl
def wH (str:Str) (pos:Nat):Tree (Nat⊕(Bool⊕Unit)) :=
 .ite (decide ((pos:Int)<(str.length:Int))) (
 ask (decide ((pos:Int)<(str.length:Int))) <|
 .bnd (GJ (ae.rune str pos)) fun y1 =>
 .ite (!y1) (
 .ret (.inr (.inl false))) (
 .ret (.inl (ae.sG str pos)))) (
 .ret (.inr (.inr ())))
def OP:Lp:=⟨4,[],[],(ca (aJ (ca8 (.cons (.ref 0 0) (aF (aJ .nil)))))),(.dW .nil),0,.more 0 [] (aF (.cons (.val false .bool) (ca (bB .nil)))) .nil (.one 1 [] (aJ (bB .nil)) .nil),fun z=>.bnd (.loop (fun v=>wH z.2.1.1 v) z.2.1.2) fun r=>.sum r (fun a0=>.ret (.inl ((ah (a0,(cu (aC ())))),()))) (fun b0=>.ret (.inr ((ai (aC ())),())))⟩
theorem af1:OP.ok Tryz.prog (aP (aK (ak Tryz.f63)) 0):=by
 refine Lp.lift (π:=Str) (V:=Nat) (ρ:=(Bool⊕Unit)) mix aI OP (o:=aO [OO] [] aU) (aR ⟨Wj,trivial⟩) (aQ [] (by kernel_rfl) trivial rfl) (fun x v=>((cu (ai (az ((),(ah (ai ())))))),(x,v),())) (fun x r=>match r with | .inl a0=>.inl ((ah (a0,(cu (aC ())))),()) | .inr b0=>(.inr ((ai (aC ())),()))) (fun x v=>wH x v) (fun x r=>.sum r (fun a0=>.ret (.inl ((ah (a0,(cu (aC ())))),()))) (fun b0=>.ret (.inr ((ai (aC ())),())))) (fun z=>z.2.1.1) (fun z=>z.2.1.2) (fun _=>rfl) (fun _=>rfl) (fun x r Q h=>match r,h with | .inl _,h=>h | .inr b0,h=>(h)) ?_
 intro x v; kernel_rfl
def wG (x0:Str):Tree Bool :=
 .ite ((x0==([]:Str))||(decide ((16:Int)<(x0.length:Int)))) (
 .ret false) (
 .bnd (.loop (fun v=>wH x0 v) 0) fun r1 =>
 .sum r1 (fun r2 =>
 .ret r2) (fun r3 =>
 .ret true))
def IE:aA:=⟨63,(.cons (.val false .str) .nil),.vals (.val false .bool),fun z=>wG z.1,false⟩
theorem OQ:IE.ok Tryz.prog:=by
 refine aA.lift mix aI bq _ Tryz.func63 (c:=(ak Tryz.f63)) (by kernel_rfl) (o:=aO [OO] [OP] aU) (aR ⟨Wj,trivial⟩) (aQ [aP (aK (ak Tryz.f63)) 0] (by kernel_rfl) ⟨af1,trivial⟩ (by kernel_rfl)) ?_
 intro z; kernel_rfl
def af2:Nat->List Pre
 | 7=>[.two]
 | _=>[]
def Ao (x0:Str) (x1:Str):Tree (aL×Bool×Unit) :=
 .bnd (IC x1) fun y1 =>
 .bnd (wG x0) fun y2 =>
 ask ((!(!((!y2)||(!decide ((y1.length:Int)=3)))))||aD 0 y1.length) <|
 .dH (!((!y2)||(!decide ((y1.length:Int)=3)))) (wG (y1.getD ((0:Int).toNat) ([]:Str))) false fun y3 =>
 ask ((!(!(((!y2)||(!decide ((y1.length:Int)=3)))||(!y3))))||aD 1 y1.length) <|
 .dH (!(((!y2)||(!decide ((y1.length:Int)=3)))||(!y3))) (wG (y1.getD ((1:Int).toNat) ([]:Str))) false fun y4 =>
 .ite ((((!y2)||(!decide ((y1.length:Int)=3)))||(!y3))||(!y4)) (
 .ret (([],[],[],false),false,())) (
 ask (aD 2 y1.length) <|
 .ite ((y1.getD ((2:Int).toNat) ([]:Str))==([117,112]:Str)) (
 .ite ((y1.getD ((2:Int).toNat) ([]:Str))==([117,112]:Str)) (
 ask (aD 0 y1.length) <|
 ask (aD 1 y1.length) <|
 ask (aD 2 y1.length) <|
 .ret ((x0,(y1.getD ((0:Int).toNat) ([]:Str)),(y1.getD ((1:Int).toNat) ([]:Str)),((y1.getD ((2:Int).toNat) ([]:Str))==([117,112]:Str))),true,())) (
 .ret (([],[],[],false),false,()))) (
 .ite ((y1.getD ((2:Int).toNat) ([]:Str))==([100,111,119,110]:Str)) (
 ask (aD 0 y1.length) <|
 ask (aD 1 y1.length) <|
 ask (aD 2 y1.length) <|
 .ret ((x0,(y1.getD ((0:Int).toNat) ([]:Str)),(y1.getD ((1:Int).toNat) ([]:Str)),((y1.getD ((2:Int).toNat) ([]:Str))==([117,112]:Str))),true,())) (
 .ret (([],[],[],false),false,()))))
def OT:aA:=⟨65,(.cons (.val false .str) (.cons (.val false .str) .nil)),.vals (.cons (.val true bH) (.cons (.val false .bool) .nil)),fun z=>Ao z.1 z.2.1,((aS bH:aL),false,())⟩
theorem Wl:OT.ok Tryz.prog:=by
 refine aA.lift mix aI bq _ Tryz.func65 (c:=(ak Tryz.f65)) (by kernel_rfl) (o:=aO [Wi,IE] [] af2) (aR ⟨af0,OQ,trivial⟩) (aQ [] (by kernel_rfl) trivial rfl) ?_
 intro z; kernel_rfl
def Wm:Nat->List Pre
 | 5=>[.gP 1]
 | _=>[]
def Ap (t:List Entry) (t2:Int) (t3:Int) (out:List aL):Tree ((Int×(List aL))⊕(List aL)) :=
 .ite (decide (t3<t2)) (
 ask (aD t3 t.length) <|
 .both (
 .bnd (IB (t.getD t3.toNat (aS bf:Entry)).1 ([110,111,100,101,47]:Str)) fun y3 =>
 .both (
 .bnd (Ao y3 (t.getD t3.toNat (aS bf:Entry)).2.2.2) fun y5 =>
 (fun q9=>.both (.both q9 (.both q9 q9)) (.both (.both q9 q9) (.both (.both q9 q9) q9))) (.ite y5.2.1 (
 ask (decide ((out++[y5.1]).length*56<=bD)) <|
 .ret (.inl ((ay (t3+1)),(out++[y5.1])))) (
 .ret (.inl ((ay (t3+1)),out))))) (
 .bnd (Ao y3 (t.getD t3.toNat (aS bf:Entry)).2.2.2) fun y4 =>
 (fun q9=>.both (.both q9 q9) q9) (.ite y4.2.1 (
 ask (decide ((out++[y4.1]).length*56<=bD)) <|
 .ret (.inl ((ay (t3+1)),(out++[y4.1])))) (
 .ret (.inl ((ay (t3+1)),out)))))) (
 .bnd (IB (t.getD t3.toNat (aS bf:Entry)).1 ([110,111,100,101,47]:Str)) fun y1 =>
 .bnd (Ao y1 (t.getD t3.toNat (aS bf:Entry)).2.2.2) fun y2 =>
 (fun q9=>.both (.both q9 q9) q9) (.ite y2.2.1 (
 ask (decide ((out++[y2.1]).length*56<=bD)) <|
 .ret (.inl ((ay (t3+1)),(out++[y2.1])))) (
 .ret (.inl ((ay (t3+1)),out)))))) (
 .ret (.inr out))
def OU:Lp:=⟨3,[.own 3 51 bH],[],(ca (aF (.cons (.own 0) (ca (aJ (.cons (.val false (.list bf)) (.cons (.val false (.int .i64)) (.cons (.val false (.int .i64)) (aJ (bB .nil)))))))))),(.rows 51 bH .nil),0,.one 1 [] (ca (aF (.cons (.own 0) (aJ (ca8 (bB .nil)))))) (.rows 51 bH .nil),fun z=>.bnd (.loop (fun v=>Ap z.1.2.2.2.2.2.2.2.2.2.1 z.1.2.2.2.2.2.2.2.2.2.2.1 v.1 v.2) (z.1.2.2.2.2.2.2.2.2.2.2.2.1,z.2.1)) fun r=>.ret ((cu (ah ((),(ai (az (aC ())))))),r,())⟩
theorem af3:OU.ok Tryz.prog (aP (aK (ak Tryz.f30)) 0):=by
 refine Lp.lift (π:=((List Entry)×Int)) (V:=(Int×(List aL))) (ρ:=List aL) mix aI OU (o:=aO [OJ,OL,OT] [] Wm) (aR ⟨Wd,We,Wl,trivial⟩) (aQ [] (by kernel_rfl) trivial rfl) (fun x v=>((cu (ah ((),(cu (ai (x.1,x.2,v.1,(ai (aC ())))))))),v.2,())) (fun x r=>((cu (ah ((),(ai (az (aC ())))))),r,())) (fun x v=>Ap x.1 x.2 v.1 v.2) (fun x r=>.ret ((cu (ah ((),(ai (az (aC ())))))),r,())) (fun z=>(z.1.2.2.2.2.2.2.2.2.2.1,z.1.2.2.2.2.2.2.2.2.2.2.1)) (fun z=>(z.1.2.2.2.2.2.2.2.2.2.2.2.1,z.2.1)) (fun _=>rfl) (fun _=>rfl) (fun _ _ _ h=>h) ?_
 intro x v; kernel_rfl
def wN (x0:List Entry):Tree (List aL) :=
 .bnd (GU x0 ([110,111,100,101]:Str)) fun y1 =>
 .bnd (.loop (fun v=>Ap y1 (y1.length:Int) v.1 v.2) (0,([]:List aL))) fun r2 =>
 .ret r2
def rE:aA:=⟨30,(.cons (.val false (.list bf)) .nil),.fresh 51 bH,fun z=>wN z.1,([]:List aL)⟩
theorem uk:rE.ok Tryz.prog:=by
 refine aA.lift mix aI bq _ Tryz.func30 (c:=(ak Tryz.f30)) (by kernel_rfl) (o:=aO [OJ,OL,OT] [OU] Wm) (aR ⟨Wd,We,Wl,trivial⟩) (aQ [aP (aK (ak Tryz.f30)) 0] (by kernel_rfl) ⟨af3,trivial⟩ (by kernel_rfl)) ?_
 intro z; kernel_rfl
def Wn (x0:aL):Tree Bool :=
 .ret true
def OV:aA:=⟨36,(.cons (.val true bH) .nil),.vals (.val false .bool),fun z=>Wn z.1,false⟩
theorem Wo:OV.ok Tryz.prog:=by
 refine aA.lift mix aI bq _ Tryz.func36 (c:=(ak Tryz.f36)) (by kernel_rfl) (o:=aO [] [] aU) (aR trivial) (aQ [] (by kernel_rfl) trivial rfl) ?_
 intro z; kernel_rfl
def Aq (t:Int) (rows:List aL) (t2:Int) (out:List Str):Tree ((Int×(List Str))⊕(List Str)) :=
 .ite (decide (t2<t)) (
 ask (aD t2 rows.length) <|
 .bnd (Wn (rows.getD t2.toNat (aS bH:aL))) fun y1 =>
 .ite y1 (
 ask (decide ((out++[(rows.getD t2.toNat (aS bH:aL)).1]).length*16<=bD)) <|
 .ret (.inl ((ay (t2+1)),(out++[(rows.getD t2.toNat (aS bH:aL)).1])))) (
 .ret (.inl ((ay (t2+1)),out)))) (
 .ret (.inr out))
def OW:Lp:=⟨3,[.own 5 9 .str],[],(ca (.cons (.fn 36 .nil .nil) (ca (aF (.cons (.own 1) (ca (aF (.cons (.own 0) (.cons (.val false (.int .i64)) (.cons (.val false (.int .i64)) (ca (aJ (ca8 .nil))))))))))))),(.rows 51 bH (.rows 9 .str .nil)),0,.one 1 [] (ca (aJ (.cons (.own 1) (ca (aF (bB .nil)))))) (.dead (.rows 9 .str .nil)),fun z=>.bnd (.loop (fun v=>Aq z.1.2.2.2.2.2.2.2.2.2.2.1 z.2.1 v.1 v.2) (z.1.2.2.2.2.2.2.2.2.2.2.2.1,z.2.2.1)) fun r=>.ret ((cu (ai ((),(cu (ah (aC ())))))),r,())⟩
theorem af4:OW.ok Tryz.prog (aP (aK (ak Tryz.f35)) 0):=by
 refine Lp.lift (π:=(Int×(List aL))) (V:=(Int×(List Str))) (ρ:=List Str) mix aI OW (o:=aO [rE,OV] [] aU) (aR ⟨uk,Wo,trivial⟩) (aQ [] (by kernel_rfl) trivial rfl) (fun x v=>((cu (((),()),(cu (ah ((),(cu (ah ((),x.1,v.1,(cu (ai (az ()))))))))))),x.2,v.2,())) (fun x r=>((cu (ai ((),(cu (ah (aC ())))))),r,())) (fun x v=>Aq x.1 x.2 v.1 v.2) (fun x r=>.ret ((cu (ai ((),(cu (ah (aC ())))))),r,())) (fun z=>(z.1.2.2.2.2.2.2.2.2.2.2.1,z.2.1)) (fun z=>(z.1.2.2.2.2.2.2.2.2.2.2.2.1,z.2.2.1)) (fun _=>rfl) (fun _=>rfl) (fun _ _ _ h=>h) ?_
 intro x v; kernel_rfl
def G5 (x0:List Entry):Tree (List Str) :=
 .bnd (wN x0) fun y1 =>
 .bnd (.loop (fun v=>Aq (y1.length:Int) y1 v.1 v.2) (0,([]:List Str))) fun r2 =>
 .ret r2
def GX:aA:=⟨35,(.cons (.val false (.list bf)) (.cons (.fn 36 .nil .nil) .nil)),.fresh 9 .str,fun z=>G5 z.1,([]:List Str)⟩
theorem LW:GX.ok Tryz.prog:=by
 refine aA.lift mix aI bq _ Tryz.func35 (c:=(ak Tryz.f35)) (by kernel_rfl) (o:=aO [rE,OV] [OW] aU) (aR ⟨uk,Wo,trivial⟩) (aQ [aP (aK (ak Tryz.f35)) 0] (by kernel_rfl) ⟨af4,trivial⟩ (by kernel_rfl)) ?_
 intro z; kernel_rfl
def IG (x0:Int):Tree Bool :=
 .ret ((decide ((1:Int)<=x0))&&(decide (x0<=4096)))
def OX:aA:=⟨60,(.cons (.val false (.int .i64)) .nil),.vals (.val false .bool),fun z=>IG z.1,false⟩
theorem Wp:OX.ok Tryz.prog:=by
 refine aA.lift mix aI bq _ Tryz.func60 (c:=(ak Tryz.f60)) (by kernel_rfl) (o:=aO [] [] aU) (aR trivial) (aQ [] (by kernel_rfl) trivial rfl) ?_
 intro z; kernel_rfl
def Wq (x0:Int):Tree Str :=
 .ret (lq x0)
def Ws:aA:=⟨102,(.cons (.val false (.int .i64)) .nil),.vals (.val false .str),fun z=>Wq z.1,([]:Str)⟩
theorem af5:Ws.ok Tryz.prog :=
 af6 (enters_of Tryz.func102 (by kernel_rfl) rfl) (fun n w h0 h1 hg=>Tryz.strconv_Itoa n h0 h1 w (adN hg))
def OY (x0:Int):Tree Str :=
 .bnd (Wq x0) fun y1 =>
 .ret y1
def Wt:aA:=⟨84,(.cons (.val false (.int .i64)) .nil),.vals (.val false .str),fun z=>OY z.1,([]:Str)⟩
theorem af7:Wt.ok Tryz.prog:=by
 refine aA.lift mix aI bq _ Tryz.func84 (c:=(ak Tryz.f84)) (by kernel_rfl) (o:=aO [Ws] [] aU) (aR ⟨af5,trivial⟩) (aQ [] (by kernel_rfl) trivial rfl) ?_
 intro z; kernel_rfl
def OZ (x0:List Str) (x1:Str):Tree Str :=
 Ar x0 x1
def Wu:aA:=⟨101,(.cons (.val false (.list .str)) (.cons (.val false .str) .nil)),.vals (.val false .str),fun z=>OZ z.1 z.2.1,([]:Str)⟩
theorem af8:Wu.ok Tryz.prog :=
 af9 (enters_of Tryz.func101 (by kernel_rfl) rfl) (fun a c sep w=>Tryz.strings_Join_none a c sep w) (fun bk o c xs sep w h1 h2 h3 h4 h5=>Tryz.strings_Join bk o c xs sep w h1 h2 h3 h4 h5)
def II (x0:List Str):Tree Str :=
 .bnd (OZ x0 ([47]:Str)) fun y1 =>
 .ret y1
def Wv:aA:=⟨83,(.cons (.val false (.list .str)) .nil),.vals (.val false .str),fun z=>II z.1,([]:Str)⟩
theorem aga:Wv.ok Tryz.prog:=by
 refine aA.lift mix aI bq _ Tryz.func83 (c:=(ak Tryz.f83)) (by kernel_rfl) (o:=aO [Wu] [] aU) (aR ⟨af8,trivial⟩) (aQ [] (by kernel_rfl) trivial rfl) ?_
 intro z; kernel_rfl
def IJ (x0:Int):Tree Str :=
 .bnd (OY x0) fun y1 =>
 .bnd (II [([114,105,110,103]:Str),y1]) fun y2 =>
 .ret y2
def O0:aA:=⟨62,(.cons (.val false (.int .i64)) .nil),.vals (.val false .str),fun z=>IJ z.1,([]:Str)⟩
theorem Ww:O0.ok Tryz.prog:=by
 refine aA.lift mix aI bq _ Tryz.func62 (c:=(ak Tryz.f62)) (by kernel_rfl) (o:=aO [Wt,Wv] [] aU) (aR ⟨af7,aga,trivial⟩) (aQ [] (by kernel_rfl) trivial rfl) ?_
 intro z; kernel_rfl
def O1 (x0:Entry) (x1:Str):Tree Bool :=
 .ret (x0.1==x1)
def O3:aA:=⟨82,(.cons (.val true bf) (.cons (.ptr .str) .nil)),.vals (.val false .bool),fun z=>O1 z.1 z.2.1,false⟩
theorem Wx:O3.ok Tryz.prog:=by
 refine aA.lift mix aI bq _ Tryz.func82 (c:=(ak Tryz.f82)) (by kernel_rfl) (o:=aO [] [] aU) (aR trivial) (aQ [] (by kernel_rfl) trivial rfl) ?_
 intro z; kernel_rfl
def DW (s_:List Entry) (f:Str) (t:Int) (t2:Int):Tree (Int⊕(Int⊕Unit)) :=
 .ite (decide (t2<t)) (
 ask (aD t2 s_.length) <|
 .bnd (O1 (s_.getD t2.toNat (aS bf:Entry)) f) fun y1 =>
 .ite y1 (
 .ret (.inr (.inl t2))) (
 .ret (.inl (ay (t2+1))))) (
 .ret (.inr (.inr ())))
def O4:Lp:=⟨2,[],[],(.cons (.val false (.list bf)) (.cons (.fn 82 .nil (.cons (.ptr .str) .nil)) (ca (aJ (.cons (.val false (.int .i64)) (.cons (.val false (.int .i64)) (aF (ca8 .nil)))))))),.nil,0,.more 0 [] (aJ (.cons (.val false (.int .i64)) (aF (aJ (ca8 .nil))))) .nil (.one 1 [] (ca (aF (bB .nil))) .nil),fun z=>.bnd (.loop (fun v=>DW z.1.1 z.1.2.1.2.1 z.1.2.2.2.2.2.2.2.1 v) z.1.2.2.2.2.2.2.2.2.1) fun r=>.sum r (fun a0=>.ret (.inl ((ai (a0,(ah (ai (az ()))))),()))) (fun b0=>.ret (.inr ((cu (ah (aC ()))),())))⟩
theorem agb:O4.ok Tryz.prog (aP (aK (ak Tryz.f81)) 0):=by
 refine Lp.lift (π:=((List Entry)×Str×Int)) (V:=Int) (ρ:=(Int⊕Unit)) mix aI O4 (o:=aO [O3] [] aU) (aR ⟨Wx,trivial⟩) (aQ [] (by kernel_rfl) trivial rfl) (fun x v=>((x.1,((),x.2.1,()),(cu (ai (x.2.2,v,(ah (az ())))))),())) (fun x r=>match r with | .inl a0=>.inl ((ai (a0,(ah (ai (az ()))))),()) | .inr b0=>(.inr ((cu (ah (aC ()))),()))) (fun x v=>DW x.1 x.2.1 x.2.2 v) (fun x r=>.sum r (fun a0=>.ret (.inl ((ai (a0,(ah (ai (az ()))))),()))) (fun b0=>.ret (.inr ((cu (ah (aC ()))),())))) (fun z=>(z.1.1,z.1.2.1.2.1,z.1.2.2.2.2.2.2.2.1)) (fun z=>z.1.2.2.2.2.2.2.2.2.1) (fun _=>rfl) (fun _=>rfl) (fun x r Q h=>match r,h with | .inl _,h=>h | .inr b0,h=>(h)) ?_
 intro x v; kernel_rfl
def IK (x0:List Entry) (x1:Str):Tree Int :=
 .bnd (.loop (fun v=>DW x0 x1 (x0.length:Int) v) 0) fun r1 =>
 .sum r1 (fun r2 =>
 .ret r2) (fun r3 =>
 .ret (-1))
def Wy:aA:=⟨81,(.cons (.val false (.list bf)) (.cons (.fn 82 .nil (.cons (.ptr .str) .nil)) .nil)),.vals (.val false (.int .i64)),fun z=>IK z.1 z.2.1.2.1,(0:Int)⟩
theorem agc:Wy.ok Tryz.prog:=by
 refine aA.lift mix aI bq _ Tryz.func81 (c:=(ak Tryz.f81)) (by kernel_rfl) (o:=aO [O3] [O4] aU) (aR ⟨Wx,trivial⟩) (aQ [aP (aK (ak Tryz.f81)) 0] (by kernel_rfl) ⟨agb,trivial⟩ (by kernel_rfl)) ?_
 intro z; kernel_rfl
def GQ (x0:List Entry) (x1:Str):Tree ik :=
 .bnd (IK x0 x1) fun y1 =>
 .ite (decide (y1<0)) (
 .ret (0,[],[])) (
 ask (aD y1 x0.length) <|
 .ret (x0.getD y1.toNat (aS bf:Entry)).2)
def O5:aA:=⟨61,(.cons (.val false (.list bf)) (.cons (.val false .str) .nil)),.vals (.val true jY),fun z=>GQ z.1 z.2.1,(aS jY:ik)⟩
theorem Wz:O5.ok Tryz.prog:=by
 refine aA.lift mix aI bq _ Tryz.func61 (c:=(ak Tryz.f61)) (by kernel_rfl) (o:=aO [Wy] [] aU) (aR ⟨agc,trivial⟩) (aQ [] (by kernel_rfl) trivial rfl) ?_
 intro z; kernel_rfl
def wZ (l:List Entry) (t:Int) (t2:Int) (out:List Str):Tree ((Int×(List Str))⊕(List Str)) :=
 .ite (decide (t2<t)) (
 .bnd (IJ t2) fun y1 =>
 .bnd (GQ l y1) fun y2 =>
 .bnd (wG y2.2.2) fun y3 =>
 .ite y3 (
 ask (aD t2 out.length) <|
 .ret (.inl ((ay (t2+1)),(out.set t2.toNat y2.2.2)))) (
 .ret (.inl ((ay (t2+1)),out)))) (
 .ret (.inr out))
def O6:Lp:=⟨5,[],[],(.cons (.val false (.list bf)) (aJ (.cons (.own 0) (ca8 (.cons (.val false (.int .i64)) (.cons (.val false (.int .i64)) (ca (aF (aJ (ca8 .nil)))))))))),(.rows 9 .str .nil),0,.one 1 [] (ca (aJ (.cons (.own 0) (ca (ca8 (bB .nil)))))) (.rows 9 .str .nil),fun z=>.bnd (.loop (fun v=>wZ z.1.1 z.1.2.2.2.2.2.2.2.2.2.2.2.2.2.2.1 v.1 v.2) (z.1.2.2.2.2.2.2.2.2.2.2.2.2.2.2.2.1,z.2.1)) fun r=>.ret ((cu (ai ((),(cu (az (aC ())))))),r,())⟩
theorem agd:O6.ok Tryz.prog (aP (aK (ak Tryz.f29)) 0):=by
 refine Lp.lift (π:=((List Entry)×Int)) (V:=(Int×(List Str))) (ρ:=List Str) mix aI O6 (o:=aO [OX,O0,O5,IE] [] aU) (aR ⟨Wp,Ww,Wz,OQ,trivial⟩) (aQ [] (by kernel_rfl) trivial rfl) (fun x v=>((x.1,(ai ((),(az (x.2,v.1,(cu (ah (ai (az ()))))))))),v.2,())) (fun x r=>((cu (ai ((),(cu (az (aC ())))))),r,())) (fun x v=>wZ x.1 x.2 v.1 v.2) (fun x r=>.ret ((cu (ai ((),(cu (az (aC ())))))),r,())) (fun z=>(z.1.1,z.1.2.2.2.2.2.2.2.2.2.2.2.2.2.2.1)) (fun z=>(z.1.2.2.2.2.2.2.2.2.2.2.2.2.2.2.2.1,z.2.1)) (fun _=>rfl) (fun _=>rfl) (fun _ _ _ h=>h) ?_
 intro x v; kernel_rfl
def CX (x0:List Entry) (x1:Int):Tree (List Str) :=
 .bnd (IG x1) fun y1 =>
 .ite (!y1) (
 .ret []) (
 ask (decide ((0:Int)<=x1)) <|
 ask (decide (x1<=x1)) <|
 ask (decide (x1.toNat*16<=bD)) <|
 .bnd (.loop (fun v=>wZ x0 ((List.replicate x1.toNat ([]:Str)).length:Int) v.1 v.2) (0,(List.replicate x1.toNat ([]:Str)))) fun r2 =>
 .ret r2)
def zu:aA:=⟨29,(.cons (.val false (.list bf)) (.cons (.val false (.int .i64)) .nil)),.fresh 9 .str,fun z=>CX z.1 z.2.1,([]:List Str)⟩
theorem CW:zu.ok Tryz.prog:=by
 refine aA.lift mix aI bq _ Tryz.func29 (c:=(ak Tryz.f29)) (by kernel_rfl) (o:=aO [OX,O0,O5,IE] [O6] aU) (aR ⟨Wp,Ww,Wz,OQ,trivial⟩) (aQ [aP (aK (ak Tryz.f29)) 0] (by kernel_rfl) ⟨agd,trivial⟩ (by kernel_rfl)) ?_
 intro z; kernel_rfl
def uz (names:List Str) (t:List Str) (t2:Int) (t3:Int) (rows:List (Str×Int)):Tree ((Int×(List (Str×Int)))⊕(List (Str×Int))) :=
 .ite (decide (t3<t2)) (
 ask (aD t3 t.length) <|
 ask (decide ((dn .str (.int .i64) rows (t.getD t3.toNat ([]:Str)) (ay (((getM .str (.int .i64) rows (t.getD t3.toNat ([]:Str))).getD (0:Int))+1))).length<=9223372036854775807)) <|
 .ret (.inl ((ay (t3+1)),(dn .str (.int .i64) rows (t.getD t3.toNat ([]:Str)) (ay (((getM .str (.int .i64) rows (t.getD t3.toNat ([]:Str))).getD (0:Int))+1)))))) (
 .ret (.inr rows))
def O7:Lp:=⟨3,[],[],(ca (.cons (.val false (.list .str)) (ca (aF (.cons (.mp 0) (aF (aJ (.cons (.val false (.list .str)) (.cons (.val false (.int .i64)) (.cons (.val false (.int .i64)) (aF (aJ (bB .nil))))))))))))),(.map .str (.int .i64) .nil),0,.one 1 [] (ca (.cons (.val false (.list .str)) (ca (aF (.cons (.mp 0) (ca (aF (aJ (ca8 (bB .nil)))))))))) (.map .str (.int .i64) .nil),fun z=>.bnd (.loop (fun v=>uz z.1.2.1 z.1.2.2.2.2.2.2.2.2.2.2.2.2.1 z.1.2.2.2.2.2.2.2.2.2.2.2.2.2.1 v.1 v.2) (z.1.2.2.2.2.2.2.2.2.2.2.2.2.2.2.1,z.2.1)) fun r=>.ret ((cu (z.1.2.1,(cu (ah ((),(cu (ah (ai (az (aC ())))))))))),r,())⟩
theorem age:O7.ok Tryz.prog (aP (aK (ak Tryz.f37)) 0):=by
 refine Lp.lift (π:=((List Str)×(List Str)×Int)) (V:=(Int×(List (Str×Int)))) (ρ:=List (Str×Int)) mix aI O7 (o:=aO [] [] aU) (aR trivial) (aQ [] (by kernel_rfl) trivial rfl) (fun x v=>((cu (x.1,(cu (ah ((),(ah (ai (x.2.1,x.2.2,v.1,(ah (ai (aC ()))))))))))),v.2,())) (fun x r=>((cu (x.1,(cu (ah ((),(cu (ah (ai (az (aC ())))))))))),r,())) (fun x v=>uz x.1 x.2.1 x.2.2 v.1 v.2) (fun x r=>.ret ((cu (x.1,(cu (ah ((),(cu (ah (ai (az (aC ())))))))))),r,())) (fun z=>(z.1.2.1,z.1.2.2.2.2.2.2.2.2.2.2.2.2.1,z.1.2.2.2.2.2.2.2.2.2.2.2.2.2.1)) (fun z=>(z.1.2.2.2.2.2.2.2.2.2.2.2.2.2.2.1,z.2.1)) (fun _=>rfl) (fun _=>rfl) (fun _ _ _ h=>h) ?_
 intro x v; kernel_rfl
def Au (t:List Str) (t2:Int) (rows:List (Str×Int)) (t3:Int) (out:List Int):Tree ((Int×(List Int))⊕(List Int)) :=
 .ite (decide (t3<t2)) (
 ask (aD t3 t.length) <|
 ask (decide ((out++[((getM .str (.int .i64) rows (t.getD t3.toNat ([]:Str))).getD (0:Int))]).length*8<=bD)) <|
 .ret (.inl ((ay (t3+1)),(out++[((getM .str (.int .i64) rows (t.getD t3.toNat ([]:Str))).getD (0:Int))])))) (
 .ret (.inr out))
def O8:Lp:=⟨9,[.own 8 3 (.int .i64)],[],(ca (aJ (.cons (.mp 0) (aF (.cons (.own 1) (aF (aJ (ca8 (.cons (.val false (.list .str)) (.cons (.val false (.int .i64)) (.cons (.val false (.int .i64)) (ca (aF (ca8 .nil)))))))))))))),(.map .str (.int .i64) (.rows 3 (.int .i64) .nil)),0,.one 3 [] (ca8 (.cons (.own 1) (aJ (ca8 (bB .nil))))) (.map .str (.int .i64) (.rows 3 (.int .i64) .nil)),fun z=>.bnd (.loop (fun v=>Au z.1.2.2.2.2.2.2.2.2.2.2.2.2.2.2.2.2.2.2.2.2.2.2.2.1 z.1.2.2.2.2.2.2.2.2.2.2.2.2.2.2.2.2.2.2.2.2.2.2.2.2.1 z.2.1 v.1 v.2) (z.1.2.2.2.2.2.2.2.2.2.2.2.2.2.2.2.2.2.2.2.2.2.2.2.2.2.1,z.2.2.1)) fun r=>.ret ((az ((),(ai (az (aC ()))))),z.2.1,r,())⟩
theorem agf:O8.ok Tryz.prog (aP (aK (ak Tryz.f37)) 1):=by
 refine Lp.lift (π:=((List Str)×Int×(List (Str×Int)))) (V:=(Int×(List Int))) (ρ:=List Int) mix aI O8 (o:=aO [] [] aU) (aR trivial) (aQ [] (by kernel_rfl) trivial rfl) (fun x v=>((cu (ai ((),(ah ((),(ah (ai (az (x.1,x.2.1,v.1,(cu (ah (az ())))))))))))),x.2.2,v.2,())) (fun x r=>((az ((),(ai (az (aC ()))))),x.2.2,r,())) (fun x v=>Au x.1 x.2.1 x.2.2 v.1 v.2) (fun x r=>.ret ((az ((),(ai (az (aC ()))))),x.2.2,r,())) (fun z=>(z.1.2.2.2.2.2.2.2.2.2.2.2.2.2.2.2.2.2.2.2.2.2.2.2.1,z.1.2.2.2.2.2.2.2.2.2.2.2.2.2.2.2.2.2.2.2.2.2.2.2.2.1,z.2.1)) (fun z=>(z.1.2.2.2.2.2.2.2.2.2.2.2.2.2.2.2.2.2.2.2.2.2.2.2.2.2.1,z.2.2.1)) (fun _=>rfl) (fun _=>rfl) (fun _ _ _ h=>h) ?_
 intro x v; kernel_rfl
def G6 (x0:List Str) (x1:List Str):Tree (List Int) :=
 .bnd (.loop (fun v=>uz x1 x0 (x0.length:Int) v.1 v.2) (0,([]:List (Str×Int)))) fun r1 =>
 .bnd (.loop (fun v=>Au x1 (x1.length:Int) r1 v.1 v.2) (0,([]:List Int))) fun r2 =>
 .ret r2
def GY:aA:=⟨37,(.cons (.val false (.list .str)) (.cons (.val false (.list .str)) .nil)),.fresh 3 (.int .i64),fun z=>G6 z.1 z.2.1,([]:List Int)⟩
theorem LX:GY.ok Tryz.prog:=by
 refine aA.lift mix aI bq _ Tryz.func37 (c:=(ak Tryz.f37)) (by kernel_rfl) (o:=aO [] [O7,O8] aU) (aR trivial) (aQ [aP (aK (ak Tryz.f37)) 0,aP (aK (ak Tryz.f37)) 1] (by kernel_rfl) ⟨age,agf,trivial⟩ (by kernel_rfl)) ?_
 intro z; kernel_rfl
def WA (x0:Int):Tree Bool :=
 .ret ((decide ((1:Int)<=x0))&&(decide (x0<=16)))
def WB:aA:=⟨67,(.cons (.val false (.int .i64)) .nil),.vals (.val false .bool),fun z=>WA z.1,false⟩
theorem agh:WB.ok Tryz.prog:=by
 refine aA.lift mix aI bq _ Tryz.func67 (c:=(ak Tryz.f67)) (by kernel_rfl) (o:=aO [] [] aU) (aR trivial) (aQ [] (by kernel_rfl) trivial rfl) ?_
 intro z; kernel_rfl
def IL (x0:Int) (x1:Int):Tree Int :=
 .ite (decide (x1<1)) (
 .ret 0) (
 ask (!decide (x1=0)) <|
 ask (!decide (x1=0)) <|
 .ret ((ay ((x0.tmod x1)+x1)).tmod x1))
def DX:aA:=⟨106,(.cons (.val false (.int .i64)) (.cons (.val false (.int .i64)) .nil)),.vals (.val false (.int .i64)),fun z=>IL z.1 z.2.1,(0:Int)⟩
theorem IP:DX.ok Tryz.prog:=by
 refine aA.lift mix aI bq _ Tryz.func106 (c:=(ak Tryz.f106)) (by kernel_rfl) (o:=aO [] [] aU) (aR trivial) (aQ [] (by kernel_rfl) trivial rfl) ?_
 intro z; kernel_rfl
def DY (x0:Int) (x1:List Bool) (x2:List Int):Tree (Unit×((Unit×Unit)×((Unit×Unit)×((List Bool)×((List Int)×Unit))))) :=
 ask (aD x0 x1.length) <|
 ask (decide ((x2++[x0]).length*8<=bD)) <|
 .ret ((),((),()),((),()),(x1.set x0.toNat true),(x2++[x0]),())
def DZ:fH:=⟨105,(.cons (.val false (.int .i64)) (.cons (.ref 0 0) (.cons (.ref 1 0) .nil))),(.cells 106 (.cons (.own 2) .nil) (.cells 34 (.cons (.own 3) .nil) (.rows 4 .bool (.rows 3 (.int .i64) .nil)))),[],.nil,(.cells 106 (.cons (.own 2) .nil) (.cells 34 (.cons (.own 3) .nil) (.rows 4 .bool (.rows 3 (.int .i64) .nil)))),some 1000012,fun z=>DY z.1.1 z.2.2.2.1 z.2.2.2.2.1⟩
theorem IQ:DZ.ok Tryz.prog:=by
 refine fH.lift mix aI bq _ Tryz.func105 (c:=(ak Tryz.f105)) (by kernel_rfl) (o:=aO [] [] aU) (aR trivial) (aQ [] (by kernel_rfl) trivial rfl) (fun _=>rfl) ?_
 intro z; kernel_rfl
def IU:Nat->List Pre
 | 8=>[.tT 3 0 3 (.int .i64)]
 | _=>[]
def Av (owners:List Str) (l:List aL) (part:Int) (k:Int) (rows:List (Str×Int)):Tree ((Int×(List (Str×Int)))⊕(List (Str×Int))) :=
 .ite (decide ((0:Int)<=k)) (
 ask (aD k l.length) <|
 ask (decide ((dn .str (.int .i64) rows (l.getD k.toNat (aS bH:aL)).1 k).length<=9223372036854775807)) <|
 .ret (.inl ((ay (k-1)),(dn .str (.int .i64) rows (l.getD k.toNat (aS bH:aL)).1 k)))) (
 .ret (.inr rows))
def O9:Lp:=⟨3,[],[],(.cons (.val false (.list .str)) (.cons (.val false (.list bH)) (.cons (.val false (.int .i64)) (aJ (.cons (.mp 0) (.cons (.val false (.int .i64)) (aF (ca8 (aZ (aZ .nil)))))))))),(.map .str (.int .i64) .nil),0,.one 1 [] (.cons (.val false (.list .str)) (.cons (.val false (.list bH)) (.cons (.val false (.int .i64)) (aJ (.cons (.mp 0) (ca (aF (ca8 (aZ (aZ .nil)))))))))) (.map .str (.int .i64) .nil),fun z=>.bnd (.loop (fun v=>Av z.1.1 z.1.2.1 z.1.2.2.1 v.1 v.2) (z.1.2.2.2.2.2.2.2.2.1,z.2.1)) fun r=>.ret ((z.1.1,z.1.2.1,z.1.2.2.1,(ai ((),(cu (ah (az (aj (aj ())))))))),r,())⟩
theorem agi:O9.ok Tryz.prog (aP (aK (ak Tryz.f92)) 0):=by
 refine Lp.lift (π:=((List Str)×(List aL)×Int)) (V:=(Int×(List (Str×Int)))) (ρ:=List (Str×Int)) mix aI O9 (o:=orM [DX] [DZ] [] IU) (jW ⟨IP,trivial⟩ ⟨IQ,trivial⟩) (jX [] (by kernel_rfl) trivial rfl) (fun x v=>((x.1,x.2.1,x.2.2,(ai ((),v.1,(ah (az (aj (aj ()))))))),v.2,())) (fun x r=>((x.1,x.2.1,x.2.2,(ai ((),(cu (ah (az (aj (aj ())))))))),r,())) (fun x v=>Av x.1 x.2.1 x.2.2 v.1 v.2) (fun x r=>.ret ((x.1,x.2.1,x.2.2,(ai ((),(cu (ah (az (aj (aj ())))))))),r,())) (fun z=>(z.1.1,z.1.2.1,z.1.2.2.1)) (fun z=>(z.1.2.2.2.2.2.2.2.2.1,z.2.1)) (fun _=>rfl) (fun _=>rfl) (fun _ _ _ h=>h) ?_
 intro x v; kernel_rfl
def uA (owners:List Str) (l:List aL) (from_:Int) (t:Int) (t2:Int) (rows:List (Str×Int)) (rows2:List Bool) (rows3:List Int):Tree ((Int×(List (Str×Int))×(List Bool)×(List Int))⊕((List (Str×Int))×(List Bool)×(List Int))) :=
 .ite (decide (t2<t)) (
 ask (!decide ((owners.length:Int)=0)) <|
 ask (aD ((ay (from_+t2)).tmod (owners.length:Int)) owners.length) <|
 .ite ((getM .str (.int .i64) rows (owners.getD (((ay (from_+t2)).tmod (owners.length:Int)).toNat) ([]:Str))).isSome) (
 .bnd (DY ((getM .str (.int .i64) rows (owners.getD (((ay (from_+t2)).tmod (owners.length:Int)).toNat) ([]:Str))).getD (0:Int)) rows2 rows3) fun y1 =>
 .ret (.inl ((ay (t2+1)),(iV .str (.int .i64) rows (owners.getD (((ay (from_+t2)).tmod (owners.length:Int)).toNat) ([]:Str))),y1.2.2.2.1,y1.2.2.2.2.1))) (
 .ret (.inl ((ay (t2+1)),rows,rows2,rows3)))) (
 .ret (.inr (rows,rows2,rows3)))
def Pb:Lp:=⟨11,[],[],(.cons (.val false (.list .str)) (.cons (.val false (.list bH)) (ca (aJ (.cons (.mp 0) (ca (.cons (.ref 2 0) (.cons (.ref 3 0) (.cons (.fn 105 .nil (.cons (.ref 2 0) (.cons (.ref 3 0) .nil))) (.cons (.val false (.int .i64)) (ca (aJ (ca8 (bB (.cons (.val false (.int .i64)) (.cons (.val false (.int .i64)) (ca (aF (aJ (aZ .nil)))))))))))))))))))),(.map .str (.int .i64) (.rows 4 .bool (.cells 106 (.cons (.own 1) .nil) (.cells 34 (.cons (.own 4) .nil) (.rows 3 (.int .i64) .nil))))),0,.one 3 [] (ca (.cons (.val false (.list bH)) (ca (aF (aJ (.cons (.ref 2 0) (.cons (.ref 3 0) (.cons (.fn 105 .nil (.cons (.ref 2 0) (.cons (.ref 3 0) .nil))) (ca (aF (aJ (aZ (aZ .nil))))))))))))) (.map .str (.int .i64) (.rows 4 .bool (.cells 106 (.cons (.own 1) .nil) (.cells 34 (.cons (.own 4) .nil) (.rows 3 (.int .i64) .nil))))),fun z=>.bnd (.loop (fun v=>uA z.1.1 z.1.2.1 z.1.2.2.2.2.2.2.2.2.2.2.2.2.1 z.1.2.2.2.2.2.2.2.2.2.2.2.2.2.2.2.2.2.2.2.2.2.2.2.2.2.2.2.2.2.2.2.2.2.2.2.2.2.2.2.2.2.2.1 v.1 v.2.1 v.2.2.1 v.2.2.2) (z.1.2.2.2.2.2.2.2.2.2.2.2.2.2.2.2.2.2.2.2.2.2.2.2.2.2.2.2.2.2.2.2.2.2.2.2.2.2.2.2.2.2.2.2.1,z.2.1,z.2.2.1,z.2.2.2.2.2.1)) fun r=>.ret ((cu (z.1.2.1,(cu (ah (ai ((),(),((),(),(),()),(cu (ah (ai (aj (aj ()))))))))))),r.1,r.2.1,((),()),((),()),r.2.2,())⟩
theorem agj:Pb.ok Tryz.prog (aP (aK (ak Tryz.f92)) 1):=by
 refine Lp.lift (π:=((List Str)×(List aL)×Int×Int)) (V:=(Int×(List (Str×Int))×(List Bool)×(List Int))) (ρ:=((List (Str×Int))×(List Bool)×(List Int))) mix aI Pb (o:=orM [DX] [DZ] [] IU) (jW ⟨IP,trivial⟩ ⟨IQ,trivial⟩) (jX [] (by kernel_rfl) trivial rfl) (fun x v=>((x.1,x.2.1,(cu (ai ((),(cu ((),(),((),(),(),()),x.2.2.1,(cu (ai (az (aC (x.2.2.2,v.1,(cu (ah (ai (aj ()))))))))))))))),v.2.1,v.2.2.1,((),()),((),()),v.2.2.2,())) (fun x r=>((cu (x.2.1,(cu (ah (ai ((),(),((),(),(),()),(cu (ah (ai (aj (aj ()))))))))))),r.1,r.2.1,((),()),((),()),r.2.2,())) (fun x v=>uA x.1 x.2.1 x.2.2.1 x.2.2.2 v.1 v.2.1 v.2.2.1 v.2.2.2) (fun x r=>.ret ((cu (x.2.1,(cu (ah (ai ((),(),((),(),(),()),(cu (ah (ai (aj (aj ()))))))))))),r.1,r.2.1,((),()),((),()),r.2.2,())) (fun z=>(z.1.1,z.1.2.1,z.1.2.2.2.2.2.2.2.2.2.2.2.2.1,z.1.2.2.2.2.2.2.2.2.2.2.2.2.2.2.2.2.2.2.2.2.2.2.2.2.2.2.2.2.2.2.2.2.2.2.2.2.2.2.2.2.2.2.1)) (fun z=>(z.1.2.2.2.2.2.2.2.2.2.2.2.2.2.2.2.2.2.2.2.2.2.2.2.2.2.2.2.2.2.2.2.2.2.2.2.2.2.2.2.2.2.2.2.1,z.2.1,z.2.2.1,z.2.2.2.2.2.1)) (fun _=>rfl) (fun _=>rfl) (fun _ _ _ h=>h) ?_
 intro x v; kernel_rfl
def w9 (t:Int) (rows:List (Str×Int)) (t2:Int) (rows2:List Bool) (rows3:List Int):Tree ((Int×(List Bool)×(List Int))⊕(List Int)) :=
 .ite (decide (t2<t)) (
 ask (aD t2 rows2.length) <|
 .ite (!(rows2.getD t2.toNat false)) (
 .bnd (DY t2 rows2 rows3) fun y1 =>
 .ret (.inl ((ay (t2+1)),y1.2.2.2.1,y1.2.2.2.2.1))) (
 .ret (.inl ((ay (t2+1)),rows2,rows3)))) (
 .ret (.inr rows3))
def Pg:Lp:=⟨20,[],[],(ca (ca8 (.cons (.ref 2 0) (.cons (.ref 3 0) (.cons (.fn 105 .nil (.cons (.ref 2 0) (.cons (.ref 3 0) .nil))) (ca (ca8 (bB (aZ (.cons (.val false (.int .i64)) (.cons (.val false (.int .i64)) (aJ (ca8 .nil))))))))))))),(.map .str (.int .i64) (.rows 4 .bool (.cells 106 (.cons (.own 1) .nil) (.cells 34 (.cons (.own 4) .nil) (.rows 3 (.int .i64) .nil))))),0,.one 5 [] (aF (ca8 (.cons (.ref 3 0) (ca8 (aZ (aZ .nil)))))) (.map .str (.int .i64) (.dead (.cells 106 (ca .nil) (.cells 34 (.cons (.own 4) .nil) (.rows 3 (.int .i64) .nil))))),fun z=>.bnd (.loop (fun v=>w9 z.1.2.2.2.2.2.2.2.2.2.2.2.2.2.2.2.2.2.2.2.2.2.2.2.2.2.2.2.2.2.2.2.2.2.2.2.2.2.2.2.2.2.2.2.2.2.2.2.2.2.2.2.2.2.2.2.2.2.2.2.2.2.2.2.2.2.2.2.2.2.1 z.2.1 v.1 v.2.1 v.2.2) (z.1.2.2.2.2.2.2.2.2.2.2.2.2.2.2.2.2.2.2.2.2.2.2.2.2.2.2.2.2.2.2.2.2.2.2.2.2.2.2.2.2.2.2.2.2.2.2.2.2.2.2.2.2.2.2.2.2.2.2.2.2.2.2.2.2.2.2.2.2.2.2.1,z.2.2.1,z.2.2.2.2.2.1)) fun r=>.ret ((ah (az ((),(az (aj (aj ())))))),z.2.1,(cu ()),((),()),r,())⟩
theorem agk:Pg.ok Tryz.prog (aP (aK (ak Tryz.f92)) 2):=by
 refine Lp.lift (π:=(Int×(List (Str×Int)))) (V:=(Int×(List Bool)×(List Int))) (ρ:=List Int) mix aI Pg (o:=orM [DX] [DZ] [] IU) (jW ⟨IP,trivial⟩ ⟨IQ,trivial⟩) (jX [] (by kernel_rfl) trivial rfl) (fun x v=>((cu (az ((),(),((),(),(),()),(cu (az (aC (aj (x.1,v.1,(ai (az ())))))))))),x.2,v.2.1,((),()),((),()),v.2.2,())) (fun x r=>((ah (az ((),(az (aj (aj ())))))),x.2,(cu ()),((),()),r,())) (fun x v=>w9 x.1 x.2 v.1 v.2.1 v.2.2) (fun x r=>.ret ((ah (az ((),(az (aj (aj ())))))),x.2,(cu ()),((),()),r,())) (fun z=>(z.1.2.2.2.2.2.2.2.2.2.2.2.2.2.2.2.2.2.2.2.2.2.2.2.2.2.2.2.2.2.2.2.2.2.2.2.2.2.2.2.2.2.2.2.2.2.2.2.2.2.2.2.2.2.2.2.2.2.2.2.2.2.2.2.2.2.2.2.2.2.1,z.2.1)) (fun z=>(z.1.2.2.2.2.2.2.2.2.2.2.2.2.2.2.2.2.2.2.2.2.2.2.2.2.2.2.2.2.2.2.2.2.2.2.2.2.2.2.2.2.2.2.2.2.2.2.2.2.2.2.2.2.2.2.2.2.2.2.2.2.2.2.2.2.2.2.2.2.2.2.1,z.2.2.1,z.2.2.2.2.2.1)) (fun _=>rfl) (fun _=>rfl) (fun _ _ _ h=>h) ?_
 intro x v; kernel_rfl
def IV (x0:List Str) (x1:List aL) (x2:Int):Tree (List Int) :=
 .bnd (.loop (fun v=>Av x0 x1 x2 v.1 v.2) ((ay ((x1.length:Int)-1)),([]:List (Str×Int)))) fun r1 =>
 ask (decide ((0:Int)<=(x1.length:Int))) <|
 ask (decide ((x1.length:Int)<=(x1.length:Int))) <|
 ask (decide ((x1.length:Int).toNat*1<=bD)) <|
 .bnd (IL x2 (x0.length:Int)) fun y2 =>
 .bnd (.loop (fun v=>uA x0 x1 y2 (x0.length:Int) v.1 v.2.1 v.2.2.1 v.2.2.2) (0,r1,(List.replicate (x1.length:Int).toNat (false:Bool)),([]:List Int))) fun r3 =>
 .bnd (.loop (fun v=>w9 (x1.length:Int) r3.1 v.1 v.2.1 v.2.2) (0,r3.2.1,r3.2.2)) fun r4 =>
 .ret r4
def IW:aA:=⟨92,(.cons (.val false (.list .str)) (.cons (.val false (.list bH)) (.cons (.val false (.int .i64)) .nil))),.fresh 3 (.int .i64),fun z=>IV z.1 z.2.1 z.2.2.1,([]:List Int)⟩
theorem Ph:IW.ok Tryz.prog:=by
 refine aA.lift mix aI bq _ Tryz.func92 (c:=(ak Tryz.f92)) (by kernel_rfl) (o:=orM [DX] [DZ] [O9,Pb,Pg] IU) (jW ⟨IP,trivial⟩ ⟨IQ,trivial⟩) (jX [aP (aK (ak Tryz.f92)) 0,aP (aK (ak Tryz.f92)) 1,aP (aK (ak Tryz.f92)) 2] (by kernel_rfl) ⟨agi,agj,agk,trivial⟩ (by kernel_rfl)) ?_
 intro z; kernel_rfl
def Pj  : Tree ((Unit×(Unit×Unit))×((List (Str×Int))×((Unit×Unit)×Unit))) :=
 .ret (((),(),()),([]:List (Str×Int)),((),()),())
def IX:fH:=⟨93,.nil,.nil,[],(.fn 107 .nil (.cons (.ref 1 0) .nil)),(.map .str (.int .i64) (.cells 83 (.cons (.mp 0) .nil) .nil)),none,fun z=>Pj⟩
theorem Pk:IX.ok Tryz.prog:=by
 refine fH.lift mix aI bq _ Tryz.func93 (c:=(ak Tryz.f93)) (by kernel_rfl) (o:=aO [] [] aU) (aR trivial) (aQ [] (by kernel_rfl) trivial rfl) (fun _=>rfl) ?_
 intro z; kernel_rfl
def D5 (x0:Str) (x1:List (Str×Int)):Tree (Int×((Unit×Unit)×((List (Str×Int))×Unit))) :=
 .ite (!((getM .str (.int .i64) x1 x0).isSome)) (
 ask (decide ((dn .str (.int .i64) x1 x0 (x1.length:Int)).length<=9223372036854775807)) <|
 .ret ((x1.length:Int),((),()),(dn .str (.int .i64) x1 x0 (x1.length:Int)),())) (
 .ret (((getM .str (.int .i64) x1 x0).getD (0:Int)),((),()),x1,()))
def IY:fH:=⟨107,(.cons (.val false .str) (.cons (.ref 0 0) .nil)),(.cells 83 (.cons (.mp 1) .nil) (.map .str (.int .i64) .nil)),[],(.val false (.int .i64)),(.cells 83 (.cons (.mp 1) .nil) (.map .str (.int .i64) .nil)),none,fun z=>D5 z.1.1 z.2.2.1⟩
theorem Pm:IY.ok Tryz.prog:=by
 refine fH.lift mix aI bq _ Tryz.func107 (c:=(ak Tryz.f107)) (by kernel_rfl) (o:=aO [] [] aU) (aR trivial) (aQ [] (by kernel_rfl) trivial rfl) (fun _=>rfl) ?_
 intro z; kernel_rfl
def xN (t:List (Int×Int)) (t2:Int) (t3:Int) (rows:List (Int×Int)) (rows2:List (Int×Int)):Tree ((Int×(List (Int×Int))×(List (Int×Int)))⊕((List (Int×Int))×(List (Int×Int)))) :=
 .ite (decide (t3<t2)) (
 ask (aD t3 t.length) <|
 ask (aD 0 2) <|
 .ite (decide ((0:Int)=0)) (
 ask (aD 0 2) <|
 ask (decide ((dn (.int .i64) (.int .i64) rows (t.getD t3.toNat (aS (.pair (.int .i64) (.int .i64)):(Int×Int))).1 1).length<=9223372036854775807)) <|
 ask (aD 1 2) <|
 .ite (decide ((0:Int)=0)) (
 ask (aD 1 2) <|
 ask (decide ((dn (.int .i64) (.int .i64) rows2 (t.getD t3.toNat (aS (.pair (.int .i64) (.int .i64)):(Int×Int))).2 1).length<=9223372036854775807)) <|
 .ret (.inl ((ay (t3+1)),(dn (.int .i64) (.int .i64) rows (t.getD t3.toNat (aS (.pair (.int .i64) (.int .i64)):(Int×Int))).1 1),(dn (.int .i64) (.int .i64) rows2 (t.getD t3.toNat (aS (.pair (.int .i64) (.int .i64)):(Int×Int))).2 1)))) (
 .ret (.inl ((ay (t3+1)),(dn (.int .i64) (.int .i64) rows (t.getD t3.toNat (aS (.pair (.int .i64) (.int .i64)):(Int×Int))).1 1),rows2)))) (
 ask (aD 1 2) <|
 .ite (decide ((0:Int)=0)) (
 ask (aD 1 2) <|
 ask (decide ((dn (.int .i64) (.int .i64) rows2 (t.getD t3.toNat (aS (.pair (.int .i64) (.int .i64)):(Int×Int))).2 1).length<=9223372036854775807)) <|
 .ret (.inl ((ay (t3+1)),rows,(dn (.int .i64) (.int .i64) rows2 (t.getD t3.toNat (aS (.pair (.int .i64) (.int .i64)):(Int×Int))).2 1)))) (
 .ret (.inl ((ay (t3+1)),rows,rows2))))) (
 .ret (.inr (rows,rows2)))
def Pn:Lp:=⟨3,[],[],(ca (.cons .jZ (.cons .jZ (ca (aJ (.cons (.mp 0) (.cons (.mp 1) (aJ (.cons (.val false (.list (.pair (.int .i64) (.int .i64)))) (.cons (.val false (.int .i64)) (.cons (.val false (.int .i64)) (ca8 (bB .nil))))))))))))),(.map (.int .i64) (.int .i64) (.map (.int .i64) (.int .i64) .nil)),0,.one 1 [] (ca8 (.cons (.mp 0) (.cons (.mp 1) (ca (aF (aJ (ca8 (bB .nil)))))))) (.map (.int .i64) (.int .i64) (.map (.int .i64) (.int .i64) .nil)),fun z=>.bnd (.loop (fun v=>xN z.1.2.2.2.2.2.2.2.2.2.2.2.2.2.2.1 z.1.2.2.2.2.2.2.2.2.2.2.2.2.2.2.2.1 v.1 v.2.1 v.2.2) (z.1.2.2.2.2.2.2.2.2.2.2.2.2.2.2.2.2.1,z.2.1,z.2.2.1)) fun r=>.ret ((az ((),(),(cu (ah (ai (az (aC ()))))))),r.1,r.2,())⟩
theorem agl:Pn.ok Tryz.prog (aP (aK (ak Tryz.f124)) 0):=by
 refine Lp.lift (π:=((List (Int×Int))×Int)) (V:=(Int×(List (Int×Int))×(List (Int×Int)))) (ρ:=((List (Int×Int))×(List (Int×Int)))) mix aI Pn (o:=aO [] [] aU) (aR trivial) (aQ [] (by kernel_rfl) trivial rfl) (fun x v=>((cu ((),(),(cu (ai ((),(),(ai (x.1,x.2,v.1,(az (aC ()))))))))),v.2.1,v.2.2,())) (fun x r=>((az ((),(),(cu (ah (ai (az (aC ()))))))),r.1,r.2,())) (fun x v=>xN x.1 x.2 v.1 v.2.1 v.2.2) (fun x r=>.ret ((az ((),(),(cu (ah (ai (az (aC ()))))))),r.1,r.2,())) (fun z=>(z.1.2.2.2.2.2.2.2.2.2.2.2.2.2.2.1,z.1.2.2.2.2.2.2.2.2.2.2.2.2.2.2.2.1)) (fun z=>(z.1.2.2.2.2.2.2.2.2.2.2.2.2.2.2.2.2.1,z.2.1,z.2.2.1)) (fun _=>rfl) (fun _=>rfl) (fun _ _ _ h=>h) ?_
 intro x v; kernel_rfl
def Bu (x0:List (Int×Int)):Tree (Int×Int×Unit) :=
 .bnd (.loop (fun v=>xN x0 (x0.length:Int) v.1 v.2.1 v.2.2) (0,([]:List (Int×Int)),([]:List (Int×Int)))) fun r1 =>
 .ret ((r1.1.length:Int),(r1.2.length:Int),())
def IZ:aA:=⟨124,(.cons (.val false (.list (.pair (.int .i64) (.int .i64)))) (.cons .jZ (.cons .jZ .nil))),.vals (.cons (.val false (.int .i64)) (.cons (.val false (.int .i64)) .nil)),fun z=>Bu z.1,((0:Int),(0:Int),())⟩
theorem Po:IZ.ok Tryz.prog:=by
 refine aA.lift mix aI bq _ Tryz.func124 (c:=(ak Tryz.f124)) (by kernel_rfl) (o:=aO [] [Pn] aU) (aR trivial) (aQ [aP (aK (ak Tryz.f124)) 0] (by kernel_rfl) ⟨agl,trivial⟩ (by kernel_rfl)) ?_
 intro z; kernel_rfl
def xP (t:List (Int×Int)) (t2:Int) (t3:Int) (out:List (Int×Int)):Tree ((Int×(List (Int×Int)))⊕(List (Int×Int))) :=
 .ite (decide (t3<t2)) (
 ask (aD t3 t.length) <|
 ask (aD 0 2) <|
 ask ((!(decide ((0:Int)=0)))||aD 1 2) <|
 .ite ((decide ((0:Int)=0))&&(decide ((0:Int)=0))) (
 ask (decide ((out++[(t.getD t3.toNat (aS (.pair (.int .i64) (.int .i64)):(Int×Int)))]).length*16<=bD)) <|
 .ret (.inl ((ay (t3+1)),(out++[(t.getD t3.toNat (aS (.pair (.int .i64) (.int .i64)):(Int×Int)))])))) (
 .ret (.inl ((ay (t3+1)),out)))) (
 .ret (.inr out))
def Pp:Lp:=⟨3,[.own 7 99 (.pair (.int .i64) (.int .i64))],[],(ca (.cons .jZ (.cons .jZ (aJ (.cons (.own 0) (aF (.cons (.val false (.list (.pair (.int .i64) (.int .i64)))) (.cons (.val false (.int .i64)) (.cons (.val false (.int .i64)) (ca (aJ (bB .nil)))))))))))),(.rows 99 (.pair (.int .i64) (.int .i64)) .nil),0,.one 1 [] (ca (aF (aJ (.cons (.own 0) (aF (ca8 (bB .nil))))))) (.rows 99 (.pair (.int .i64) (.int .i64)) .nil),fun z=>.bnd (.loop (fun v=>xP z.1.2.2.2.2.2.2.2.2.2.2.1 z.1.2.2.2.2.2.2.2.2.2.2.2.1 v.1 v.2) (z.1.2.2.2.2.2.2.2.2.2.2.2.2.1,z.2.1)) fun r=>.ret ((cu (ah (ai ((),(ah (az (aC ()))))))),r,())⟩
theorem agm:Pp.ok Tryz.prog (aP (aK (ak Tryz.f127)) 0):=by
 refine Lp.lift (π:=((List (Int×Int))×Int)) (V:=(Int×(List (Int×Int)))) (ρ:=List (Int×Int)) mix aI Pp (o:=aO [] [] aU) (aR trivial) (aQ [] (by kernel_rfl) trivial rfl) (fun x v=>((cu ((),(),(ai ((),(ah (x.1,x.2,v.1,(cu (ai (aC ()))))))))),v.2,())) (fun x r=>((cu (ah (ai ((),(ah (az (aC ()))))))),r,())) (fun x v=>xP x.1 x.2 v.1 v.2) (fun x r=>.ret ((cu (ah (ai ((),(ah (az (aC ()))))))),r,())) (fun z=>(z.1.2.2.2.2.2.2.2.2.2.2.1,z.1.2.2.2.2.2.2.2.2.2.2.2.1)) (fun z=>(z.1.2.2.2.2.2.2.2.2.2.2.2.2.1,z.2.1)) (fun _=>rfl) (fun _=>rfl) (fun _ _ _ h=>h) ?_
 intro x v; kernel_rfl
def EP (x0:List (Int×Int)):Tree (List (Int×Int)) :=
 .bnd (.loop (fun v=>xP x0 (x0.length:Int) v.1 v.2) (0,([]:List (Int×Int)))) fun r1 =>
 .ret r1
def WC:aA:=⟨127,(.cons (.val false (.list (.pair (.int .i64) (.int .i64)))) (.cons .jZ (.cons .jZ .nil))),.fresh 99 (.pair (.int .i64) (.int .i64)),fun z=>EP z.1,([]:List (Int×Int))⟩
theorem agn:WC.ok Tryz.prog:=by
 refine aA.lift mix aI bq _ Tryz.func127 (c:=(ak Tryz.f127)) (by kernel_rfl) (o:=aO [] [Pp] aU) (aR trivial) (aQ [aP (aK (ak Tryz.f127)) 0] (by kernel_rfl) ⟨agm,trivial⟩ (by kernel_rfl)) ?_
 intro z; kernel_rfl
def Aw (r:(Int->(List (Int×Int))->(List (Int×Int))->(List (Int×Int))->(List (Int×Int))->Tree (Bool×((Unit×Unit)×((Unit×Unit)×(((Unit×(Unit×(Unit×(Unit×Unit))))×Unit)×(((List (Int×Int))×(Unit×(Unit×Unit)))×((List (Int×Int))×((List (Int×Int))×((List (Int×Int))×Unit)))))))))):fH:=⟨157,(.cons (.val false (.int .i64)) (.cons (.ref 0 0) (.cons (.ref 1 0) (.cons (.ref 2 0) .nil)))),(.cells 142 (.cons (.ref 3 0) .nil) (.cells 112 (.cons (.mp 4) .nil) (.cells 80 (.cons (.fn 157 .nil (.cons (.ref 0 0) (.cons (.ref 1 0) (.cons (.ref 2 0) .nil)))) .nil) (.cells 141 (.cons (.val false (.list (.pair (.int .i64) (.int .i64)))) (.cons (.mp 5) (.cons (.mp 6) .nil))) (.map (.int .i64) (.int .i64) (.map (.int .i64) (.int .i64) (.map (.int .i64) (.int .i64) .nil))))))),[],(.val false .bool),(.cells 142 (.cons (.ref 3 0) .nil) (.cells 112 (.cons (.mp 4) .nil) (.cells 80 (.cons (.fn 157 .nil (.cons (.ref 0 0) (.cons (.ref 1 0) (.cons (.ref 2 0) .nil)))) .nil) (.cells 141 (.cons (.val false (.list (.pair (.int .i64) (.int .i64)))) (.cons (.mp 5) (.cons (.mp 6) .nil))) (.map (.int .i64) (.int .i64) (.map (.int .i64) (.int .i64) (.map (.int .i64) (.int .i64) .nil))))))),none,fun z=>r z.1.1 z.2.2.2.2.1.1 z.2.2.2.2.2.1 z.2.2.2.2.2.2.1 z.2.2.2.2.2.2.2.1⟩
def WE:Nat->List Pre
 | 7=>[.zf 12]
 | 8=>[.gP 7]
 | _=>[]
def mV (r:(Int->(List (Int×Int))->(List (Int×Int))->(List (Int×Int))->(List (Int×Int))->Tree (Bool×((Unit×Unit)×((Unit×Unit)×(((Unit×(Unit×(Unit×(Unit×Unit))))×Unit)×(((List (Int×Int))×(Unit×(Unit×Unit)))×((List (Int×Int))×((List (Int×Int))×((List (Int×Int))×Unit)))))))))) (number:Int) (t:List (Int×Int)) (t2:Int) (t3:Int) (c:List (Int×Int)) (rows:List (Int×Int)) (rows2:List (Int×Int)) (rows3:List (Int×Int)):Tree ((Int×(List (Int×Int))×(List (Int×Int))×(List (Int×Int))×(List (Int×Int)))⊕((Bool×(List (Int×Int))×(List (Int×Int))×(List (Int×Int))×(List (Int×Int)))⊕((List (Int×Int))×(List (Int×Int))×(List (Int×Int))×(List (Int×Int))))) :=
 .ite (decide (t3<t2)) (
 ask (aD t3 t.length) <|
 ask (aD 0 2) <|
 ask ((!(!(!decide ((t.getD t3.toNat (aS (.pair (.int .i64) (.int .i64)):(Int×Int))).1=number))))||aD 1 2) <|
 .ite ((!decide ((t.getD t3.toNat (aS (.pair (.int .i64) (.int .i64)):(Int×Int))).1=number))||(decide ((0:Int)<((getM (.int .i64) (.int .i64) rows (t.getD t3.toNat (aS (.pair (.int .i64) (.int .i64)):(Int×Int))).2).getD (0:Int))))) (
 .ret (.inl ((ay (t3+1)),c,rows,rows2,rows3))) (
 ask (aD 1 2) <|
 ask (decide ((dn (.int .i64) (.int .i64) rows (t.getD t3.toNat (aS (.pair (.int .i64) (.int .i64)):(Int×Int))).2 1).length<=9223372036854775807)) <|
 ask (aD 1 2) <|
 ask ((!(!(!((getM (.int .i64) (.int .i64) rows3 (t.getD t3.toNat (aS (.pair (.int .i64) (.int .i64)):(Int×Int))).2).isSome))))||aD ((getM (.int .i64) (.int .i64) rows3 (t.getD t3.toNat (aS (.pair (.int .i64) (.int .i64)):(Int×Int))).2).getD (0:Int)) c.length) <|
 ask ((!(!(!((getM (.int .i64) (.int .i64) rows3 (t.getD t3.toNat (aS (.pair (.int .i64) (.int .i64)):(Int×Int))).2).isSome))))||aD 0 2) <|
 .ite (!(!((getM (.int .i64) (.int .i64) rows3 (t.getD t3.toNat (aS (.pair (.int .i64) (.int .i64)):(Int×Int))).2).isSome))) (
 .bnd (r (c.getD (((getM (.int .i64) (.int .i64) rows3 (t.getD t3.toNat (aS (.pair (.int .i64) (.int .i64)):(Int×Int))).2).getD (0:Int)).toNat) (aS (.pair (.int .i64) (.int .i64)):(Int×Int))).1 c (dn (.int .i64) (.int .i64) rows (t.getD t3.toNat (aS (.pair (.int .i64) (.int .i64)):(Int×Int))).2 1) rows2 rows3) fun y1 =>
 .ite ((!((getM (.int .i64) (.int .i64) rows3 (t.getD t3.toNat (aS (.pair (.int .i64) (.int .i64)):(Int×Int))).2).isSome))||y1.1) (
 ask (aD 1 2) <|
 (fun q9=>.both (.both q9 (.both q9 q9)) (.both (.both q9 q9) q9)) (ask (decide ((fK (.int .i64) (.int .i64) y1.2.2.2.2.2.2.1 number (0:Int)).length<=9223372036854775807)) <|
 ask (aD ((iF (.int .i64) (.int .i64) y1.2.2.2.2.2.2.1 number:Nat):Int) (fK (.int .i64) (.int .i64) y1.2.2.2.2.2.2.1 number (0:Int)).length) <|
 ask (decide ((fK (.int .i64) (.int .i64) y1.2.2.2.2.2.2.2.1 (t.getD t3.toNat (aS (.pair (.int .i64) (.int .i64)):(Int×Int))).2 (0:Int)).length<=9223372036854775807)) <|
 ask (aD ((iF (.int .i64) (.int .i64) y1.2.2.2.2.2.2.2.1 (t.getD t3.toNat (aS (.pair (.int .i64) (.int .i64)):(Int×Int))).2:Nat):Int) (fK (.int .i64) (.int .i64) y1.2.2.2.2.2.2.2.1 (t.getD t3.toNat (aS (.pair (.int .i64) (.int .i64)):(Int×Int))).2 (0:Int)).length) <|
 .ret (.inr (.inl (true,y1.2.2.2.2.1.1,y1.2.2.2.2.2.1,((fK (.int .i64) (.int .i64) y1.2.2.2.2.2.2.1 number (0:Int)).modify ((iF (.int .i64) (.int .i64) y1.2.2.2.2.2.2.1 number:Nat):Int).toNat fun q=>(q.1,t3)),((fK (.int .i64) (.int .i64) y1.2.2.2.2.2.2.2.1 (t.getD t3.toNat (aS (.pair (.int .i64) (.int .i64)):(Int×Int))).2 (0:Int)).modify ((iF (.int .i64) (.int .i64) y1.2.2.2.2.2.2.2.1 (t.getD t3.toNat (aS (.pair (.int .i64) (.int .i64)):(Int×Int))).2:Nat):Int).toNat fun q=>(q.1,t3))))))) (
 .ret (.inl ((ay (t3+1)),y1.2.2.2.2.1.1,y1.2.2.2.2.2.1,y1.2.2.2.2.2.2.1,y1.2.2.2.2.2.2.2.1)))) (
 .ite ((!((getM (.int .i64) (.int .i64) rows3 (t.getD t3.toNat (aS (.pair (.int .i64) (.int .i64)):(Int×Int))).2).isSome))||true) (
 ask (aD 1 2) <|
 (fun q9=>.both (.both q9 (.both q9 q9)) (.both (.both q9 q9) q9)) (ask (decide ((fK (.int .i64) (.int .i64) rows2 number (0:Int)).length<=9223372036854775807)) <|
 ask (aD ((iF (.int .i64) (.int .i64) rows2 number:Nat):Int) (fK (.int .i64) (.int .i64) rows2 number (0:Int)).length) <|
 ask (decide ((fK (.int .i64) (.int .i64) rows3 (t.getD t3.toNat (aS (.pair (.int .i64) (.int .i64)):(Int×Int))).2 (0:Int)).length<=9223372036854775807)) <|
 ask (aD ((iF (.int .i64) (.int .i64) rows3 (t.getD t3.toNat (aS (.pair (.int .i64) (.int .i64)):(Int×Int))).2:Nat):Int) (fK (.int .i64) (.int .i64) rows3 (t.getD t3.toNat (aS (.pair (.int .i64) (.int .i64)):(Int×Int))).2 (0:Int)).length) <|
 .ret (.inr (.inl (true,c,(dn (.int .i64) (.int .i64) rows (t.getD t3.toNat (aS (.pair (.int .i64) (.int .i64)):(Int×Int))).2 1),((fK (.int .i64) (.int .i64) rows2 number (0:Int)).modify ((iF (.int .i64) (.int .i64) rows2 number:Nat):Int).toNat fun q=>(q.1,t3)),((fK (.int .i64) (.int .i64) rows3 (t.getD t3.toNat (aS (.pair (.int .i64) (.int .i64)):(Int×Int))).2 (0:Int)).modify ((iF (.int .i64) (.int .i64) rows3 (t.getD t3.toNat (aS (.pair (.int .i64) (.int .i64)):(Int×Int))).2:Nat):Int).toNat fun q=>(q.1,t3))))))) (
 .ret (.inl ((ay (t3+1)),c,(dn (.int .i64) (.int .i64) rows (t.getD t3.toNat (aS (.pair (.int .i64) (.int .i64)):(Int×Int))).2 1),rows2,rows3)))))) (
 .ret (.inr (.inr (c,rows,rows2,rows3))))
def Pq (r:(Int->(List (Int×Int))->(List (Int×Int))->(List (Int×Int))->(List (Int×Int))->Tree (Bool×((Unit×Unit)×((Unit×Unit)×(((Unit×(Unit×(Unit×(Unit×Unit))))×Unit)×(((List (Int×Int))×(Unit×(Unit×Unit)))×((List (Int×Int))×((List (Int×Int))×((List (Int×Int))×Unit)))))))))):Lp:=⟨2,[],[],(.cons (.val false (.int .i64)) (.cons (.ref 0 0) (.cons (.ref 1 0) (.cons (.ref 2 0) (ca (ca8 (.cons (.val false (.list (.pair (.int .i64) (.int .i64)))) (.cons (.val false (.int .i64)) (.cons (.val false (.int .i64)) (aJ (ca8 (bB (aZ .nil))))))))))))),(.cells 142 (.cons (.ref 3 0) .nil) (.cells 112 (.cons (.mp 4) .nil) (.cells 80 (.cons (.fn 157 .nil (.cons (.ref 0 0) (.cons (.ref 1 0) (.cons (.ref 2 0) .nil)))) .nil) (.cells 141 (.cons (.val false (.list (.pair (.int .i64) (.int .i64)))) (.cons (.mp 5) (.cons (.mp 6) .nil))) (.map (.int .i64) (.int .i64) (.map (.int .i64) (.int .i64) (.map (.int .i64) (.int .i64) .nil))))))),7,.more 0 [] (ca (aJ (.cons (.val false .bool) (aF (aJ (aZ (aZ .nil))))))) (.cells 142 (.cons (.ref 3 0) .nil) (.cells 112 (.cons (.mp 4) .nil) (.cells 80 (.cons (.fn 157 .nil (.cons (.ref 0 0) (.cons (.ref 1 0) (.cons (.ref 2 0) .nil)))) .nil) (.cells 141 (.cons (.val false (.list (.pair (.int .i64) (.int .i64)))) (.cons (.mp 5) (.cons (.mp 6) .nil))) (.map (.int .i64) (.int .i64) (.map (.int .i64) (.int .i64) (.map (.int .i64) (.int .i64) .nil))))))) (.one 1 [] (aJ (ca8 (aZ (aZ .nil)))) (.cells 142 (.cons (.ref 3 0) .nil) (.cells 112 (.cons (.mp 4) .nil) (.cells 80 (.cons (.fn 157 .nil (.cons (.ref 0 0) (.cons (.ref 1 0) (.cons (.ref 2 0) .nil)))) .nil) (.cells 141 (.cons (.val false (.list (.pair (.int .i64) (.int .i64)))) (.cons (.mp 5) (.cons (.mp 6) .nil))) (.map (.int .i64) (.int .i64) (.map (.int .i64) (.int .i64) (.map (.int .i64) (.int .i64) .nil)))))))),fun z=>.bnd (.loop (fun v=>(mV r) z.1.1 z.1.2.2.2.2.2.2.2.2.2.2.2.2.2.1 z.1.2.2.2.2.2.2.2.2.2.2.2.2.2.2.1 v.1 v.2.1 v.2.2.1 v.2.2.2.1 v.2.2.2.2) (z.1.2.2.2.2.2.2.2.2.2.2.2.2.2.2.2.1,z.2.2.2.2.1.1,z.2.2.2.2.2.1,z.2.2.2.2.2.2.1,z.2.2.2.2.2.2.2.1)) fun r=>.sum r (fun a0=>.ret (.inl ((cu (ai (a0.1,(ah (ai (aj (aj ()))))))),((),()),((),()),(((),(),(),(),()),()),(a0.2.1,(),(),()),a0.2.2.1,a0.2.2.2.1,a0.2.2.2.2,()))) (fun b0=>.ret (.inr ((ai (az (aj (aj ())))),((),()),((),()),(((),(),(),(),()),()),(b0.1,(),(),()),b0.2.1,b0.2.2.1,b0.2.2.2,())))⟩
theorem agp (r:(Int->(List (Int×Int))->(List (Int×Int))->(List (Int×Int))->(List (Int×Int))->Tree (Bool×((Unit×Unit)×((Unit×Unit)×(((Unit×(Unit×(Unit×(Unit×Unit))))×Unit)×(((List (Int×Int))×(Unit×(Unit×Unit)))×((List (Int×Int))×((List (Int×Int))×((List (Int×Int))×Unit)))))))))) (hr:(Aw r).ok Tryz.prog):(Pq r).ok Tryz.prog (aP (aK (ak Tryz.f157)) 0):=by
 refine Lp.lift (π:=(Int×(List (Int×Int))×Int)) (V:=(Int×(List (Int×Int))×(List (Int×Int))×(List (Int×Int))×(List (Int×Int)))) (ρ:=((Bool×(List (Int×Int))×(List (Int×Int))×(List (Int×Int))×(List (Int×Int)))⊕((List (Int×Int))×(List (Int×Int))×(List (Int×Int))×(List (Int×Int))))) mix aI (Pq r) (o:=orM [] [(Aw r)] [] WE) (jW trivial ⟨hr,trivial⟩) (jX [] (by kernel_rfl) trivial rfl) (fun x v=>((x.1,(),(),(),(cu (az (x.2.1,x.2.2,v.1,(ai (az (aC (aj ())))))))),((),()),((),()),(((),(),(),(),()),()),(v.2.1,(),(),()),v.2.2.1,v.2.2.2.1,v.2.2.2.2,())) (fun x r=>match r with | .inl a0=>.inl ((cu (ai (a0.1,(ah (ai (aj (aj ()))))))),((),()),((),()),(((),(),(),(),()),()),(a0.2.1,(),(),()),a0.2.2.1,a0.2.2.2.1,a0.2.2.2.2,()) | .inr b0=>(.inr ((ai (az (aj (aj ())))),((),()),((),()),(((),(),(),(),()),()),(b0.1,(),(),()),b0.2.1,b0.2.2.1,b0.2.2.2,()))) (fun x v=>(mV r) x.1 x.2.1 x.2.2 v.1 v.2.1 v.2.2.1 v.2.2.2.1 v.2.2.2.2) (fun x r=>.sum r (fun a0=>.ret (.inl ((cu (ai (a0.1,(ah (ai (aj (aj ()))))))),((),()),((),()),(((),(),(),(),()),()),(a0.2.1,(),(),()),a0.2.2.1,a0.2.2.2.1,a0.2.2.2.2,()))) (fun b0=>.ret (.inr ((ai (az (aj (aj ())))),((),()),((),()),(((),(),(),(),()),()),(b0.1,(),(),()),b0.2.1,b0.2.2.1,b0.2.2.2,())))) (fun z=>(z.1.1,z.1.2.2.2.2.2.2.2.2.2.2.2.2.2.1,z.1.2.2.2.2.2.2.2.2.2.2.2.2.2.2.1)) (fun z=>(z.1.2.2.2.2.2.2.2.2.2.2.2.2.2.2.2.1,z.2.2.2.2.1.1,z.2.2.2.2.2.1,z.2.2.2.2.2.2.1,z.2.2.2.2.2.2.2.1)) (fun _=>rfl) (fun _=>rfl) (fun x r Q h=>match r,h with | .inl _,h=>h | .inr b0,h=>(h)) ?_
 intro x v; kernel_rfl
def uI (r:(Int->(List (Int×Int))->(List (Int×Int))->(List (Int×Int))->(List (Int×Int))->Tree (Bool×((Unit×Unit)×((Unit×Unit)×(((Unit×(Unit×(Unit×(Unit×Unit))))×Unit)×(((List (Int×Int))×(Unit×(Unit×Unit)))×((List (Int×Int))×((List (Int×Int))×((List (Int×Int))×Unit)))))))))) (x0:Int) (x1:List (Int×Int)) (x2:List (Int×Int)) (x3:List (Int×Int)) (x4:List (Int×Int)):Tree (Bool×((Unit×Unit)×((Unit×Unit)×(((Unit×(Unit×(Unit×(Unit×Unit))))×Unit)×(((List (Int×Int))×(Unit×(Unit×Unit)))×((List (Int×Int))×((List (Int×Int))×((List (Int×Int))×Unit)))))))) :=
 .bnd (.loop (fun v=>(mV r) x0 x1 (x1.length:Int) v.1 v.2.1 v.2.2.1 v.2.2.2.1 v.2.2.2.2) (0,x1,x2,x3,x4)) fun r1 =>
 .sum r1 (fun r2 =>
 .ret (r2.1,((),()),((),()),(((),(),(),(),()),()),(r2.2.1,(),(),()),r2.2.2.1,r2.2.2.2.1,r2.2.2.2.2,())) (fun r3 =>
 .ret (false,((),()),((),()),(((),(),(),(),()),()),(r3.1,(),(),()),r3.2.1,r3.2.2.1,r3.2.2.2,()))
def agq (r:(Int->(List (Int×Int))->(List (Int×Int))->(List (Int×Int))->(List (Int×Int))->Tree (Bool×((Unit×Unit)×((Unit×Unit)×(((Unit×(Unit×(Unit×(Unit×Unit))))×Unit)×(((List (Int×Int))×(Unit×(Unit×Unit)))×((List (Int×Int))×((List (Int×Int))×((List (Int×Int))×Unit)))))))))):fH:=⟨157,(.cons (.val false (.int .i64)) (.cons (.ref 0 0) (.cons (.ref 1 0) (.cons (.ref 2 0) .nil)))),(.cells 142 (.cons (.ref 3 0) .nil) (.cells 112 (.cons (.mp 4) .nil) (.cells 80 (.cons (.fn 157 .nil (.cons (.ref 0 0) (.cons (.ref 1 0) (.cons (.ref 2 0) .nil)))) .nil) (.cells 141 (.cons (.val false (.list (.pair (.int .i64) (.int .i64)))) (.cons (.mp 5) (.cons (.mp 6) .nil))) (.map (.int .i64) (.int .i64) (.map (.int .i64) (.int .i64) (.map (.int .i64) (.int .i64) .nil))))))),[],(.val false .bool),(.cells 142 (.cons (.ref 3 0) .nil) (.cells 112 (.cons (.mp 4) .nil) (.cells 80 (.cons (.fn 157 .nil (.cons (.ref 0 0) (.cons (.ref 1 0) (.cons (.ref 2 0) .nil)))) .nil) (.cells 141 (.cons (.val false (.list (.pair (.int .i64) (.int .i64)))) (.cons (.mp 5) (.cons (.mp 6) .nil))) (.map (.int .i64) (.int .i64) (.map (.int .i64) (.int .i64) (.map (.int .i64) (.int .i64) .nil))))))),none,fun z=>(uI r) z.1.1 z.2.2.2.2.1.1 z.2.2.2.2.2.1 z.2.2.2.2.2.2.1 z.2.2.2.2.2.2.2.1⟩
theorem agr (r:(Int->(List (Int×Int))->(List (Int×Int))->(List (Int×Int))->(List (Int×Int))->Tree (Bool×((Unit×Unit)×((Unit×Unit)×(((Unit×(Unit×(Unit×(Unit×Unit))))×Unit)×(((List (Int×Int))×(Unit×(Unit×Unit)))×((List (Int×Int))×((List (Int×Int))×((List (Int×Int))×Unit)))))))))) (hr:(Aw r).ok Tryz.prog):(agq r).ok Tryz.prog:=by
 refine fH.lift mix aI bq _ Tryz.func157 (c:=(ak Tryz.f157)) (by kernel_rfl) (o:=orM [] [(Aw r)] [(Pq r)] WE) (jW trivial ⟨hr,trivial⟩) (jX [aP (aK (ak Tryz.f157)) 0] (by kernel_rfl) ⟨(agp r hr),trivial⟩ (by kernel_rfl)) (fun _=>rfl) ?_
 intro z; kernel_rfl
def mY:Nat->(Int->(List (Int×Int))->(List (Int×Int))->(List (Int×Int))->(List (Int×Int))->Tree (Bool×((Unit×Unit)×((Unit×Unit)×(((Unit×(Unit×(Unit×(Unit×Unit))))×Unit)×(((List (Int×Int))×(Unit×(Unit×Unit)))×((List (Int×Int))×((List (Int×Int))×((List (Int×Int))×Unit)))))))))
 | 0=>fun _ _ _ _ _=>.fail
 | n+1=>uI (mY n)
theorem WG:∀ n,(Aw (mY n)).ok Tryz.prog
 | 0=>fun x y h=>by exact absurd h (by simp [Aw,mY,Tree.run])
 | n+1=>agr (mY n) (WG n)
def J3 (x0:Int) (x1:List (Int×Int)) (x2:List (Int×Int)) (x3:List (Int×Int)) (x4:List (Int×Int)):Tree (Bool×((Unit×Unit)×((Unit×Unit)×(((Unit×(Unit×(Unit×(Unit×Unit))))×Unit)×(((List (Int×Int))×(Unit×(Unit×Unit)))×((List (Int×Int))×((List (Int×Int))×((List (Int×Int))×Unit)))))))):=uG fun n=>mY n x0 x1 x2 x3 x4
def WH:fH:=⟨157,(.cons (.val false (.int .i64)) (.cons (.ref 0 0) (.cons (.ref 1 0) (.cons (.ref 2 0) .nil)))),(.cells 142 (.cons (.ref 3 0) .nil) (.cells 112 (.cons (.mp 4) .nil) (.cells 80 (.cons (.fn 157 .nil (.cons (.ref 0 0) (.cons (.ref 1 0) (.cons (.ref 2 0) .nil)))) .nil) (.cells 141 (.cons (.val false (.list (.pair (.int .i64) (.int .i64)))) (.cons (.mp 5) (.cons (.mp 6) .nil))) (.map (.int .i64) (.int .i64) (.map (.int .i64) (.int .i64) (.map (.int .i64) (.int .i64) .nil))))))),[],(.val false .bool),(.cells 142 (.cons (.ref 3 0) .nil) (.cells 112 (.cons (.mp 4) .nil) (.cells 80 (.cons (.fn 157 .nil (.cons (.ref 0 0) (.cons (.ref 1 0) (.cons (.ref 2 0) .nil)))) .nil) (.cells 141 (.cons (.val false (.list (.pair (.int .i64) (.int .i64)))) (.cons (.mp 5) (.cons (.mp 6) .nil))) (.map (.int .i64) (.int .i64) (.map (.int .i64) (.int .i64) (.map (.int .i64) (.int .i64) .nil))))))),none,fun z=>J3 z.1.1 z.2.2.2.2.1.1 z.2.2.2.2.2.1 z.2.2.2.2.2.2.1 z.2.2.2.2.2.2.2.1⟩
theorem ags:WH.ok Tryz.prog:=fun x y h=>by
 obtain ⟨n,hn⟩:=Vp h
 exact WG n x y hn
def EI (x0:Int) (x1:List (Int×Int)) (x2:List (Int×Int)) (x3:List (Int×Int)):Tree (Unit×(((List (Int×Int))×(Unit×(Unit×Unit)))×((List (Int×Int))×((List (Int×Int))×Unit)))) :=
 .bnd (J3 x0 x1 ([]:List (Int×Int)) x2 x3) fun y1 =>
 .ret ((),(y1.2.2.2.2.1.1,(),(),()),y1.2.2.2.2.2.2.1,y1.2.2.2.2.2.2.2.1,())
def Ps:fH:=⟨146,(.cons (.ref 0 0) (.cons (.val false (.int .i64)) .nil)),(.cells 141 (.cons (.val false (.list (.pair (.int .i64) (.int .i64)))) (.cons (.mp 1) (.cons (.mp 2) .nil))) (.map (.int .i64) (.int .i64) (.map (.int .i64) (.int .i64) .nil))),[],.nil,(.cells 141 (.cons (.val false (.list (.pair (.int .i64) (.int .i64)))) (.cons (.mp 1) (.cons (.mp 2) .nil))) (.map (.int .i64) (.int .i64) (.map (.int .i64) (.int .i64) .nil))),none,fun z=>EI z.1.2.1 z.2.1.1 z.2.2.1 z.2.2.2.1⟩
theorem WI:Ps.ok Tryz.prog:=by
 refine fH.lift mix aI bq _ Tryz.func146 (c:=(ak Tryz.f146)) (by kernel_rfl) (o:=orM [] [WH] [] aU) (jW trivial ⟨ags,trivial⟩) (jX [] (by kernel_rfl) trivial rfl) (fun _=>rfl) ?_
 intro z; kernel_rfl
def uJ (t:List (Int×Int)) (t2:Int) (t3:Int) (rows:List (Int×Int)) (rows2:List (Int×Int)) (p:List (Int×Int)):Tree ((Int×(List (Int×Int))×(List (Int×Int))×(List (Int×Int)))⊕((List (Int×Int))×(List (Int×Int))×(List (Int×Int)))) :=
 .ite (decide (t3<t2)) (
 ask (aD t3 t.length) <|
 ask (aD 0 2) <|
 .ite (!((getM (.int .i64) (.int .i64) rows (t.getD t3.toNat (aS (.pair (.int .i64) (.int .i64)):(Int×Int))).1).isSome)) (
 ask (aD 0 2) <|
 .bnd (EI (t.getD t3.toNat (aS (.pair (.int .i64) (.int .i64)):(Int×Int))).1 p rows rows2) fun y1 =>
 .ret (.inl ((ay (t3+1)),y1.2.2.1,y1.2.2.2.1,y1.2.1.1))) (
 .ret (.inl ((ay (t3+1)),rows,rows2,p)))) (
 .ret (.inr (rows,rows2,p)))
def Pt:Lp:=⟨3,[],[],(ca (aF (.cons (.ref 2 0) (ca (ca8 (.cons (.val false (.list (.pair (.int .i64) (.int .i64)))) (.cons (.val false (.int .i64)) (.cons (.val false (.int .i64)) (ca (aJ (bB .nil))))))))))),(.map (.int .i64) (.int .i64) (.map (.int .i64) (.int .i64) (.cells 141 (.cons (.val false (.list (.pair (.int .i64) (.int .i64)))) (.cons (.mp 0) (.cons (.mp 1) .nil))) .nil))),0,.one 1 [] (ca (aF (.cons (.ref 2 0) (ca (aZ .nil))))) (.map (.int .i64) (.int .i64) (.map (.int .i64) (.int .i64) (.cells 141 (.cons (.val false (.list (.pair (.int .i64) (.int .i64)))) (.cons (.mp 0) (.cons (.mp 1) .nil))) .nil))),fun z=>.bnd (.loop (fun v=>uJ z.1.2.2.2.2.2.2.2.2.2.2.2.2.2.1 z.1.2.2.2.2.2.2.2.2.2.2.2.2.2.2.1 v.1 v.2.1 v.2.2.1 v.2.2.2) (z.1.2.2.2.2.2.2.2.2.2.2.2.2.2.2.2.1,z.2.1,z.2.2.1,z.2.2.2.1.1)) fun r=>.ret ((cu (ah ((),(cu (aj ()))))),r.1,r.2.1,(r.2.2,(),(),()),())⟩
theorem agt:Pt.ok Tryz.prog (aP (aK (ak Tryz.f135)) 0):=by
 refine Lp.lift (π:=((List (Int×Int))×Int)) (V:=(Int×(List (Int×Int))×(List (Int×Int))×(List (Int×Int)))) (ρ:=((List (Int×Int))×(List (Int×Int))×(List (Int×Int)))) mix aI Pt (o:=orM [] [Ps] [] aU) (jW trivial ⟨WI,trivial⟩) (jX [] (by kernel_rfl) trivial rfl) (fun x v=>((cu (ah ((),(cu (az (x.1,x.2,v.1,(cu (ai (aC ()))))))))),v.2.1,v.2.2.1,(v.2.2.2,(),(),()),())) (fun x r=>((cu (ah ((),(cu (aj ()))))),r.1,r.2.1,(r.2.2,(),(),()),())) (fun x v=>uJ x.1 x.2 v.1 v.2.1 v.2.2.1 v.2.2.2) (fun x r=>.ret ((cu (ah ((),(cu (aj ()))))),r.1,r.2.1,(r.2.2,(),(),()),())) (fun z=>(z.1.2.2.2.2.2.2.2.2.2.2.2.2.2.1,z.1.2.2.2.2.2.2.2.2.2.2.2.2.2.2.1)) (fun z=>(z.1.2.2.2.2.2.2.2.2.2.2.2.2.2.2.2.1,z.2.1,z.2.2.1,z.2.2.2.1.1)) (fun _=>rfl) (fun _=>rfl) (fun _ _ _ h=>h) ?_
 intro x v; kernel_rfl
def EJ (x0:List (Int×Int)):Tree (Unit×((List (Int×Int))×((List (Int×Int))×(((List (Int×Int))×(Unit×(Unit×Unit)))×Unit)))) :=
 .bnd (.loop (fun v=>uJ x0 (x0.length:Int) v.1 v.2.1 v.2.2.1 v.2.2.2) (0,([]:List (Int×Int)),([]:List (Int×Int)),x0)) fun r1 =>
 .ret ((),r1.1,r1.2.1,(r1.2.2,(),(),()),())
def WJ:fH:=⟨135,(.cons (.val false (.list (.pair (.int .i64) (.int .i64)))) .nil),.nil,[],(.ref 2 0),(.map (.int .i64) (.int .i64) (.map (.int .i64) (.int .i64) (.cells 141 (.cons (.val false (.list (.pair (.int .i64) (.int .i64)))) (.cons (.mp 0) (.cons (.mp 1) .nil))) .nil))),none,fun z=>EJ z.1.1⟩
theorem agu:WJ.ok Tryz.prog:=by
 refine fH.lift mix aI bq _ Tryz.func135 (c:=(ak Tryz.f135)) (by kernel_rfl) (o:=orM [] [Ps] [Pt] aU) (jW trivial ⟨WI,trivial⟩) (jX [aP (aK (ak Tryz.f135)) 0] (by kernel_rfl) ⟨agt,trivial⟩ (by kernel_rfl)) (fun _=>rfl) ?_
 intro z; kernel_rfl
def EK (x0:List (Int×Int)):Tree Int :=
 .bnd (EJ x0) fun y1 =>
 .ret (y1.2.1.length:Int)
def Pv:aA:=⟨126,(.cons (.val false (.list (.pair (.int .i64) (.int .i64)))) .nil),.vals (.val false (.int .i64)),fun z=>EK z.1,(0:Int)⟩
theorem WK:Pv.ok Tryz.prog:=by
 refine aA.lift mix aI bq _ Tryz.func126 (c:=(ak Tryz.f126)) (by kernel_rfl) (o:=orM [] [WJ] [] aU) (jW trivial ⟨agu,trivial⟩) (jX [] (by kernel_rfl) trivial rfl) ?_
 intro z; kernel_rfl
def J7 (x0:List (Int×Int)) (x1:Int) (x2:Int) (x3:Int):Tree Bool :=
 .bnd (Bu x0) fun y1 =>
 .ite ((((decide (x1<0))||(decide ((x0.length:Int)<x1)))||(decide (y1.1<(ae.imax x2 0))))||(decide (y1.2.1<(ae.imax x3 0)))) (
 .ret false) (
 .bnd (EP x0) fun y2 =>
 .bnd (EK y2) fun y3 =>
 .ret (decide ((ay ((ae.imax x2 0)-(ae.jh (ae.jh y3 (ae.imax x2 0)) (ae.imax x3 0))))<=(ay (x1-(ae.imax x3 0))))))
def WL:aA:=⟨110,(.cons (.val false (.list (.pair (.int .i64) (.int .i64)))) (.cons (.val false (.int .i64)) (.cons (.val false (.int .i64)) (.cons (.val false (.int .i64)) (.cons .jZ (.cons .jZ .nil)))))),.vals (.val false .bool),fun z=>J7 z.1 z.2.1 z.2.2.1 z.2.2.2.1,false⟩
theorem agv:WL.ok Tryz.prog:=by
 refine aA.lift mix aI bq _ Tryz.func110 (c:=(ak Tryz.f110)) (by kernel_rfl) (o:=aO [IZ,WC,Pv] [] aU) (aR ⟨Po,agn,WK,trivial⟩) (aQ [] (by kernel_rfl) trivial rfl) ?_
 intro z; kernel_rfl
def ES (x0:List (Int×Int)) (x1:Int) (x2:Int) (x3:Int):Tree Bool :=
 .bnd (J7 x0 x1 x2 x3) fun y1 =>
 .ret y1
def Pw:aA:=⟨125,(.cons (.val false (.list (.pair (.int .i64) (.int .i64)))) (.cons (.val false (.int .i64)) (.cons (.val false (.int .i64)) (.cons (.val false (.int .i64)) .nil)))),.vals (.val false .bool),fun z=>ES z.1 z.2.1 z.2.2.1 z.2.2.2.1,false⟩
theorem WM:Pw.ok Tryz.prog:=by
 refine aA.lift mix aI bq _ Tryz.func125 (c:=(ak Tryz.f125)) (by kernel_rfl) (o:=aO [WL] [] aU) (aR ⟨agv,trivial⟩) (aQ [] (by kernel_rfl) trivial rfl) ?_
 intro z; kernel_rfl
def pq (l:List (Int×Int)) (many:Int) (a:Int) (b:Int):Tree (Int⊕Int) :=
 .dH (decide ((0:Int)<b)) (ES l many a b) false fun y1 =>
 .ite ((decide ((0:Int)<b))&&(!y1)) (
 .ret (.inl (ay (b-1)))) (
 .ret (.inr b))
def Px:Lp:=⟨5,[],[],(.cons (.val false (.list (.pair (.int .i64) (.int .i64)))) (.cons (.val false (.int .i64)) (aJ (.cons (.val false (.int .i64)) (.cons (.val false (.int .i64)) (ca (aZ .nil))))))),.nil,0,.one 1 [] (aF (aJ (.cons (.val false (.int .i64)) (.cons (.val false (.int .i64)) (ca (aZ .nil)))))) .nil,fun z=>.bnd (.loop (fun v=>pq z.1.1 z.1.2.1 z.1.2.2.2.2.2.2.1 v) z.1.2.2.2.2.2.2.2.1) fun r=>.ret ((ah (ai (z.1.2.2.2.2.2.2.1,r,(cu (aj ()))))),())⟩
theorem agw:Px.ok Tryz.prog (aP (aK (ak Tryz.f108)) 0):=by
 refine Lp.lift (π:=((List (Int×Int))×Int×Int)) (V:=Int) (ρ:=Int) mix aI Px (o:=aO [IZ,Pw] [] aU) (aR ⟨Po,WM,trivial⟩) (aQ [] (by kernel_rfl) trivial rfl) (fun x v=>((x.1,x.2.1,(ai (x.2.2,v,(cu (aj ()))))),())) (fun x r=>((ah (ai (x.2.2,r,(cu (aj ()))))),())) (fun x v=>pq x.1 x.2.1 x.2.2 v) (fun x r=>.ret ((ah (ai (x.2.2,r,(cu (aj ()))))),())) (fun z=>(z.1.1,z.1.2.1,z.1.2.2.2.2.2.2.1)) (fun z=>z.1.2.2.2.2.2.2.2.1) (fun _=>rfl) (fun _=>rfl) (fun _ _ _ h=>h) ?_
 intro x v; kernel_rfl
def EU (x0:List (Int×Int)) (x1:Int):Tree (Int×Int×Unit) :=
 .ite ((decide (x1<0))||(decide ((x0.length:Int)<x1))) (
 .ret (0,0,())) (
 .bnd (Bu x0) fun y1 =>
 .bnd (.loop (fun v=>pq x0 x1 (ae.jh y1.1 x1) v) (ae.jh y1.2.1 x1)) fun r2 =>
 .ret ((ae.jh y1.1 x1),r2,()))
def Py:aA:=⟨108,(.cons (.val false (.list (.pair (.int .i64) (.int .i64)))) (.cons (.val false (.int .i64)) .nil)),.vals (.cons (.val false (.int .i64)) (.cons (.val false (.int .i64)) .nil)),fun z=>EU z.1 z.2.1,((0:Int),(0:Int),())⟩
theorem WN:Py.ok Tryz.prog:=by
 refine aA.lift mix aI bq _ Tryz.func108 (c:=(ak Tryz.f108)) (by kernel_rfl) (o:=aO [IZ,Pw] [Px] aU) (aR ⟨Po,WM,trivial⟩) (aQ [aP (aK (ak Tryz.f108)) 0] (by kernel_rfl) ⟨agw,trivial⟩ (by kernel_rfl)) ?_
 intro z; kernel_rfl
def xM (left:List (Int×Int)) (right:List (Int×Int)) (t:List (Int×Int)) (t2:Int) (t3:Int) (rows:List (Int×Int)) (rows2:List (Int×Int)):Tree ((Int×(List (Int×Int))×(List (Int×Int)))⊕((List (Int×Int))×(List (Int×Int)))) :=
 .ite (decide (t3<t2)) (
 ask (aD t3 t.length) <|
 ask (aD 0 2) <|
 .ite (decide (((getM (.dm .i64) (.int .i64) left (t.getD t3.toNat (aS (.pair (.int .i64) (.int .i64)):(Int×Int))).1).getD (0:Int))=0)) (
 ask (aD 0 2) <|
 ask (decide ((dn (.int .i64) (.int .i64) rows (t.getD t3.toNat (aS (.pair (.int .i64) (.int .i64)):(Int×Int))).1 1).length<=9223372036854775807)) <|
 ask (aD 1 2) <|
 .ite (decide (((getM (.dm .i64) (.int .i64) right (t.getD t3.toNat (aS (.pair (.int .i64) (.int .i64)):(Int×Int))).2).getD (0:Int))=0)) (
 ask (aD 1 2) <|
 ask (decide ((dn (.int .i64) (.int .i64) rows2 (t.getD t3.toNat (aS (.pair (.int .i64) (.int .i64)):(Int×Int))).2 1).length<=9223372036854775807)) <|
 .ret (.inl ((ay (t3+1)),(dn (.int .i64) (.int .i64) rows (t.getD t3.toNat (aS (.pair (.int .i64) (.int .i64)):(Int×Int))).1 1),(dn (.int .i64) (.int .i64) rows2 (t.getD t3.toNat (aS (.pair (.int .i64) (.int .i64)):(Int×Int))).2 1)))) (
 .ret (.inl ((ay (t3+1)),(dn (.int .i64) (.int .i64) rows (t.getD t3.toNat (aS (.pair (.int .i64) (.int .i64)):(Int×Int))).1 1),rows2)))) (
 ask (aD 1 2) <|
 .ite (decide (((getM (.dm .i64) (.int .i64) right (t.getD t3.toNat (aS (.pair (.int .i64) (.int .i64)):(Int×Int))).2).getD (0:Int))=0)) (
 ask (aD 1 2) <|
 ask (decide ((dn (.int .i64) (.int .i64) rows2 (t.getD t3.toNat (aS (.pair (.int .i64) (.int .i64)):(Int×Int))).2 1).length<=9223372036854775807)) <|
 .ret (.inl ((ay (t3+1)),rows,(dn (.int .i64) (.int .i64) rows2 (t.getD t3.toNat (aS (.pair (.int .i64) (.int .i64)):(Int×Int))).2 1)))) (
 .ret (.inl ((ay (t3+1)),rows,rows2))))) (
 .ret (.inr (rows,rows2)))
def Pz:Lp:=⟨3,[],[],(ca (.cons (.mv (.dm .i64) (.int .i64)) (.cons (.mv (.dm .i64) (.int .i64)) (ca (aJ (.cons (.mp 0) (.cons (.mp 1) (aJ (.cons (.val false (.list (.pair (.int .i64) (.int .i64)))) (.cons (.val false (.int .i64)) (.cons (.val false (.int .i64)) (ca8 (bB .nil))))))))))))),(.map (.int .i64) (.int .i64) (.map (.int .i64) (.int .i64) .nil)),0,.one 1 [] (ca8 (.cons (.mp 0) (.cons (.mp 1) (ca (aF (aJ (ca8 (bB .nil)))))))) (.map (.int .i64) (.int .i64) (.map (.int .i64) (.int .i64) .nil)),fun z=>.bnd (.loop (fun v=>xM z.1.2.1 z.1.2.2.1 z.1.2.2.2.2.2.2.2.2.2.2.2.2.2.2.1 z.1.2.2.2.2.2.2.2.2.2.2.2.2.2.2.2.1 v.1 v.2.1 v.2.2) (z.1.2.2.2.2.2.2.2.2.2.2.2.2.2.2.2.2.1,z.2.1,z.2.2.1)) fun r=>.ret ((az ((),(),(cu (ah (ai (az (aC ()))))))),r.1,r.2,())⟩
theorem agx:Pz.ok Tryz.prog (aP (aK (ak Tryz.f124)) 0):=by
 refine Lp.lift (π:=((List (Int×Int))×(List (Int×Int))×(List (Int×Int))×Int)) (V:=(Int×(List (Int×Int))×(List (Int×Int)))) (ρ:=((List (Int×Int))×(List (Int×Int)))) mix aI Pz (o:=aO [] [] aU) (aR trivial) (aQ [] (by kernel_rfl) trivial rfl) (fun x v=>((cu (x.1,x.2.1,(cu (ai ((),(),(ai (x.2.2.1,x.2.2.2,v.1,(az (aC ()))))))))),v.2.1,v.2.2,())) (fun x r=>((az ((),(),(cu (ah (ai (az (aC ()))))))),r.1,r.2,())) (fun x v=>xM x.1 x.2.1 x.2.2.1 x.2.2.2 v.1 v.2.1 v.2.2) (fun x r=>.ret ((az ((),(),(cu (ah (ai (az (aC ()))))))),r.1,r.2,())) (fun z=>(z.1.2.1,z.1.2.2.1,z.1.2.2.2.2.2.2.2.2.2.2.2.2.2.2.1,z.1.2.2.2.2.2.2.2.2.2.2.2.2.2.2.2.1)) (fun z=>(z.1.2.2.2.2.2.2.2.2.2.2.2.2.2.2.2.2.1,z.2.1,z.2.2.1)) (fun _=>rfl) (fun _=>rfl) (fun _ _ _ h=>h) ?_
 intro x v; kernel_rfl
def EN (x0:List (Int×Int)) (x1:List (Int×Int)) (x2:List (Int×Int)):Tree (Int×Int×Unit) :=
 .bnd (.loop (fun v=>xM x1 x2 x0 (x0.length:Int) v.1 v.2.1 v.2.2) (0,([]:List (Int×Int)),([]:List (Int×Int)))) fun r1 =>
 .ret ((r1.1.length:Int),(r1.2.length:Int),())
def WO:aA:=⟨124,(.cons (.val false (.list (.pair (.int .i64) (.int .i64)))) (.cons (.mv (.dm .i64) (.int .i64)) (.cons (.mv (.dm .i64) (.int .i64)) .nil))),.vals (.cons (.val false (.int .i64)) (.cons (.val false (.int .i64)) .nil)),fun z=>EN z.1 z.2.1 z.2.2.1,((0:Int),(0:Int),())⟩
theorem agy:WO.ok Tryz.prog:=by
 refine aA.lift mix aI bq _ Tryz.func124 (c:=(ak Tryz.f124)) (by kernel_rfl) (o:=aO [] [Pz] aU) (aR trivial) (aQ [aP (aK (ak Tryz.f124)) 0] (by kernel_rfl) ⟨agx,trivial⟩ (by kernel_rfl)) ?_
 intro z; kernel_rfl
def xO (left:List (Int×Int)) (right:List (Int×Int)) (t:List (Int×Int)) (t2:Int) (t3:Int) (out:List (Int×Int)):Tree ((Int×(List (Int×Int)))⊕(List (Int×Int))) :=
 .ite (decide (t3<t2)) (
 ask (aD t3 t.length) <|
 ask (aD 0 2) <|
 ask ((!(decide (((getM (.dm .i64) (.int .i64) left (t.getD t3.toNat (aS (.pair (.int .i64) (.int .i64)):(Int×Int))).1).getD (0:Int))=0)))||aD 1 2) <|
 .ite ((decide (((getM (.dm .i64) (.int .i64) left (t.getD t3.toNat (aS (.pair (.int .i64) (.int .i64)):(Int×Int))).1).getD (0:Int))=0))&&(decide (((getM (.dm .i64) (.int .i64) right (t.getD t3.toNat (aS (.pair (.int .i64) (.int .i64)):(Int×Int))).2).getD (0:Int))=0))) (
 ask (decide ((out++[(t.getD t3.toNat (aS (.pair (.int .i64) (.int .i64)):(Int×Int)))]).length*16<=bD)) <|
 .ret (.inl ((ay (t3+1)),(out++[(t.getD t3.toNat (aS (.pair (.int .i64) (.int .i64)):(Int×Int)))])))) (
 .ret (.inl ((ay (t3+1)),out)))) (
 .ret (.inr out))
def PD:Lp:=⟨3,[.own 7 99 (.pair (.int .i64) (.int .i64))],[],(ca (.cons (.mv (.dm .i64) (.int .i64)) (.cons (.mv (.dm .i64) (.int .i64)) (aJ (.cons (.own 0) (aF (.cons (.val false (.list (.pair (.int .i64) (.int .i64)))) (.cons (.val false (.int .i64)) (.cons (.val false (.int .i64)) (ca (aJ (bB .nil)))))))))))),(.rows 99 (.pair (.int .i64) (.int .i64)) .nil),0,.one 1 [] (ca (aF (aJ (.cons (.own 0) (aF (ca8 (bB .nil))))))) (.rows 99 (.pair (.int .i64) (.int .i64)) .nil),fun z=>.bnd (.loop (fun v=>xO z.1.2.1 z.1.2.2.1 z.1.2.2.2.2.2.2.2.2.2.2.1 z.1.2.2.2.2.2.2.2.2.2.2.2.1 v.1 v.2) (z.1.2.2.2.2.2.2.2.2.2.2.2.2.1,z.2.1)) fun r=>.ret ((cu (ah (ai ((),(ah (az (aC ()))))))),r,())⟩
theorem agz:PD.ok Tryz.prog (aP (aK (ak Tryz.f127)) 0):=by
 refine Lp.lift (π:=((List (Int×Int))×(List (Int×Int))×(List (Int×Int))×Int)) (V:=(Int×(List (Int×Int)))) (ρ:=List (Int×Int)) mix aI PD (o:=aO [] [] aU) (aR trivial) (aQ [] (by kernel_rfl) trivial rfl) (fun x v=>((cu (x.1,x.2.1,(ai ((),(ah (x.2.2.1,x.2.2.2,v.1,(cu (ai (aC ()))))))))),v.2,())) (fun x r=>((cu (ah (ai ((),(ah (az (aC ()))))))),r,())) (fun x v=>xO x.1 x.2.1 x.2.2.1 x.2.2.2 v.1 v.2) (fun x r=>.ret ((cu (ah (ai ((),(ah (az (aC ()))))))),r,())) (fun z=>(z.1.2.1,z.1.2.2.1,z.1.2.2.2.2.2.2.2.2.2.2.1,z.1.2.2.2.2.2.2.2.2.2.2.2.1)) (fun z=>(z.1.2.2.2.2.2.2.2.2.2.2.2.2.1,z.2.1)) (fun _=>rfl) (fun _=>rfl) (fun _ _ _ h=>h) ?_
 intro x v; kernel_rfl
def EO (x0:List (Int×Int)) (x1:List (Int×Int)) (x2:List (Int×Int)):Tree (List (Int×Int)) :=
 .bnd (.loop (fun v=>xO x1 x2 x0 (x0.length:Int) v.1 v.2) (0,([]:List (Int×Int)))) fun r1 =>
 .ret r1
def WQ:aA:=⟨127,(.cons (.val false (.list (.pair (.int .i64) (.int .i64)))) (.cons (.mv (.dm .i64) (.int .i64)) (.cons (.mv (.dm .i64) (.int .i64)) .nil))),.fresh 99 (.pair (.int .i64) (.int .i64)),fun z=>EO z.1 z.2.1 z.2.2.1,([]:List (Int×Int))⟩
theorem agA:WQ.ok Tryz.prog:=by
 refine aA.lift mix aI bq _ Tryz.func127 (c:=(ak Tryz.f127)) (by kernel_rfl) (o:=aO [] [PD] aU) (aR trivial) (aQ [aP (aK (ak Tryz.f127)) 0] (by kernel_rfl) ⟨agz,trivial⟩ (by kernel_rfl)) ?_
 intro z; kernel_rfl
def ER (x0:List (Int×Int)) (x1:Int) (x2:Int) (x3:Int) (x4:List (Int×Int)) (x5:List (Int×Int)):Tree Bool :=
 .bnd (EN x0 x4 x5) fun y1 =>
 .ite ((((decide (x1<0))||(decide ((x0.length:Int)<x1)))||(decide (y1.1<(ae.imax x2 0))))||(decide (y1.2.1<(ae.imax x3 0)))) (
 .ret false) (
 .bnd (EO x0 x4 x5) fun y2 =>
 .bnd (EK y2) fun y3 =>
 .ret (decide ((ay ((ae.imax x2 0)-(ae.jh (ae.jh y3 (ae.imax x2 0)) (ae.imax x3 0))))<=(ay (x1-(ae.imax x3 0))))))
def WR:aA:=⟨110,(.cons (.val false (.list (.pair (.int .i64) (.int .i64)))) (.cons (.val false (.int .i64)) (.cons (.val false (.int .i64)) (.cons (.val false (.int .i64)) (.cons (.mv (.dm .i64) (.int .i64)) (.cons (.mv (.dm .i64) (.int .i64)) .nil)))))),.vals (.val false .bool),fun z=>ER z.1 z.2.1 z.2.2.1 z.2.2.2.1 z.2.2.2.2.1 z.2.2.2.2.2.1,false⟩
theorem agB:WR.ok Tryz.prog:=by
 refine aA.lift mix aI bq _ Tryz.func110 (c:=(ak Tryz.f110)) (by kernel_rfl) (o:=aO [WO,WQ,Pv] [] aU) (aR ⟨agy,agA,WK,trivial⟩) (aQ [] (by kernel_rfl) trivial rfl) ?_
 intro z; kernel_rfl
def EW (x0:Int) (x1:List (Int×Int)) (x2:Int) (x3:Int) (x4:Int) (x5:List Int) (x6:List (Int×Int)) (x7:List (Int×Int)):Tree (Bool×(((List (Int×Int))×Unit)×((Int×Unit)×((Unit×Unit)×((Int×Unit)×((Unit×Unit)×((Int×Unit)×((Unit×Unit)×((List Int)×((List (Int×Int))×((List (Int×Int))×Unit))))))))))) :=
 ask (df x0 x1.length) <|
 .bnd (ER (x1.drop x0.toNat) (ay (x2-(x5.length:Int))) (ay (x3-(x6.length:Int))) (ay (x4-(x7.length:Int))) x6 x7) fun y1 =>
 .ret (y1,(x1,()),(x2,()),((),()),(x3,()),((),()),(x4,()),((),()),x5,x6,x7,())
def PE:fH:=⟨109,(.cons (.val false (.int .i64)) (.cons (.ref 0 0) (.cons (.ref 1 0) (.cons (.ref 2 0) (.cons (.ref 3 0) (.cons (.ref 4 0) (.cons (.ref 5 0) (.cons (.ref 6 0) .nil)))))))),(.cells 98 (.cons (.val false (.list (.pair (.int .i64) (.int .i64)))) .nil) (.cells 3 (.cons (.val false (.int .i64)) .nil) (.cells 34 (.cons (.own 7) .nil) (.cells 3 (.cons (.val false (.int .i64)) .nil) (.cells 112 (.cons (.mp 8) .nil) (.cells 3 (.cons (.val false (.int .i64)) .nil) (.cells 112 (.cons (.mp 9) .nil) (.rows 3 (.int .i64) (.map (.dm .i64) (.int .i64) (.map (.dm .i64) (.int .i64) .nil)))))))))),[],(.val false .bool),(.cells 98 (.cons (.val false (.list (.pair (.int .i64) (.int .i64)))) .nil) (.cells 3 (.cons (.val false (.int .i64)) .nil) (.cells 34 (.cons (.own 7) .nil) (.cells 3 (.cons (.val false (.int .i64)) .nil) (.cells 112 (.cons (.mp 8) .nil) (.cells 3 (.cons (.val false (.int .i64)) .nil) (.cells 112 (.cons (.mp 9) .nil) (.rows 3 (.int .i64) (.map (.dm .i64) (.int .i64) (.map (.dm .i64) (.int .i64) .nil)))))))))),some 7,fun z=>EW z.1.1 z.2.1.1 z.2.2.1.1 z.2.2.2.2.1.1 z.2.2.2.2.2.2.1.1 z.2.2.2.2.2.2.2.2.1 z.2.2.2.2.2.2.2.2.2.1 z.2.2.2.2.2.2.2.2.2.2.1⟩
theorem WS:PE.ok Tryz.prog:=by
 refine fH.lift mix aI bq _ Tryz.func109 (c:=(ak Tryz.f109)) (by kernel_rfl) (o:=aO [WR] [] aU) (aR ⟨agB,trivial⟩) (aQ [] (by kernel_rfl) trivial rfl) (fun _=>rfl) ?_
 intro z; kernel_rfl
def WT:Nat->List Pre
 | 3=>[.tT 4 0 3 (.int .i64)]
 | 4=>[.wE 6,.wE 7]
 | 10=>[.gP 10]
 | _=>[]
def nT (at_:Int) (l:List (Int×Int)) (many:Int) (a:Int) (b:Int) (rows:List Int) (rows2:List (Int×Int)) (rows3:List (Int×Int)):Tree ((Int×(List (Int×Int))×Int×Int×Int×(List Int)×(List (Int×Int))×(List (Int×Int)))⊕(List Int)) :=
 .ite (((decide (at_<(l.length:Int)))&&(decide (many<=(l.length:Int))))&&(decide ((rows.length:Int)<many))) (
 ask (aD at_ l.length) <|
 ask (aD 0 2) <|
 ask (aD 1 2) <|
 ask (aD 0 2) <|
 ask (aD 1 2) <|
 (fun q9=>.both (.both q9 q9) q9) (ask (decide ((dn (.dm .i64) (.int .i64) rows2 (l.getD at_.toNat (aS (.pair (.int .i64) (.int .i64)):(Int×Int))).1 1).length<=9223372036854775807)) <|
 ask (decide ((dn (.dm .i64) (.int .i64) rows3 (l.getD at_.toNat (aS (.pair (.int .i64) (.int .i64)):(Int×Int))).2 1).length<=9223372036854775807)) <|
 ask (decide ((rows++[at_]).length*8<=bD)) <|
 .bnd (EW (ay (at_+1)) l many a b (rows++[at_]) (dn (.dm .i64) (.int .i64) rows2 (l.getD at_.toNat (aS (.pair (.int .i64) (.int .i64)):(Int×Int))).1 1) (dn (.dm .i64) (.int .i64) rows3 (l.getD at_.toNat (aS (.pair (.int .i64) (.int .i64)):(Int×Int))).2 1)) fun y3 =>
 .ite y3.1 (
 .ret (.inl ((ay (at_+1)),y3.2.1.1,y3.2.2.1.1,y3.2.2.2.2.1.1,y3.2.2.2.2.2.2.1.1,y3.2.2.2.2.2.2.2.2.1,y3.2.2.2.2.2.2.2.2.2.1,y3.2.2.2.2.2.2.2.2.2.2.1))) (
 ask (df (ay ((y3.2.2.2.2.2.2.2.2.1.length:Int)-1)) y3.2.2.2.2.2.2.2.2.1.length) <|
 .ite (decide (((getM (.dm .i64) (.int .i64) rows2 (l.getD at_.toNat (aS (.pair (.int .i64) (.int .i64)):(Int×Int))).1).getD (0:Int))=0)) (
 ask (aD 0 2) <|
 .ite (decide (((getM (.dm .i64) (.int .i64) rows3 (l.getD at_.toNat (aS (.pair (.int .i64) (.int .i64)):(Int×Int))).2).getD (0:Int))=0)) (
 ask (aD 1 2) <|
 .ret (.inl ((ay (at_+1)),y3.2.1.1,y3.2.2.1.1,y3.2.2.2.2.1.1,y3.2.2.2.2.2.2.1.1,(y3.2.2.2.2.2.2.2.2.1.take ((ay ((y3.2.2.2.2.2.2.2.2.1.length:Int)-1)).toNat)),(iV (.dm .i64) (.int .i64) y3.2.2.2.2.2.2.2.2.2.1 (l.getD at_.toNat (aS (.pair (.int .i64) (.int .i64)):(Int×Int))).1),(iV (.dm .i64) (.int .i64) y3.2.2.2.2.2.2.2.2.2.2.1 (l.getD at_.toNat (aS (.pair (.int .i64) (.int .i64)):(Int×Int))).2)))) (
 .ret (.inl ((ay (at_+1)),y3.2.1.1,y3.2.2.1.1,y3.2.2.2.2.1.1,y3.2.2.2.2.2.2.1.1,(y3.2.2.2.2.2.2.2.2.1.take ((ay ((y3.2.2.2.2.2.2.2.2.1.length:Int)-1)).toNat)),(iV (.dm .i64) (.int .i64) y3.2.2.2.2.2.2.2.2.2.1 (l.getD at_.toNat (aS (.pair (.int .i64) (.int .i64)):(Int×Int))).1),y3.2.2.2.2.2.2.2.2.2.2.1)))) (
 .ite (decide (((getM (.dm .i64) (.int .i64) rows3 (l.getD at_.toNat (aS (.pair (.int .i64) (.int .i64)):(Int×Int))).2).getD (0:Int))=0)) (
 ask (aD 1 2) <|
 .ret (.inl ((ay (at_+1)),y3.2.1.1,y3.2.2.1.1,y3.2.2.2.2.1.1,y3.2.2.2.2.2.2.1.1,(y3.2.2.2.2.2.2.2.2.1.take ((ay ((y3.2.2.2.2.2.2.2.2.1.length:Int)-1)).toNat)),y3.2.2.2.2.2.2.2.2.2.1,(iV (.dm .i64) (.int .i64) y3.2.2.2.2.2.2.2.2.2.2.1 (l.getD at_.toNat (aS (.pair (.int .i64) (.int .i64)):(Int×Int))).2)))) (
 .ret (.inl ((ay (at_+1)),y3.2.1.1,y3.2.2.1.1,y3.2.2.2.2.1.1,y3.2.2.2.2.2.2.1.1,(y3.2.2.2.2.2.2.2.2.1.take ((ay ((y3.2.2.2.2.2.2.2.2.1.length:Int)-1)).toNat)),y3.2.2.2.2.2.2.2.2.2.1,y3.2.2.2.2.2.2.2.2.2.2.1))))))) (
 .ret (.inr rows))
def PG:Lp:=⟨6,[],[.qp 4 0],(aF (.cons (.ref 0 0) (.cons (.ref 1 0) (ca (aF (.cons (.ref 4 0) (.cons (.ref 8 0) (.cons (.ref 9 0) (.cons (.fn 109 .nil (.cons (.ref 0 0) (.cons (.ref 1 0) (.cons (.ref 4 0) (.cons (.ref 2 0) (.cons (.ref 8 0) (.cons (.ref 3 0) (.cons (.ref 9 0) .nil)))))))) (.cons (.val false (.int .i64)) (ca8 (aZ (aZ .nil))))))))))))),(.cells 98 (.cons (.val false (.list (.pair (.int .i64) (.int .i64)))) .nil) (.cells 3 (.cons (.val false (.int .i64)) .nil) (.cells 3 (.cons (.val false (.int .i64)) .nil) (.cells 3 (.cons (.val false (.int .i64)) .nil) (.cells 34 (.cons (.own 5) .nil) (.rows 3 (.int .i64) (.map (.dm .i64) (.int .i64) (.map (.dm .i64) (.int .i64) (.cells 112 (.cons (.mp 6) .nil) (.cells 112 (.cons (.mp 7) .nil) .nil)))))))))),0,.one 1 [] (ca (aF (aJ (.cons (.ref 4 0) (aJ (ca8 (aZ (aZ .nil)))))))) (.cells 98 (ca .nil) (.cells 3 (ca .nil) (.cells 3 (ca .nil) (.cells 3 (ca .nil) (.cells 34 (.cons (.own 5) .nil) (.rows 3 (.int .i64) .nil)))))),fun z=>.bnd (.loop (fun v=>nT v.1 v.2.1 v.2.2.1 v.2.2.2.1 v.2.2.2.2.1 v.2.2.2.2.2.1 v.2.2.2.2.2.2.1 v.2.2.2.2.2.2.2) (z.1.2.2.2.2.2.2.2.2.2.2.2.1,z.2.1.1,z.2.2.1.1,z.2.2.2.1.1,z.2.2.2.2.1.1,z.2.2.2.2.2.2.1,z.2.2.2.2.2.2.2.1,z.2.2.2.2.2.2.2.2.1)) fun r=>.ret ((cu (ah (ai ((),(ai (az (aj (aj ())))))))),(cu ()),(cu ()),(cu ()),(cu ()),((),()),r,())⟩
theorem agC:PG.ok Tryz.prog (aP (aK (ak Tryz.f94)) 0):=by
 refine Lp.lift (π:=Unit) (V:=(Int×(List (Int×Int))×Int×Int×Int×(List Int)×(List (Int×Int))×(List (Int×Int)))) (ρ:=List Int) mix aI PG (o:=orM [Py] [PE] [] WT) (jW ⟨WN,trivial⟩ ⟨WS,trivial⟩) (jX [] (by kernel_rfl) trivial rfl) (fun x v=>((ah ((),(),(cu (ah ((),(),(),((),(),(),(),(),(),(),(),()),v.1,(az (aj (aj ())))))))),(v.2.1,()),(v.2.2.1,()),(v.2.2.2.1,()),(v.2.2.2.2.1,()),((),()),v.2.2.2.2.2.1,v.2.2.2.2.2.2.1,v.2.2.2.2.2.2.2,((),()),((),()),())) (fun x r=>((cu (ah (ai ((),(ai (az (aj (aj ())))))))),(cu ()),(cu ()),(cu ()),(cu ()),((),()),r,())) (fun x v=>nT v.1 v.2.1 v.2.2.1 v.2.2.2.1 v.2.2.2.2.1 v.2.2.2.2.2.1 v.2.2.2.2.2.2.1 v.2.2.2.2.2.2.2) (fun x r=>.ret ((cu (ah (ai ((),(ai (az (aj (aj ())))))))),(cu ()),(cu ()),(cu ()),(cu ()),((),()),r,())) (fun z=>()) (fun z=>(z.1.2.2.2.2.2.2.2.2.2.2.2.1,z.2.1.1,z.2.2.1.1,z.2.2.2.1.1,z.2.2.2.2.1.1,z.2.2.2.2.2.2.1,z.2.2.2.2.2.2.2.1,z.2.2.2.2.2.2.2.2.1)) (fun _=>rfl) (fun _=>rfl) (fun _ _ _ h=>h) ?_
 intro x v; kernel_rfl
def EX (x0:List (Int×Int)) (x1:Int):Tree (List Int) :=
 .bnd (EU x0 x1) fun y1 =>
 .bnd (.loop (fun v=>nT v.1 v.2.1 v.2.2.1 v.2.2.2.1 v.2.2.2.2.1 v.2.2.2.2.2.1 v.2.2.2.2.2.2.1 v.2.2.2.2.2.2.2) (0,x0,x1,y1.1,y1.2.1,([]:List Int),([]:List (Int×Int)),([]:List (Int×Int)))) fun r2 =>
 .ret r2
def I1:aA:=⟨94,(.cons (.val false (.list (.pair (.int .i64) (.int .i64)))) (.cons (.val false (.int .i64)) .nil)),.fresh 3 (.int .i64),fun z=>EX z.1 z.2.1,([]:List Int)⟩
theorem PH:I1.ok Tryz.prog:=by
 refine aA.lift mix aI bq _ Tryz.func94 (c:=(ak Tryz.f94)) (by kernel_rfl) (o:=orM [Py] [PE] [PG] WT) (jW ⟨WN,trivial⟩ ⟨WS,trivial⟩) (jX [aP (aK (ak Tryz.f94)) 0] (by kernel_rfl) ⟨agC,trivial⟩ (by kernel_rfl)) ?_
 intro z; kernel_rfl
def rM (l:List aL) (many:Int) (t:Int) (order:List Int) (t2:Int) (rows:List (Str×Int)) (rows2:List (Str×Int)) (pairs:List (Int×Int)):Tree ((Int×(List (Str×Int))×(List (Str×Int))×(List (Int×Int)))⊕((List (Str×Int))×(List (Str×Int))×(List (Int×Int)))) :=
 .ite (decide (t2<t)) (
 ask (aD t2 order.length) <|
 ask (aD (order.getD t2.toNat (0:Int)) l.length) <|
 ask (aD (order.getD t2.toNat (0:Int)) l.length) <|
 .bnd (D5 (l.getD ((order.getD t2.toNat (0:Int)).toNat) (aS bH:aL)).2.1 rows) fun y1 =>
 .bnd (D5 (l.getD ((order.getD t2.toNat (0:Int)).toNat) (aS bH:aL)).2.2.1 rows2) fun y2 =>
 ask (decide ((pairs++[(y1.1,y2.1)]).length*16<=bD)) <|
 .ret (.inl ((ay (t2+1)),y1.2.2.1,y2.2.2.1,(pairs++[(y1.1,y2.1)])))) (
 .ret (.inr (rows,rows2,pairs)))
def PI:Lp:=⟨5,[.own 12 99 (.pair (.int .i64) (.int .i64))],[],(ca (.cons (.val false (.list bH)) (ca (.cons (.val false (.int .i64)) (ca (aJ (.cons (.own 0) (.cons (.fn 107 .nil (.cons (.ref 2 0) .nil)) (.cons (.fn 107 .nil (.cons (.ref 4 0) .nil)) (.cons (.own 5) (ca (aF (ca8 (.cons (.own 0) (.cons (.val false (.int .i64)) (.cons (.val false (.int .i64)) (aF (aJ (ca8 (aZ .nil)))))))))))))))))))),(.rows 3 (.int .i64) (.map .str (.int .i64) (.cells 83 (.cons (.mp 1) .nil) (.map .str (.int .i64) (.cells 83 (.cons (.mp 3) .nil) (.rows 99 (.pair (.int .i64) (.int .i64)) .nil)))))),0,.one 1 [] (ca (.cons (.val false (.list bH)) (ca (.cons (.val false (.int .i64)) (ca (aJ (.cons (.own 0) (aF (.cons (.own 5) (aJ (ca8 (bB (aZ .nil))))))))))))) (.rows 3 (.int .i64) (.map .str (.int .i64) (.cells 83 (ca .nil) (.map .str (.int .i64) (.cells 83 (ca .nil) (.rows 99 (.pair (.int .i64) (.int .i64)) .nil)))))),fun z=>.bnd (.loop (fun v=>rM z.1.2.1 z.1.2.2.2.1 z.1.2.2.2.2.2.2.2.2.2.2.2.2.2.2.2.2.2.2.2.2.2.2.2.2.2.1 z.2.1 v.1 v.2.1 v.2.2.1 v.2.2.2) (z.1.2.2.2.2.2.2.2.2.2.2.2.2.2.2.2.2.2.2.2.2.2.2.2.2.2.2.1,z.2.2.1,z.2.2.2.2.1,z.2.2.2.2.2.2.1)) fun r=>.ret ((cu (z.1.2.1,(cu (z.1.2.2.2.1,(cu (ai ((),(ah ((),(ai (az (aC (aj ()))))))))))))),z.2.1,r.1,(cu ()),r.2.1,(cu ()),r.2.2,())⟩
theorem agD:PI.ok Tryz.prog (aP (aK (ak Tryz.f68)) 0):=by
 refine Lp.lift (π:=((List aL)×Int×Int×(List Int))) (V:=(Int×(List (Str×Int))×(List (Str×Int))×(List (Int×Int)))) (ρ:=((List (Str×Int))×(List (Str×Int))×(List (Int×Int)))) mix aI PI (o:=orM [IW,I1] [IX,IY] [] aU) (jW ⟨Ph,PH,trivial⟩ ⟨Pk,Pm,trivial⟩) (jX [] (by kernel_rfl) trivial rfl) (fun x v=>((cu (x.1,(cu (x.2.1,(cu (ai ((),((),(),()),((),(),()),(),(cu (ah (az ((),x.2.2.1,v.1,(ah (ai (az (aj ()))))))))))))))),x.2.2.2,v.2.1,((),()),v.2.2.1,((),()),v.2.2.2,())) (fun x r=>((cu (x.1,(cu (x.2.1,(cu (ai ((),(ah ((),(ai (az (aC (aj ()))))))))))))),x.2.2.2,r.1,(cu ()),r.2.1,(cu ()),r.2.2,())) (fun x v=>rM x.1 x.2.1 x.2.2.1 x.2.2.2 v.1 v.2.1 v.2.2.1 v.2.2.2) (fun x r=>.ret ((cu (x.1,(cu (x.2.1,(cu (ai ((),(ah ((),(ai (az (aC (aj ()))))))))))))),x.2.2.2,r.1,(cu ()),r.2.1,(cu ()),r.2.2,())) (fun z=>(z.1.2.1,z.1.2.2.2.1,z.1.2.2.2.2.2.2.2.2.2.2.2.2.2.2.2.2.2.2.2.2.2.2.2.2.2.1,z.2.1)) (fun z=>(z.1.2.2.2.2.2.2.2.2.2.2.2.2.2.2.2.2.2.2.2.2.2.2.2.2.2.2.1,z.2.2.1,z.2.2.2.2.1,z.2.2.2.2.2.2.1)) (fun _=>rfl) (fun _=>rfl) (fun _ _ _ h=>h) ?_
 intro x v; kernel_rfl
def Ay (l:List aL) (t:Int) (order:List Int) (rows:List (Str×Int)) (rows2:List (Str×Int)) (rows3:List Int) (t2:Int) (out:List Str):Tree ((Int×(List Str))⊕(List Str)) :=
 .ite (decide (t2<t)) (
 ask (aD t2 rows3.length) <|
 ask (aD (rows3.getD t2.toNat (0:Int)) order.length) <|
 ask (aD (order.getD ((rows3.getD t2.toNat (0:Int)).toNat) (0:Int)) l.length) <|
 ask (decide ((out++[(l.getD ((order.getD ((rows3.getD t2.toNat (0:Int)).toNat) (0:Int)).toNat) (aS bH:aL)).1]).length*16<=bD)) <|
 .ret (.inl ((ay (t2+1)),(out++[(l.getD ((order.getD ((rows3.getD t2.toNat (0:Int)).toNat) (0:Int)).toNat) (aS bH:aL)).1])))) (
 .ret (.inr out))
def PK:Lp:=⟨11,[.own 15 9 .str],[],(ca (.cons (.val false (.list bH)) (ca (aF (aJ (.cons (.own 0) (ca (aJ (.cons (.own 7) (aF (aJ (aZ (.cons (.own 6) (.cons (.val false (.int .i64)) (.cons (.val false (.int .i64)) (bB .nil)))))))))))))))),(.rows 3 (.int .i64) (.map .str (.int .i64) (.cells 83 (ca .nil) (.map .str (.int .i64) (.cells 83 (ca .nil) (.dead (.rows 3 (.int .i64) (.rows 9 .str .nil)))))))),0,.one 3 [] (ca (aF (aJ (ca8 (.cons (.own 7) (ca (ca8 (bB (aZ .nil))))))))) (.dead (.map .str (.int .i64) (.cells 83 (ca .nil) (.map .str (.int .i64) (.cells 83 (ca .nil) (.dead (.dead (.rows 9 .str .nil)))))))),fun z=>.bnd (.loop (fun v=>Ay z.1.2.1 z.1.2.2.2.2.2.2.2.2.2.2.2.2.2.2.2.2.2.2.2.2.2.2.2.2.2.2.2.2.2.2.2.2.2.2.2.2.2.2.2.2.2.2.2.2.2.2.2.2.2.2.2.2.2.2.2.1 z.2.1 z.2.2.1 z.2.2.2.2.1 z.2.2.2.2.2.2.1 v.1 v.2) (z.1.2.2.2.2.2.2.2.2.2.2.2.2.2.2.2.2.2.2.2.2.2.2.2.2.2.2.2.2.2.2.2.2.2.2.2.2.2.2.2.2.2.2.2.2.2.2.2.2.2.2.2.2.2.2.2.2.1,z.2.2.2.2.2.2.2.1)) fun r=>.ret ((cu (ah (ai (az ((),(cu (az (aC (aj ()))))))))),z.2.2.1,(cu ()),z.2.2.2.2.1,(cu ()),r,())⟩
theorem agE:PK.ok Tryz.prog (aP (aK (ak Tryz.f68)) 1):=by
 refine Lp.lift (π:=((List aL)×Int×(List Int)×(List (Str×Int))×(List (Str×Int))×(List Int))) (V:=(Int×(List Str))) (ρ:=List Str) mix aI PK (o:=orM [IW,I1] [IX,IY] [] aU) (jW ⟨Ph,PH,trivial⟩ ⟨Pk,Pm,trivial⟩) (jX [] (by kernel_rfl) trivial rfl) (fun x v=>((cu (x.1,(cu (ah (ai ((),(cu (ai ((),(ah (ai (aj ((),x.2.1,v.1,(aC ())))))))))))))),x.2.2.1,x.2.2.2.1,(cu ()),x.2.2.2.2.1,(cu ()),x.2.2.2.2.2,v.2,())) (fun x r=>((cu (ah (ai (az ((),(cu (az (aC (aj ()))))))))),x.2.2.2.1,(cu ()),x.2.2.2.2.1,(cu ()),r,())) (fun x v=>Ay x.1 x.2.1 x.2.2.1 x.2.2.2.1 x.2.2.2.2.1 x.2.2.2.2.2 v.1 v.2) (fun x r=>.ret ((cu (ah (ai (az ((),(cu (az (aC (aj ()))))))))),x.2.2.2.1,(cu ()),x.2.2.2.2.1,(cu ()),r,())) (fun z=>(z.1.2.1,z.1.2.2.2.2.2.2.2.2.2.2.2.2.2.2.2.2.2.2.2.2.2.2.2.2.2.2.2.2.2.2.2.2.2.2.2.2.2.2.2.2.2.2.2.2.2.2.2.2.2.2.2.2.2.2.2.1,z.2.1,z.2.2.1,z.2.2.2.2.1,z.2.2.2.2.2.2.1)) (fun z=>(z.1.2.2.2.2.2.2.2.2.2.2.2.2.2.2.2.2.2.2.2.2.2.2.2.2.2.2.2.2.2.2.2.2.2.2.2.2.2.2.2.2.2.2.2.2.2.2.2.2.2.2.2.2.2.2.2.2.1,z.2.2.2.2.2.2.2.1)) (fun _=>rfl) (fun _=>rfl) (fun _ _ _ h=>h) ?_
 intro x v; kernel_rfl
def I4 (x0:List Str) (x1:List aL) (x2:Int) (x3:Int):Tree (List Str) :=
 .bnd (IV x0 x1 x2) fun y1 =>
 .bnd Pj fun y2 =>
 .bnd Pj fun y3 =>
 .bnd (.loop (fun v=>rM x1 x3 (y1.length:Int) y1 v.1 v.2.1 v.2.2.1 v.2.2.2) (0,y2.2.1,y3.2.1,([]:List (Int×Int)))) fun r4 =>
 .bnd (EX r4.2.2 (ae.jh x3 (x1.length:Int))) fun y5 =>
 .bnd (.loop (fun v=>Ay x1 (y5.length:Int) y1 r4.1 r4.2.1 y5 v.1 v.2) (0,([]:List Str))) fun r6 =>
 .ret r6
def WU:aA:=⟨68,(.cons (.val false (.list .str)) (.cons (.val false (.list bH)) (.cons (.val false (.int .i64)) (.cons (.val false (.int .i64)) .nil)))),.fresh 9 .str,fun z=>I4 z.1 z.2.1 z.2.2.1 z.2.2.2.1,([]:List Str)⟩
theorem agF:WU.ok Tryz.prog:=by
 refine aA.lift mix aI bq _ Tryz.func68 (c:=(ak Tryz.f68)) (by kernel_rfl) (o:=orM [IW,I1] [IX,IY] [PI,PK] aU) (jW ⟨Ph,PH,trivial⟩ ⟨Pk,Pm,trivial⟩) (jX [aP (aK (ak Tryz.f68)) 0,aP (aK (ak Tryz.f68)) 1] (by kernel_rfl) ⟨agD,agE,trivial⟩ (by kernel_rfl)) ?_
 intro z; kernel_rfl
def I5 (x0:List Str) (x1:List aL) (x2:Int) (x3:Int):Tree (List Str) :=
 .bnd (WA x3) fun y1 =>
 .ite (!y1) (
 .ret []) (
 .bnd (I4 x0 x1 x2 x3) fun y2 =>
 .ret y2)
def WV:aA:=⟨32,(.cons (.val false (.list .str)) (.cons (.val false (.list bH)) (.cons (.val false (.int .i64)) (.cons (.val false (.int .i64)) .nil)))),.fresh 9 .str,fun z=>I5 z.1 z.2.1 z.2.2.1 z.2.2.2.1,([]:List Str)⟩
theorem agG:WV.ok Tryz.prog:=by
 refine aA.lift mix aI bq _ Tryz.func32 (c:=(ak Tryz.f32)) (by kernel_rfl) (o:=aO [WB,WU] [] aU) (aR ⟨agh,agF,trivial⟩) (aQ [] (by kernel_rfl) trivial rfl) ?_
 intro z; kernel_rfl
def I6 (x0:Int) (x1:List Str) (x2:List aL) (x3:Int):Tree (List Str) :=
 .bnd (I5 x1 x2 x0 x3) fun y1 =>
 .ret y1
def agH:aA:=⟨31,(.cons (.val false (.int .i64)) (.cons (.ptr (.list .str)) (.cons (.ptr (.list bH)) (.cons (.ptr (.int .i64)) .nil)))),.fresh 9 .str,fun z=>I6 z.1 z.2.1 z.2.2.1 z.2.2.2.1,([]:List Str)⟩
theorem agI:agH.ok Tryz.prog:=by
 refine aA.lift mix aI bq _ Tryz.func31 (c:=(ak Tryz.f31)) (by kernel_rfl) (o:=aO [WV] [] aU) (aR ⟨agG,trivial⟩) (aQ [] (by kernel_rfl) trivial rfl) ?_
 intro z; kernel_rfl
def PN:aA:=⟨31,(.cons (.val false (.int .i64)) (.cons (.ptr (.list .str)) (.cons (.ptr (.list bH)) (.cons (.ptr (.int .i64)) .nil)))),.kJ 9 .str,fun z=>I6 z.1 z.2.1 z.2.2.1 z.2.2.2.1,([]:List Str)⟩
theorem WW:PN.ok Tryz.prog:=fun x y h=>oM (agI x y h)
def Az (copies:Int) (rows:List Str) (rows2:List aL) (t:Int) (out:List (List Str)):Tree ((Int×(List (List Str)))⊕(List (List Str))) :=
 .ite (decide (t<16)) (
 .bnd (I6 t rows rows2 copies) fun y1 =>
 ask (decide ((out++[y1]).length*24<=bD)) <|
 .ret (.inl ((ay (t+1)),(out++[y1])))) (
 .ret (.inr out))
def PO:Lp:=⟨5,[.own 8 23 (.list .str)],[],(ca (aF (aJ (.cons (.fn 31 .nil (.cons (.ref 3 0) (.cons (.ref 4 0) (.cons (.ref 0 0) .nil)))) (.cons (.own 5) (aF (aJ (.cons (.val false (.int .i64)) (aF (ca8 .nil)))))))))),(.cells 3 (.cons (.val false (.int .i64)) .nil) (.rows 9 .str (.rows 51 bH (.cells 23 (.cons (.own 1) .nil) (.cells 41 (.cons (.own 2) .nil) (.rows 23 (.list .str) .nil)))))),0,.one 1 [] (ca8 (.cons (.own 5) (ca (bB .nil)))) (.cells 3 (ca .nil) (.dead (.dead (.cells 23 (ca .nil) (.cells 41 (ca .nil) (.rows 23 (.list .str) .nil)))))),fun z=>.bnd (.loop (fun v=>Az z.2.1.1 z.2.2.1 z.2.2.2.1 v.1 v.2) (z.1.2.2.2.2.2.2.2.2.2.2.2.2.2.2.2.1,z.2.2.2.2.2.2.1)) fun r=>.ret ((az ((),(cu (aC ())))),(cu ()),(cu ()),(cu ()),r,())⟩
theorem agJ:PO.ok Tryz.prog (aP (aK (ak Tryz.f9)) 0):=by
 refine Lp.lift (π:=(Int×(List Str)×(List aL))) (V:=(Int×(List (List Str)))) (ρ:=List (List Str)) mix aI PO (o:=aO [zu,rE,PN] [] aU) (aR ⟨CW,uk,WW,trivial⟩) (aQ [] (by kernel_rfl) trivial rfl) (fun x v=>((cu (ah (ai (((),(),(),(),()),(),(ah (ai (v.1,(ah (az ()))))))))),(x.1,()),x.2.1,x.2.2,((),()),((),()),v.2,())) (fun x r=>((az ((),(cu (aC ())))),(cu ()),(cu ()),(cu ()),r,())) (fun x v=>Az x.1 x.2.1 x.2.2 v.1 v.2) (fun x r=>.ret ((az ((),(cu (aC ())))),(cu ()),(cu ()),(cu ()),r,())) (fun z=>(z.2.1.1,z.2.2.1,z.2.2.2.1)) (fun z=>(z.1.2.2.2.2.2.2.2.2.2.2.2.2.2.2.2.1,z.2.2.2.2.2.2.1)) (fun _=>rfl) (fun _=>rfl) (fun _ _ _ h=>h) ?_
 intro x v; kernel_rfl
def qx (x0:List Entry) (x1:Int):Tree (List (List Str)) :=
 .bnd (CX x0 16) fun y1 =>
 .bnd (wN x0) fun y2 =>
 .bnd (.loop (fun v=>Az x1 y1 y2 v.1 v.2) (0,([]:List (List Str)))) fun r3 =>
 .ret r3
def lT:aA:=⟨9,(.cons (.val false (.list bf)) (.cons (.val false (.int .i64)) .nil)),.fresh 23 (.list .str),fun z=>qx z.1 z.2.1,([]:List (List Str))⟩
theorem lU:lT.ok Tryz.prog:=by
 refine aA.lift mix aI bq _ Tryz.func9 (c:=(ak Tryz.f9)) (by kernel_rfl) (o:=aO [zu,rE,PN] [PO] aU) (aR ⟨CW,uk,WW,trivial⟩) (aQ [aP (aK (ak Tryz.f9)) 0] (by kernel_rfl) ⟨agJ,trivial⟩ (by kernel_rfl)) ?_
 intro z; kernel_rfl
def Vk:aA:=⟨9,(.cons (.val false (.list bf)) (.cons (.val false (.int .i64)) .nil)),.vals (.val false (.list (.list .str))),fun z=>qx z.1 z.2.1,([]:List (List Str))⟩
theorem aez:Vk.ok Tryz.prog:=fun x y h=>agK (lU x y h)
def D6 (s_:List Str) (v:Str) (t:Int) (t2:Int):Tree (Int⊕(Int⊕Unit)) :=
 .ite (decide (t2<t)) (
 ask (aD t2 s_.length) <|
 .ite (v==(s_.getD t2.toNat ([]:Str))) (
 .ret (.inr (.inl t2))) (
 .ret (.inl (ay (t2+1))))) (
 .ret (.inr (.inr ())))
def PQ:Lp:=⟨2,[],[],(.cons (.val false (.list .str)) (.cons (.val false .str) (ca (aJ (.cons (.val false (.int .i64)) (.cons (.val false (.int .i64)) (aF (ca8 .nil)))))))),.nil,0,.more 0 [] (aJ (.cons (.val false (.int .i64)) (aF (aJ (ca8 .nil))))) .nil (.one 1 [] (ca (aF (bB .nil))) .nil),fun z=>.bnd (.loop (fun v=>D6 z.1.1 z.1.2.1 z.1.2.2.2.2.2.2.2.1 v) z.1.2.2.2.2.2.2.2.2.1) fun r=>.sum r (fun a0=>.ret (.inl ((ai (a0,(ah (ai (az ()))))),()))) (fun b0=>.ret (.inr ((cu (ah (aC ()))),())))⟩
theorem agL:PQ.ok Tryz.prog (aP (aK (ak Tryz.f71)) 0):=by
 refine Lp.lift (π:=((List Str)×Str×Int)) (V:=Int) (ρ:=(Int⊕Unit)) mix aI PQ (o:=aO [] [] aU) (aR trivial) (aQ [] (by kernel_rfl) trivial rfl) (fun x v=>((x.1,x.2.1,(cu (ai (x.2.2,v,(ah (az ())))))),())) (fun x r=>match r with | .inl a0=>.inl ((ai (a0,(ah (ai (az ()))))),()) | .inr b0=>(.inr ((cu (ah (aC ()))),()))) (fun x v=>D6 x.1 x.2.1 x.2.2 v) (fun x r=>.sum r (fun a0=>.ret (.inl ((ai (a0,(ah (ai (az ()))))),()))) (fun b0=>.ret (.inr ((cu (ah (aC ()))),())))) (fun z=>(z.1.1,z.1.2.1,z.1.2.2.2.2.2.2.2.1)) (fun z=>z.1.2.2.2.2.2.2.2.2.1) (fun _=>rfl) (fun _=>rfl) (fun x r Q h=>match r,h with | .inl _,h=>h | .inr b0,h=>(h)) ?_
 intro x v; kernel_rfl
def I7 (x0:List Str) (x1:Str):Tree Int :=
 .bnd (.loop (fun v=>D6 x0 x1 (x0.length:Int) v) 0) fun r1 =>
 .sum r1 (fun r2 =>
 .ret r2) (fun r3 =>
 .ret (-1))
def WX:aA:=⟨71,(.cons (.val false (.list .str)) (.cons (.val false .str) .nil)),.vals (.val false (.int .i64)),fun z=>I7 z.1 z.2.1,(0:Int)⟩
theorem agM:WX.ok Tryz.prog:=by
 refine aA.lift mix aI bq _ Tryz.func71 (c:=(ak Tryz.f71)) (by kernel_rfl) (o:=aO [] [PQ] aU) (aR trivial) (aQ [aP (aK (ak Tryz.f71)) 0] (by kernel_rfl) ⟨agL,trivial⟩ (by kernel_rfl)) ?_
 intro z; kernel_rfl
def CZ (x0:List Str) (x1:Str):Tree Bool :=
 .bnd (I7 x0 x1) fun y1 =>
 .ret (decide ((0:Int)<=y1))
def CV:aA:=⟨38,(.cons (.val false (.list .str)) (.cons (.val false .str) .nil)),.vals (.val false .bool),fun z=>CZ z.1 z.2.1,false⟩
theorem GZ:CV.ok Tryz.prog:=by
 refine aA.lift mix aI bq _ Tryz.func38 (c:=(ak Tryz.f38)) (by kernel_rfl) (o:=aO [WX] [] aU) (aR ⟨agM,trivial⟩) (aQ [] (by kernel_rfl) trivial rfl) ?_
 intro z; kernel_rfl
def wK (s_:Str) (t:Int) (t2:Int) (t3:Int) (rows:List Str) (owned:List Int) (lists:List (List Str)) (out:List dK) (t4:Int) (x_:dK):Tree ((Int×dK)⊕dK) :=
 .ite (decide (t4<t3)) (
 ask (aD t4 lists.length) <|
 .bnd (CZ (lists.getD t4.toNat ([]:List Str)) s_) fun y1 =>
 .ite y1 (
 .ret (.inl ((ay (t4+1)),x_.1,x_.2.1,(ay (x_.2.2+1))))) (
 .ret (.inl ((ay (t4+1)),x_)))) (
 .ret (.inr x_))
end
end Go.aT
