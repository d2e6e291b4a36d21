/- Laws in plain Lean: s57 a57 v57 y57. -/
import Derived.Test.YtjkhncojgilbaaaGreatDoorW57
namespace Go.aT
open Go Go.Proofs Go.RowKit
theorem Ez (ms:List aL) (p:aL->Bool) (st:Int->List Str->Tree ((Int×List Str)⊕List Str)) (hl:ms.length<=10000)
  (h:∀ (i:Nat) (hi:i<ms.length) (out:List Str),out.length<=i->(st (i:Int) out).run=some (.inl (ay ((i:Int)+1),bif p ms[i] then out++[ms[i].1] else out))) (h0:∀ out,(st (ms.length:Int) out).run=some (.inr out)) :
  dP (fun v:Int×List Str=>(st v.1 v.2).run) (0,[])=some ((ms.filter p).map fun m=>m.1):=by
 refine fw (S:=fun i=>((i:Int),((ms.take i).filter p).map fun m=>m.1)) (n:=ms.length) (fun i hi=>?_) ?_ rfl
 ·have hlen:(((ms.take i).filter p).map fun m:aL=>m.1).length<=i:=by
   rw [List.length_map]
   refine Nat.le_trans (List.length_filter_le _ _) ?_
   rw [List.length_take]; omega
  show (st (i:Int) _).run=_
  rw [h i hi _ hlen,di i (by omega),jq hi,List.filter_append,List.map_append,List.filter_cons]
  cases p ms[i] with
  | true=>rfl
  | false=>show some (Sum.inl (_,_))=some (Sum.inl (_,_++[])); rw [List.append_nil]; rfl
 ·show (st (ms.length:Int) _).run=_
  rw [h0,List.take_of_length_le (Nat.le_refl _)]
theorem EA {ms:List aL} (hl:ms.length<=10000) {i:Nat} (hi:i<ms.length) {out:List Str} (ho:out.length<=i) (s:Str):decide ((out++[s]).length*16<=bD)=true :=
 room_le _ _ (by simp only [List.length_append,List.length_cons,List.length_nil]; omega) (by omega)
def jE (p:aL->Bool) (ms:List aL):List Str:=(ms.filter p).map fun m=>m.1
theorem Bl (p:aL->Bool) (ms:List aL):(jE p ms).length<=ms.length:=by unfold jE; rw [List.length_map]; exact List.length_filter_le _ _
theorem ai9 {l:List Entry} (hl:iD l):(G5 l).run=some (jE (fun _=>true) (bI l)):=by
 have hm:(bI l).length<=10000:=Nat.le_trans (AL l) hl.1
 unfold G5
 refine (aN (Ja l hl)).trans ?_
 refine (aN ((dI _ _).trans (Ez (bI l) (fun _=>true) (fun a b=>Aq ((bI l).length:Int) (bI l) a b) hm (fun i hi out ho=>?_) fun out=>?_))).trans rfl
 ·unfold Aq
  refine (bA (decide_eq_true (by omega))).trans ?_
  refine (aM (bQ hi)).trans ?_
  rw [Int.toNat_natCast,getD_lt _ _ _ hi]
  refine (aN (a:=true) rfl).trans ?_
  refine (bA rfl).trans ?_
  exact (aM (EA hm hi ho _)).trans rfl
 ·unfold Aq
  exact (bn (decide_eq_false (by omega))).trans rfl
theorem QY {l:List Entry} (hl:iD l) (r:Str):(wO l r).run=some (jE (fun m=>m.2.1==r) (bI l)):=by
 have hm:(bI l).length<=10000:=Nat.le_trans (AL l) hl.1
 unfold wO
 refine (aN (a:=jE (fun m=>m.2.1==r) (bI l)) ?_).trans rfl
 unfold Mj
 refine (aN (Ja l hl)).trans ?_
 refine (aN ((dI _ _).trans (Ez (bI l) (fun m=>m.2.1==r) (fun a b=>zD r ((bI l).length:Int) (bI l) a b) hm (fun i hi out ho=>?_) fun out=>?_))).trans rfl
 ·unfold zD
  refine (bA (decide_eq_true (by omega))).trans ?_
  refine (aM (bQ hi)).trans ?_
  rw [Int.toNat_natCast,getD_lt _ _ _ hi]
  refine (aN (a:=((bI l)[i].2.1==r)) rfl).trans ?_
  cases ((bI l)[i].2.1==r) with
  | true=>refine (bA rfl).trans ?_; exact (aM (EA hm hi ho _)).trans rfl
  | false=>exact (bn rfl).trans rfl
 ·unfold zD
  exact (bn (decide_eq_false (by omega))).trans rfl
theorem YW {l:List Entry} (hl:iD l) (r:Str):(zJ l r).run=some (jE (fun m=>m.2.2.1==r) (bI l)):=by
 have hm:(bI l).length<=10000:=Nat.le_trans (AL l) hl.1
 unfold zJ
 refine (aN (a:=jE (fun m=>m.2.2.1==r) (bI l)) ?_).trans rfl
 unfold Mo
 refine (aN (Ja l hl)).trans ?_
 refine (aN ((dI _ _).trans (Ez (bI l) (fun m=>m.2.2.1==r) (fun a b=>zI r ((bI l).length:Int) (bI l) a b) hm (fun i hi out ho=>?_) fun out=>?_))).trans rfl
 ·unfold zI
  refine (bA (decide_eq_true (by omega))).trans ?_
  refine (aM (bQ hi)).trans ?_
  rw [Int.toNat_natCast,getD_lt _ _ _ hi]
  refine (aN (a:=((bI l)[i].2.2.1==r)) rfl).trans ?_
  cases ((bI l)[i].2.2.1==r) with
  | true=>refine (bA rfl).trans ?_; exact (aM (EA hm hi ho _)).trans rfl
  | false=>exact (bn rfl).trans rfl
 ·unfold zI
  exact (bn (decide_eq_false (by omega))).trans rfl
theorem aja {l:List Entry} (hl:iD l) (r:Str):(Ib l r).run=some (jE (fun m=>m.2.1==r) (bI l)):=by
 have hm:(bI l).length<=10000:=Nat.le_trans (AL l) hl.1
 unfold Ib
 refine (aN (AJ l hl)).trans ?_
 refine (aN ((dI _ _).trans (Ez (bI l) (fun m=>m.2.1==r) (fun a b=>Ad r (bI l) a b) hm (fun i hi out ho=>?_) fun out=>?_))).trans rfl
 ·unfold Ad
  refine (bA (decide_eq_true (by omega))).trans ?_
  refine (aM (bQ hi)).trans ?_
  rw [Int.toNat_natCast,getD_lt _ _ _ hi]
  cases ((bI l)[i].2.1==r) with
  | true=>refine (bA rfl).trans ?_; refine (aM (bQ hi)).trans ?_; exact (aM (EA hm hi ho _)).trans rfl
  | false=>exact (bn rfl).trans rfl
 ·unfold Ad
  exact (bn (decide_eq_false (by omega))).trans rfl
theorem ajb {l:List Entry} (hl:iD l) (r:Str):(DC l r).run=some (jE (fun m=>m.2.2.1==r) (bI l)):=by
 have hm:(bI l).length<=10000:=Nat.le_trans (AL l) hl.1
 unfold DC
 refine (aN (AJ l hl)).trans ?_
 refine (aN ((dI _ _).trans (Ez (bI l) (fun m=>m.2.2.1==r) (fun a b=>Ae r (bI l) a b) hm (fun i hi out ho=>?_) fun out=>?_))).trans rfl
 ·unfold Ae
  refine (bA (decide_eq_true (by omega))).trans ?_
  refine (aM (bQ hi)).trans ?_
  rw [Int.toNat_natCast,getD_lt _ _ _ hi]
  cases ((bI l)[i].2.2.1==r) with
  | true=>refine (bA rfl).trans ?_; refine (aM (bQ hi)).trans ?_; exact (aM (EA hm hi ho _)).trans rfl
  | false=>exact (bn rfl).trans rfl
 ·unfold Ae
  exact (bn (decide_eq_false (by omega))).trans rfl
theorem YX (o:List Str) (x s:Str):gV (o++[x]) s=gV o s+if x==s then 1 else 0:=by
 unfold gV
 rw [List.filter_append,List.length_append,List.filter_cons]
 cases x==s <;> rfl
theorem JG (o:List Str) (s:Str):gV o s<=o.length:=List.length_filter_le _ _
def nN (o names:List Str):List Int:=names.map fun s=>(gV o s:Int)
theorem ajc {o names:List Str} (ho:o.length<=1000) (hn:names.length<=10000):(G6 o names).run=some (nN o names):=by
 unfold G6
 obtain ⟨rows,h1,h2⟩:=QZ (st:=fun v:Int×SI=>(uz names o (o.length:Int) v.1 v.2).run)
  (fun i s=>s.1=(i:Int)/\s.2.length<=i/\∀ q,(gS s.2 q).getD (0:Int)=(gV (o.take i) q:Int)) o.length (fun rows=>∀ q,(gS rows q).getD (0:Int)=(gV o q:Int))
  (by
   rintro i ⟨x,rows⟩ hi ⟨e1,e2,e3⟩
   simp only at e1 e2 e3
   subst e1
   have hle:=JG (o.take i) o[i]
   rw [List.length_take] at hle
   have hlen:=YY (u:=.int .i64) rows o[i] ((gV (o.take i) o[i]:Int)+1)
   have hw:ay ((gV (o.take i) o[i]:Int)+1)=(gV (o.take i) o[i]:Int)+1:=gD _ (by omega) (by omega)
   refine ⟨(((i+1:Nat):Int),dn .str (.int .i64) rows o[i] ((gV (o.take i) o[i]:Int)+1)),?_,rfl,by show (dn .str (.int .i64) rows o[i] ((gV (o.take i) o[i]:Int)+1)).length<=_; omega,fun q=>?_⟩
   ·show (uz names o (o.length:Int) (i:Int) rows).run=_
    unfold uz
    refine (bA (decide_eq_true (by omega))).trans ?_
    refine (aM (bQ hi)).trans ?_
    rw [Int.toNat_natCast,getD_lt _ _ _ hi,show (getM .str (.int .i64) rows o[i]).getD (0:Int)=_ from e3 o[i],hw,di i (by omega)]
    exact (aM (decide_eq_true (by omega))).trans rfl
   ·rw [jq hi,YX]
    have:=Q0 (u:=.int .i64) rows o[i] ((gV (o.take i) o[i]:Int)+1) q
    show (getM .str (.int .i64) (dn .str (.int .i64) rows o[i] ((gV (o.take i) o[i]:Int)+1)) q).getD (0:Int)=_
    rw [this]
    by_cases hq:q=o[i]
    ·rw [if_pos hq,beq_iff_eq.2 hq.symm,hq]; rfl
    ·rw [if_neg hq,beq_eq_false_iff_ne.2 fun e=>hq e.symm]
     exact e3 q)
  (by
   rintro ⟨x,rows⟩ ⟨e1,e2,e3⟩
   simp only at e1 e3
   subst e1
   rw [List.take_of_length_le (Nat.le_refl _)] at e3
   refine ⟨rows,?_,e3⟩
   show (uz names o (o.length:Int) (o.length:Int) rows).run=_
   unfold uz
   exact (bn (decide_eq_false (by omega))).trans rfl)
  (0,[]) ⟨rfl,Nat.le_refl _,fun q=>rfl⟩
 refine (aN ((dI _ _).trans h1)).trans ?_
 refine (aN ((dI _ _).trans (fw (a:=nN o names) (S:=fun i=>((i:Int),nN o (names.take i))) (n:=names.length) (fun i hi=>?_) ?_ rfl))).trans rfl
 ·rw [jq hi]
  dsimp only
  unfold Au
  refine (bA (decide_eq_true (by omega))).trans ?_
  refine (aM (bQ hi)).trans ?_
  rw [Int.toNat_natCast,getD_lt _ _ _ hi,show (getM .str (.int .i64) rows names[i]).getD (0:Int)=_ from h2 names[i],di i (by omega)]
  refine (aM (room_le _ _ (by unfold nN; simp only [List.length_append,List.length_cons,List.length_nil,List.length_map,List.length_take]; omega) (by omega))).trans ?_
  show some (Sum.inl (_,_))=some (Sum.inl (_,_))
  unfold nN
  rw [List.map_append]; rfl
 ·show (Au _ _ _ _ _).run=_
  unfold Au
  rw [List.take_of_length_le (Nat.le_refl _)]
  exact (bn (decide_eq_false (by omega))).trans rfl
theorem ajd {o names:List Str} (ho:o.length<=1000) (hn:names.length<=10000):(uq o names).run=some (nN o names):=by
 unfold uq
 refine (aN ((dI _ _).trans (fw (a:=nN o names) (S:=fun i=>((i:Int),nN o (names.take i))) (n:=names.length) (fun i hi=>?_) ?_ rfl))).trans rfl
 ·rw [jq hi]
  dsimp only
  unfold Am
  refine (bA (decide_eq_true (by omega))).trans ?_
  refine (aN ((dI _ _).trans (fw (a:=(gV o names[i]:Int)) (S:=fun k=>((gV (o.take k) names[i]:Int),(k:Int))) (n:=o.length) (fun k hk=>?_) ?_ rfl))).trans ?_
  ·have hle:=JG (o.take k) names[i]
   rw [List.length_take] at hle
   rw [jq hk,YX]
   dsimp only
   unfold Al
   refine (bA (decide_eq_true (by omega))).trans ?_
   refine (aM (bQ hk)).trans ?_
   refine (aM (bQ hi)).trans ?_
   rw [Int.toNat_natCast,getD_lt _ _ _ hk,Int.toNat_natCast,getD_lt _ _ _ hi,di k (by omega),gD _ (by omega) (by omega)]
   cases o[k]==names[i] with
   | true=>exact (bA rfl).trans rfl
   | false=>exact (bn rfl).trans rfl
  ·show (Al _ _ _ _ _ _).run=_
   unfold Al
   rw [List.take_of_length_le (Nat.le_refl _)]
   exact (bn (decide_eq_false (by omega))).trans rfl
  ·rw [di i (by omega)]
   refine (aM (room_le _ _ (by unfold nN; simp only [List.length_append,List.length_cons,List.length_nil,List.length_map,List.length_take]; omega) (by omega))).trans ?_
   show some (Sum.inl (_,_))=some (Sum.inl (_,_))
   unfold nN
   rw [List.map_append]; rfl
 ·show (Am _ _ _ _).run=_
  unfold Am
  rw [List.take_of_length_le (Nat.le_refl _)]
  exact (bn (decide_eq_false (by omega))).trans rfl
theorem YZ {a:List Str} (hl:a.length<=1000000) (s:Str):(Du a s).run=some (a.any fun y=>s==y):=by
 unfold Du
 have h:=Ke a (fun y=>s==y) (fun v=>zU a s v) (Sum.inl true:Bool⊕Unit) (.inr ()) hl (fun i hi=>by
  unfold zU
  refine (bA (decide_eq_true (by omega))).trans ?_
  refine (aM (bQ hi)).trans ?_
  rw [Int.toNat_natCast,getD_lt _ _ _ hi,show (a[i]==s)=(s==a[i]) from Bool.beq_comm ..]
  cases s==a[i] with
  | true=>exact (bA rfl).trans rfl
  | false=>exact (bn rfl).trans rfl) (by
  unfold zU
  exact (bn (decide_eq_false (by omega))).trans rfl)
 refine (aN ((dI _ _).trans h)).trans ?_
 cases a.any (fun y=>s==y) <;> rfl
theorem Y0 (lists:List (List Str)) (L:List Str) (s:Str):lC (lists++[L]) s=lC lists s+if (L.any fun y=>s==y) then 1 else 0:=by
 unfold lC
 rw [List.filter_append,List.length_append,List.filter_cons]
 cases L.any (fun y=>s==y) <;> rfl
theorem JH (lists:List (List Str)) (s:Str):lC lists s<=lists.length:=List.length_filter_le _ _
def lH (o:List Str) (lists:List (List Str)) (s:Str):dK:=(s,((gV o s:Int),(lC lists s:Int)))
theorem aje {lists:List (List Str)} (hl:lists.length<=1000) (hL:∀ L∈lists,L.length<=1000000) (s:Str) (t t2:Int) (rows:List Str) (owned:List Int) (out:List dK) (n:Int) :
  dP (fun v=>(wK s t t2 (lists.length:Int) rows owned lists out v.1 v.2).run) (0,(s,(n,0)))=some (s,(n,(lC lists s:Int))):=by
 refine fw (S:=fun i=>((i:Int),(s,(n,(lC (lists.take i) s:Int))))) (n:=lists.length) (fun i hi=>?_) ?_ rfl
 ·have hle:=JH (lists.take i) s
  rw [List.length_take] at hle
  rw [jq hi,Y0]
  dsimp only
  unfold wK
  refine (bA (decide_eq_true (by omega))).trans ?_
  refine (aM (bQ hi)).trans ?_
  rw [Int.toNat_natCast,getD_lt _ _ _ hi]
  refine (aN (WZ lists[i] s (hL _ (List.getElem_mem hi)))).trans ?_
  rw [di i (by omega)]
  dsimp only
  rw [gD _ (by omega) (by omega)]
  cases lists[i].any (fun y=>s==y) with
  | true=>exact (bA rfl).trans rfl
  | false=>exact (bn rfl).trans rfl
 ·show (wK _ _ _ _ _ _ _ _ _ _).run=_
  unfold wK
  rw [List.take_of_length_le (Nat.le_refl _)]
  exact (bn (decide_eq_false (by omega))).trans rfl
theorem ajf {lists:List (List Str)} (hl:lists.length<=1000) (hL:∀ L∈lists,L.length<=1000000) {m:List aL} {j:Nat} (hj:j<m.length) (o:List Str) (out:List dK) (n:Int) :
  dP (fun v=>(qC m (j:Int) o lists out v.1 v.2).run) (0,(m[j].1,(n,0)))=some (m[j].1,(n,(lC lists m[j].1:Int))):=by
 refine fw (S:=fun i=>((i:Int),(m[j].1,(n,(lC (lists.take i) m[j].1:Int))))) (n:=lists.length) (fun i hi=>?_) ?_ rfl
 ·have hle:=JH (lists.take i) m[j].1
  rw [List.length_take] at hle
  rw [jq hi,Y0]
  dsimp only
  unfold qC
  refine (bA (decide_eq_true (by omega))).trans ?_
  refine (aM (bQ hi)).trans ?_
  refine (aM (bQ hj)).trans ?_
  rw [Int.toNat_natCast,getD_lt _ _ _ hi,Int.toNat_natCast,getD_lt _ _ _ hj]
  refine (aN (YZ (hL _ (List.getElem_mem hi)) m[j].1)).trans ?_
  rw [di i (by omega)]
  dsimp only
  rw [gD _ (by omega) (by omega)]
  cases lists[i].any (fun y=>m[j].1==y) with
  | true=>exact (bA rfl).trans rfl
  | false=>exact (bn rfl).trans rfl
 ·show (qC _ _ _ _ _ _ _).run=_
  unfold qC
  rw [List.take_of_length_le (Nat.le_refl _)]
  exact (bn (decide_eq_false (by omega))).trans rfl
theorem ajg (o:List Str) (l:List aL) (p:Nat) (c:Int):(l5 o l p c).length<=l.length:=by
 unfold l5
 split
 ·unfold mP
  rw [List.length_map,Je (by rw [qJ,xD]; omega)]; omega
 ·exact Nat.zero_le _
theorem EB {l:List Entry} {c:Int} {L:List Str} (h:L∈dS l c):∃ p,p<16/\L=l5 (dY l 16) (bI l) p c:=by
 obtain ⟨p,hp,rfl⟩:=List.mem_map.1 h
 exact ⟨p,List.mem_range.1 hp,rfl⟩
theorem xE {l:List Entry} {c:Int} {L:List Str} (h:L∈dS l c):L.length<=(bI l).length:=by
 obtain ⟨p,_,rfl⟩:=EB h
 exact ajg _ _ _ _
def rV (l:List Entry) (c:Int):List dK:=(jE (fun _=>true) (bI l)).map (lH (dY l 16) (dS l c))
theorem JI (ms:List aL):jE (fun _=>true) ms=ms.map fun m=>m.1:=by unfold jE; rw [List.filter_eq_self.2 fun _ _=>rfl]
theorem Q3 {l:List Entry} (hl:iD l) (hm:(bI l).length<=100) (c:Int):(ug l c).run=some (rV l c):=by
 have hl1:=hl.1
 have ho:(dY l 16).length=16:=o8 l 16
 have hL:=rW l c
 have hnm:=Bl (fun _=>true) (bI l)
 have hload:(nN (dY l 16) (jE (fun _=>true) (bI l))).length=(jE (fun _=>true) (bI l)).length:=List.length_map ..
 have hall:∀ L∈dS l c,L.length<=1000000:=fun L h=>Nat.le_trans (xE h) (by omega)
 unfold ug rV
 refine (aN (ai9 hl)).trans ?_
 refine (aN (Y1 l 16 (by omega) (by omega) (by omega))).trans ?_
 refine (aN (ajc (by omega) (by omega))).trans ?_
 refine (aN (Bn hl hm c)).trans ?_
 generalize jE (fun _=>true) (bI l)=names at *
 refine (aN ((dI _ _).trans (fw (a:=names.map (lH (dY l 16) (dS l c))) (S:=fun i=>((i:Int),(names.take i).map (lH (dY l 16) (dS l c)))) (n:=names.length) (fun i hi=>?_) ?_ rfl))).trans rfl
 ·rw [jq hi]
  dsimp only
  unfold zw
  refine (bA (decide_eq_true (by omega))).trans ?_
  refine (aM (bQ hi)).trans ?_
  refine (aM (bQ (by rw [hload]; exact hi))).trans ?_
  have e:(nN (dY l 16) names).getD (i:Int).toNat (0:Int)=(gV (dY l 16) names[i]:Int):=by
   rw [Int.toNat_natCast,getD_lt _ _ _ (by rw [hload]; exact hi)]
   exact List.getElem_map ..
  rw [e,Int.toNat_natCast,getD_lt _ _ _ hi]
  refine (aN ((dI _ _).trans (aje (by omega) hall names[i] _ _ _ _ _ _))).trans ?_
  rw [di i (by omega)]
  refine (aM (room_le _ _ (by simp only [List.length_append,List.length_cons,List.length_nil,List.length_map,List.length_take]; omega) (by omega))).trans ?_
  rw [List.map_append]; rfl
 ·show (zw _ _ _ _ _ _).run=_
  unfold zw
  rw [List.take_of_length_le (Nat.le_refl _)]
  exact (bn (decide_eq_false (by omega))).trans rfl
theorem ajh {l : List Entry} (hl : iD l) (hm : (bI l).length <= 10) (c : Int) : (H6 l c).run = some (rV l c) := by
  have hl1 := hl.1
  have ho : (dY l 16).length = 16 := o8 l 16
  have hL := rW l c
  have hall : ∀ L ∈ dS l c, L.length <= 1000000 := fun L h => Nat.le_trans (xE h) (by omega)
  unfold H6 rV
  rw [JI, List.map_map]
  refine (aN (Y2 l 16 hl (by omega) (by omega))).trans ?_
  refine (aN (AJ l hl)).trans ?_
  refine (aN (JJ hl hm c)).trans ?_
  generalize bI l = ms at *
  refine (aN ((dI _ _).trans (fw (a := ms.map (lH (dY l 16) (dS l c) ∘ fun m => m.1)) (S := fun i => ((i : Int), (ms.take i).map (lH (dY l 16) (dS l c) ∘ fun m => m.1))) (n := ms.length) (fun i hi => ?_) ?_ rfl))).trans rfl
  · rw [jq hi]
    dsimp only
    unfold zW
    refine (bA (decide_eq_true (by omega))).trans ?_
    refine (aM (bQ hi)).trans ?_
    refine (aM (bQ hi)).trans ?_
    rw [Int.toNat_natCast, getD_lt _ _ _ hi]
    have h1 := ajd (o := dY l 16) (names := [ms[i].1]) (by omega) (by simp)
    have h2 := fun out => ajf (by omega) hall hi (dY l 16) out (gV (dY l 16) ms[i].1 : Int)
    have hT : ∀ out : List dK, out.length <= i -> (Tree.bnd (.loop (fun v => qC ms (i : Int) (dY l 16) (dS l c) out v.1 v.2) (0, (ms[i].1, ((gV (dY l 16) ms[i].1 : Int), 0)))) fun r8 =>
            ask (decide ((out ++ [r8]).length * 32 <= bD)) <|
            (.ret (.inl ((ay ((i : Int) + 1)), (out ++ [r8]))) : Tree ((Int × (List dK)) ⊕ (List dK)))).run = some (.inl (((i + 1 : Nat) : Int), out ++ [lH (dY l 16) (dS l c) ms[i].1])) := fun out hout => by
      refine (aN ((dI _ _).trans (h2 out))).trans ?_
      rw [di i (by omega)]
      exact (aM (room_le _ _ (by simp only [List.length_append, List.length_cons, List.length_nil]; omega) (by omega))).trans rfl
    have hO := hT ((ms.take i).map (lH (dY l 16) (dS l c) ∘ fun m => m.1)) (by rw [List.length_map, List.length_take]; omega)
    have hE : ((ms.take i ++ [ms[i]]).map (lH (dY l 16) (dS l c) ∘ fun m => m.1)) = (ms.take i).map (lH (dY l 16) (dS l c) ∘ fun m => m.1) ++ [lH (dY l 16) (dS l c) ms[i].1] := by rw [List.map_append]; rfl
    rw [hE]
    refine uK (uK ?_ ?_) ?_
    · refine (aN h1).trans ?_
      refine (aM rfl).trans ?_
      exact uK (uK hO hO) hO
    · refine (aN h1).trans ?_
      exact (aM rfl).trans hO
    · refine (aN h1).trans ?_
      exact (aM rfl).trans hO
  · show (zW _ _ _ _ _).run = _
    unfold zW
    rw [List.take_of_length_le (Nat.le_refl _)]
    exact (bn (decide_eq_false (by omega))).trans rfl
def jg (L gone:List Str):List Str:=L.filter fun s=>!(gone.any fun y=>s==y)
theorem Y3 (L gone:List Str):(jg L gone).length<=L.length:=List.length_filter_le _ _
theorem Y4 {L gone:List Str} (hL:L.length<=1000000) (hg:gone.length<=1000000):(Db L gone).run=some (jg L gone):=by
 unfold Db
 refine (aN (agQ L hL)).trans ?_
 refine (aN (agS L gone (fun s=>gone.any fun y=>s==y) hL fun x _=>?_)).trans rfl
 unfold zy
 exact (aN (WZ gone x hg)).trans rfl
theorem Y5 {L gone:List Str} (hL:L.length<=100000) (hg:gone.length<=1000000):(Dw L gone).run=some ((jg L gone).length:Int):=by
 unfold Dw
 refine (aN ((dI _ _).trans (fw (a:=((jg L gone).length:Int)) (S:=fun i=>(((jg (L.take i) gone).length:Int),(i:Int))) (n:=L.length) (fun i hi=>?_) ?_ rfl))).trans rfl
 ·have hle:=Y3 (L.take i) gone
  rw [List.length_take] at hle
  have e:(jg (L.take i++[L[i]]) gone).length=(jg (L.take i) gone).length+if (gone.any fun y=>L[i]==y) then 0 else 1:=by
   unfold jg
   rw [List.filter_append,List.length_append,List.filter_cons]
   cases gone.any (fun y=>L[i]==y) <;> rfl
  rw [jq hi,e]
  dsimp only
  unfold zX
  refine (bA (decide_eq_true (by omega))).trans ?_
  refine (aM (bQ hi)).trans ?_
  rw [Int.toNat_natCast,getD_lt _ _ _ hi]
  refine (aN (YZ hg L[i])).trans ?_
  rw [di i (by omega),gD _ (by omega) (by omega)]
  cases gone.any (fun y=>L[i]==y) with
  | true=>exact (bn rfl).trans rfl
  | false=>exact (bA rfl).trans rfl
 ·show (zX _ _ _ _).run=_
  unfold zX
  rw [List.take_of_length_le (Nat.le_refl _)]
  exact (bn (decide_eq_false (by omega))).trans rfl
def qK (gone L:List Str):Bool:=decide (0<L.length)&&decide ((jg L gone).length=0)
def kg (lists:List (List Str)) (gone:List Str) (n:Nat):List Int:=((List.range n).filter fun k=>qK gone (lists.getD k [])).map fun k:Nat=>(k:Int)
theorem Q4 (lists:List (List Str)) (gone:List Str) (n:Nat):(kg lists gone n).length<=n:=by
 unfold kg
 rw [List.length_map]
 exact Nat.le_trans (List.length_filter_le _ _) (by rw [List.length_range]; exact Nat.le_refl _)
theorem Q5 (lists:List (List Str)) (gone:List Str) (n:Nat):kg lists gone (n+1)=bif qK gone (lists.getD n []) then kg lists gone n++[(n:Int)] else kg lists gone n:=by
 unfold kg
 rw [List.range_succ,List.filter_append,List.map_append,List.filter_cons]
 cases qK gone (lists.getD n []) with
 | true=>rfl
 | false=>exact List.append_nil _
theorem JK {l:List Entry} (hl:iD l) (hm:(bI l).length<=100) (c:Int) {gone:List Str} (hg:gone.length<=1000000):(ui l c gone).run=some (kg (dS l c) gone 16):=by
 have hL:=rW l c
 have hall:∀ L∈dS l c,L.length<=100:=fun L h=>Nat.le_trans (xE h) hm
 unfold ui
 refine (aN (Bn hl hm c)).trans ?_
 generalize dS l c=lists at *
 refine (aN ((dI _ _).trans (fw (a:=kg lists gone 16) (S:=fun i=>((i:Int),kg lists gone i)) (n:=16) (fun i hi=>?_) ?_ rfl))).trans rfl
 ·have hi':i<lists.length:=by omega
  have hlen:=Q4 lists gone i
  rw [Q5,getD_lt _ _ _ hi']
  dsimp only
  unfold zz
  refine (bA (decide_eq_true (by omega))).trans ?_
  refine (aM (bQ hi')).trans ?_
  rw [Int.toNat_natCast,getD_lt _ _ _ hi',di i (by omega)]
  have h100:=hall _ (List.getElem_mem hi')
  generalize lists[i]=L at *
  have hr:=room_le (kg lists gone i++[(i:Int)]).length 8 (by simp only [List.length_append,List.length_cons,List.length_nil]; omega) (by omega)
  refine (gm (Y4 (L:=L) (gone:=gone) (by omega) hg)).trans ?_
  have e:((decide ((0:Int)<(L.length:Int)))&&(decide (((jg L gone).length:Int)=0)))=qK gone L:=by
   unfold qK
   rw [Bool.eq_iff_iff,Bool.and_eq_true,Bool.and_eq_true,decide_eq_true_iff,decide_eq_true_iff,decide_eq_true_iff,decide_eq_true_iff]
   omega
  rw [e]
  cases qK gone L with
  | true=>refine (bA rfl).trans ?_; exact (aM hr).trans rfl
  | false=>exact (bn rfl).trans rfl
 ·show (zz _ _ _ _ _).run=_
  unfold zz
  exact (bn (decide_eq_false (by omega))).trans rfl
theorem aji {l:List Entry} (hl:iD l) (hm:(bI l).length<=10) (c:Int) {gone:List Str} (hg:gone.length<=1000000):(Dy l c gone).run=some (kg (dS l c) gone 16):=by
 have hL:=rW l c
 have hall:∀ L∈dS l c,L.length<=100:=fun L h=>Nat.le_trans (xE h) (by omega)
 unfold Dy
 refine (aN (JJ hl hm c)).trans ?_
 generalize dS l c=lists at *
 refine (aN ((dI _ _).trans (fw (a:=kg lists gone 16) (S:=fun i=>((i:Int),kg lists gone i)) (n:=16) (fun i hi=>?_) ?_ rfl))).trans rfl
 ·have hi':i<lists.length:=by omega
  have hlen:=Q4 lists gone i
  rw [Q5,getD_lt _ _ _ hi']
  dsimp only
  unfold zY
  refine (bA (decide_eq_true (by omega))).trans ?_
  refine (aM (bQ hi')).trans ?_
  refine (aM (by rw [bQ hi',Bool.or_true])).trans ?_
  rw [Int.toNat_natCast,getD_lt _ _ _ hi',di i (by omega)]
  have h100:=hall _ (List.getElem_mem hi')
  generalize lists[i]=L at *
  have hr:=room_le (kg lists gone i++[(i:Int)]).length 8 (by simp only [List.length_append,List.length_cons,List.length_nil]; omega) (by omega)
  refine (gm (Y5 (L:=L) (gone:=gone) (by omega) hg)).trans ?_
  have e:((decide ((0:Int)<(L.length:Int)))&&(decide (((jg L gone).length:Int)=0)))=qK gone L:=by
   unfold qK
   rw [Bool.eq_iff_iff,Bool.and_eq_true,Bool.and_eq_true,decide_eq_true_iff,decide_eq_true_iff,decide_eq_true_iff,decide_eq_true_iff]
   omega
  rw [e]
  cases qK gone L with
  | true=>refine (bA rfl).trans ?_; exact (aM hr).trans rfl
  | false=>exact (bn rfl).trans rfl
 ·show (zY _ _ _ _).run=_
  unfold zY
  exact (bn (decide_eq_false (by omega))).trans rfl
def jN (gone:List Str) (lists:List (List Str)):List Int:=(lists.filter fun L=>decide (0<L.length)).map fun L=>((jg L gone).length:Int)
theorem Y6 (gone:List Str) (lists:List (List Str)) (L:List Str):jN gone (lists++[L])=bif decide (0<L.length) then jN gone lists++[((jg L gone).length:Int)] else jN gone lists:=by
 unfold jN
 rw [List.filter_append,List.map_append,List.filter_cons]
 cases decide (0<L.length) with
 | true=>rfl
 | false=>exact List.append_nil _
theorem Y7 (gone:List Str) (lists:List (List Str)):(jN gone lists).length<=lists.length:=by
 unfold jN
 rw [List.length_map]
 exact List.length_filter_le _ _
def jO:List Int->Int
 | []=>0
 | x::l=>l.foldl (fun a b=>min a b) x
theorem ajj (l:List Int) (x:Int) (h:l≠[]):jO (l++[x])=min (jO l) x:=by
 cases l with
 | nil=>exact absurd rfl h
 | cons y l=>show (l++[x]).foldl _ y=_; rw [List.foldl_append]; rfl
theorem ajk (x:Int) (l:List Int) (h:l.length<=100000):(Hg (x::l)).run=some (jO (x::l)):=by
 have hl:(x::l).length=l.length+1:=rfl
 unfold Hg
 refine (bn (decide_eq_false (by omega))).trans ?_
 refine (aM (bQ (n:=(x::l).length) (i:=0) (by omega))).trans ?_
 refine (aN ((dI _ _).trans (fw (a:=jO (x::l)) (S:=fun i=>((l.take i).foldl (fun a b=>min a b) x,((i+1:Nat):Int))) (n:=l.length) (fun i hi=>?_) ?_ rfl))).trans rfl
 ·rw [jq hi,List.foldl_append]
  dsimp only
  unfold zA
  refine (bA (decide_eq_true (by omega))).trans ?_
  refine (aM (bQ (by omega))).trans ?_
  rw [Int.toNat_natCast,uL,di (i+1) (by omega),getD_lt _ _ _ (by rw [hl]; omega)]
  rfl
 ·show (zA _ _ _).run=_
  unfold zA
  rw [List.take_of_length_le (Nat.le_refl _)]
  exact (bn (decide_eq_false (by omega))).trans rfl
theorem Q6 {l:List Entry} (hl:iD l) (hm:(bI l).length<=100) (c:Int) {gone:List Str} (hg:gone.length<=1000000):(zC l c gone).run=some (jO (jN gone (dS l c))):=by
 have hL:=rW l c
 have hall:∀ L∈dS l c,L.length<=100:=fun L h=>Nat.le_trans (xE h) hm
 unfold zC
 refine (aN (Bn hl hm c)).trans ?_
 generalize dS l c=lists at *
 refine (aN ((dI _ _).trans (fw (a:=jN gone lists) (S:=fun i=>((i:Int),jN gone (lists.take i))) (n:=lists.length) (fun i hi=>?_) ?_ rfl))).trans ?_
 ·have hlen:=Y7 gone (lists.take i)
  rw [List.length_take] at hlen
  rw [jq hi,Y6]
  dsimp only
  unfold zB
  refine (bA (decide_eq_true (by omega))).trans ?_
  refine (aM (bQ hi)).trans ?_
  rw [Int.toNat_natCast,getD_lt _ _ _ hi,di i (by omega)]
  have h100:=hall _ (List.getElem_mem hi)
  generalize lists[i]=L at *
  by_cases h0:0<L.length
  ·rw [decide_eq_true h0]
   refine (bA (decide_eq_true (by omega))).trans ?_
   refine (aN (Y4 (L:=L) (gone:=gone) (by omega) hg)).trans ?_
   exact (aM (room_le _ _ (by simp only [List.length_append,List.length_cons,List.length_nil]; omega) (by omega))).trans rfl
  ·rw [decide_eq_false h0]
   exact (bn (decide_eq_false (by omega))).trans rfl
 ·show (zB _ _ _ _ _).run=_
  unfold zB
  rw [List.take_of_length_le (Nat.le_refl _)]
  exact (bn (decide_eq_false (by omega))).trans rfl
 ·have hlen:=Y7 gone lists
  cases hc:jN gone lists with
  | nil=>exact (bA rfl).trans rfl
  | cons x r =>
   rw [hc] at hlen
   have hl2:(x::r).length=r.length+1:=rfl
   refine (bn (decide_eq_false (by omega))).trans ?_
   exact (aN (ajk x r (by omega))).trans rfl
theorem ajl {l:List Entry} (hl:iD l) (hm:(bI l).length<=10) (c:Int) {gone:List Str} (hg:gone.length<=1000000):(H9 l c gone).run=some (jO (jN gone (dS l c))):=by
 have hL:=rW l c
 have hall:∀ L∈dS l c,L.length<=100:=fun L h=>Nat.le_trans (xE h) (by omega)
 unfold H9
 refine (aN (JJ hl hm c)).trans ?_
 generalize dS l c=lists at *
 refine (aN ((dI _ _).trans (fw (a:=jO (jN gone lists)) (S:=fun i=>(jO (jN gone (lists.take i)),!(jN gone (lists.take i)).isEmpty,(i:Int))) (n:=lists.length) (fun i hi=>?_) ?_ rfl))).trans rfl
 ·rw [jq hi,Y6]
  dsimp only
  unfold z8
  refine (bA (decide_eq_true (by omega))).trans ?_
  refine (aM (bQ hi)).trans ?_
  rw [Int.toNat_natCast,getD_lt _ _ _ hi,di i (by omega)]
  have h100:=hall _ (List.getElem_mem hi)
  generalize lists[i]=L at *
  generalize jN gone (lists.take i)=cs at *
  refine (aN (Y5 (L:=L) (gone:=gone) (by omega) hg)).trans ?_
  refine (aM (bQ hi)).trans ?_
  generalize ((jg L gone).length:Int)=x at *
  by_cases h0:0<L.length
  ·rw [decide_eq_true h0,decide_eq_true (show (0:Int)<(L.length:Int) by omega)]
   cases cs with
   | nil=>exact (bA rfl).trans rfl
   | cons y cs =>
    have e1:jO (bif true then (y::cs)++[x] else y::cs)=min (jO (y::cs)) x:=ajj (y::cs) x (by simp)
    rw [e1]
    by_cases hx:x<jO (y::cs)
    ·rw [decide_eq_true hx,show min (jO (y::cs)) x=x from by omega]
     exact (bA rfl).trans rfl
    ·rw [decide_eq_false hx,show min (jO (y::cs)) x=jO (y::cs) from by omega]
     exact (bn rfl).trans rfl
  ·rw [decide_eq_false h0,decide_eq_false (show ¬ (0:Int)<(L.length:Int) by omega)]
   exact (bn rfl).trans rfl
 ·show (z8 _ _ _ _ _).run=_
  unfold z8
  rw [List.take_of_length_le (Nat.le_refl _)]
  dsimp only
  exact (bn (decide_eq_false (by omega))).trans rfl
def JL:List aL:=[(([97]:Str),(([114,49]:Str),(([122]:Str),true))),(([98]:Str),(([114,50]:Str),(([122]:Str),true)))]
def Y8:List Entry:=[(([110,111,100,101,47,97]:Str),((1:Int),(([]:Str),([114,49,47,122,47,117,112]:Str)))),(([110,111,100,101,47,98]:Str),((1:Int),(([]:Str),([114,50,47,122,47,117,112]:Str))))]
def Y9:List Entry:=[(([114,105,110,103,47,48]:Str),((1:Int),(([]:Str),([97]:Str)))),(([114,105,110,103,47,49]:Str),((1:Int),(([]:Str),([98]:Str)))),(([114,105,110,103,47,49,48]:Str),((1:Int),(([]:Str),([97]:Str)))),(([114,105,110,103,47,49,49]:Str),((1:Int),(([]:Str),([98]:Str)))),(([114,105,110,103,47,49,50]:Str),((1:Int),(([]:Str),([97]:Str)))),(([114,105,110,103,47,49,51]:Str),((1:Int),(([]:Str),([98]:Str)))),(([114,105,110,103,47,49,52]:Str),((1:Int),(([]:Str),([97]:Str)))),(([114,105,110,103,47,49,53]:Str),((1:Int),(([]:Str),([98]:Str)))),(([114,105,110,103,47,50]:Str),((1:Int),(([]:Str),([97]:Str)))),(([114,105,110,103,47,51]:Str),((1:Int),(([]:Str),([98]:Str)))),(([114,105,110,103,47,52]:Str),((1:Int),(([]:Str),([97]:Str)))),(([114,105,110,103,47,53]:Str),((1:Int),(([]:Str),([98]:Str)))),(([114,105,110,103,47,54]:Str),((1:Int),(([]:Str),([97]:Str)))),(([114,105,110,103,47,55]:Str),((1:Int),(([]:Str),([98]:Str)))),(([114,105,110,103,47,56]:Str),((1:Int),(([]:Str),([97]:Str)))),(([114,105,110,103,47,57]:Str),((1:Int),(([]:Str),([98]:Str))))]
def o9:List Entry:=[(([110,111,100,101,47,97]:Str),((1:Int),(([]:Str),([114,49,47,122,47,117,112]:Str)))),(([110,111,100,101,47,98]:Str),((1:Int),(([]:Str),([114,50,47,122,47,117,112]:Str)))),(([114,105,110,103,47,48]:Str),((1:Int),(([]:Str),([97]:Str)))),(([114,105,110,103,47,49]:Str),((1:Int),(([]:Str),([98]:Str)))),(([114,105,110,103,47,49,48]:Str),((1:Int),(([]:Str),([97]:Str)))),(([114,105,110,103,47,49,49]:Str),((1:Int),(([]:Str),([98]:Str)))),(([114,105,110,103,47,49,50]:Str),((1:Int),(([]:Str),([97]:Str)))),(([114,105,110,103,47,49,51]:Str),((1:Int),(([]:Str),([98]:Str)))),(([114,105,110,103,47,49,52]:Str),((1:Int),(([]:Str),([97]:Str)))),(([114,105,110,103,47,49,53]:Str),((1:Int),(([]:Str),([98]:Str)))),(([114,105,110,103,47,50]:Str),((1:Int),(([]:Str),([97]:Str)))),(([114,105,110,103,47,51]:Str),((1:Int),(([]:Str),([98]:Str)))),(([114,105,110,103,47,52]:Str),((1:Int),(([]:Str),([97]:Str)))),(([114,105,110,103,47,53]:Str),((1:Int),(([]:Str),([98]:Str)))),(([114,105,110,103,47,54]:Str),((1:Int),(([]:Str),([97]:Str)))),(([114,105,110,103,47,55]:Str),((1:Int),(([]:Str),([98]:Str)))),(([114,105,110,103,47,56]:Str),((1:Int),(([]:Str),([97]:Str)))),(([114,105,110,103,47,57]:Str),((1:Int),(([]:Str),([98]:Str))))]
def Za:List Str:=[([97]:Str),([98]:Str),([97]:Str),([98]:Str),([97]:Str),([98]:Str),([97]:Str),([98]:Str),([97]:Str),([98]:Str),([97]:Str),([98]:Str),([97]:Str),([98]:Str),([97]:Str),([98]:Str)]
theorem ajm:(Tree.loop (fun v=>Iu JL [] v.1 v.2) ([],0)).run=some (.inr Y8):=Tree.AR (n:=60) (by kernel_rfl)
theorem Zb:(Ik JL).run=some [([97]:Str),([98]:Str)]:=Tree.AR (n:=60) (by kernel_rfl)
theorem Zc:(DN (List.replicate (16:Int).toNat ([]:Str)) [([97]:Str),([98]:Str)]).run=some Za:=Tree.AR (n:=60) (by kernel_rfl)
theorem Zd:(Ir Za).run=some Y9:=Tree.AR (n:=60) (by kernel_rfl)
theorem Ze:(wY Y8 Y9).run=some (o9,0,()):=Tree.AR (n:=60) (by kernel_rfl)
theorem Zf:(wY o9 []).run=some (o9,0,()):=Tree.AR (n:=60) (by kernel_rfl)
theorem ajn:(Hm JL []).run=some (o9,0,()):=by
 unfold Hm
 refine (bn rfl).trans ?_
 refine (aN ajm).trans ?_
 refine uK ?_ ?_
 ·refine (aM rfl).trans ?_
  refine (aM rfl).trans ?_
  refine (aM (by decide +kernel)).trans ?_
  refine (aN Zb).trans ?_
  refine (aN Zc).trans ?_
  refine (aN Zd).trans ?_
  refine (aN Ze).trans ?_
  exact (aN Zf).trans rfl
 ·refine (aN Zb).trans ?_
  refine (aM rfl).trans ?_
  refine (aM rfl).trans ?_
  refine (aM (by decide +kernel)).trans ?_
  refine (aN Zc).trans ?_
  refine (aN Zd).trans ?_
  refine (aN Ze).trans ?_
  exact (aN Zf).trans rfl
theorem xG:iD o9:=⟨by decide +kernel,by decide +kernel⟩
theorem Zg:bI o9=JL:=by kernel_rfl
theorem Zh:rV o9 1=[(([97]:Str),(8,8)),(([98]:Str),(8,8))]:=by kernel_rfl
theorem ajo:(kg (dS o9 1) [([97]:Str)] 16).length=8:=by kernel_rfl
theorem ajp:(kg (dS o9 2) [([97]:Str)] 16).length=0:=by kernel_rfl
theorem ajq:jO (jN [([97]:Str)] (dS o9 2))=1:=by kernel_rfl
theorem ajr {n v:Str} (h:(lu n v).2.1=true):(lu n v).1.1=n:=by
 have key:∀ (b:Bool) (x y:aL×Bool×Unit),x.1.1=n->y.2.1=false->(cond b x y).2.1=true->(cond b x y).1.1=n:=by
  intro b x y h1 h2
  cases b
  ·intro h
   rw [show (cond false x y)=y from rfl,h2] at h
   cases h
  ·intro _; exact h1
 unfold lu at h ⊢
 exact key _ _ _ rfl rfl h
def Q7 (x:Entry):Bool:=(lu (x.1.drop 5) x.2.2.2).2.1
theorem ajs (u:List Entry):∀ c:List aL,(u.foldl mI c).map (fun m=>m.1)=c.map (fun m=>m.1)++(u.filter Q7).map fun x=>x.1.drop 5:=by
 induction u with
 | nil=>intro c; simp
 | cons x u ih =>
  intro c
  rw [List.foldl_cons,ih,List.filter_cons]
  unfold mI
  cases h:Q7 x with
  | true =>
   have h':(lu (x.1.drop 5) x.2.2.2).2.1=true:=h
   rw [h']
   show (c++[_]).map (fun m:aL=>m.1)++_=_++(x.1.drop 5::_)
   rw [List.map_append,List.append_assoc,List.map_cons,ajr h']
   rfl
  | false =>
   have h':(lu (x.1.drop 5) x.2.2.2).2.1=false:=h
   rw [h']; rfl
theorem ajt {l:List Entry} (hs:GN l):((bI l).map fun m=>m.1).Nodup:=by
 unfold bI
 rw [ajs]
 refine Jb (r:=fun x y:Entry=>eY x.1 y.1=true) ((hs.filter _).filter _) fun x hx y hy hlt e=>?_
 have pre:∀ z:Entry,z∈(l.filter (jo ([110,111,100,101]:Str))).filter Q7->z.1=([110,111,100,101,47]:Str)++z.1.drop 5:=fun z hz=>by
  have h1:([110,111,100,101,47]:Str).isPrefixOf z.1=true:=(List.mem_filter.1 (List.mem_filter.1 hz).1).2
  obtain ⟨t,ht⟩:=List.isPrefixOf_iff_prefix.1 h1
  rw [<- ht]; rfl
 have h2:x.1=y.1:=by rw [pre x hx,pre y hy,show x.1.drop 5=y.1.drop 5 from e]
 rw [h2,xe.AB] at hlt
 cases hlt
theorem aju {ms:List aL} (hn:(ms.map fun m=>m.1).Nodup) {x y:aL} (hx:x∈ms) (hy:y∈ms) (h:x.1=y.1):x=y:=by
 induction ms with
 | nil=>cases hx
 | cons m ms ih =>
  rw [List.map_cons,List.nodup_cons] at hn
  rcases List.mem_cons.1 hx with e1 | hx <;> rcases List.mem_cons.1 hy with e2 | hy
  ·rw [e1,e2]
  ·exact absurd (List.mem_map.2 ⟨y,hy,by rw [<- h,e1]⟩) hn.1
  ·exact absurd (List.mem_map.2 ⟨x,hx,by rw [h,e2]⟩) hn.1
  ·exact ih hn.2 hx hy
theorem JM {l:List aL} {k:Int} (h:0<=k/\k<(l.length:Int)):∃ hk:k.toNat<l.length,kN l k=l[k.toNat]:=by
 have hk:k.toNat<l.length:=by omega
 exact ⟨hk,getD_lt _ _ _ hk⟩
section
variable {o:List Str} {l:List aL} {p m:Nat}
theorem ajv (hm:m<=l.length):(mP o l p m).length=m:=by
 unfold mP
 rw [List.length_map,Je (by rw [qJ,xD]; exact hm)]
theorem JN (hm:m<=l.length) {k:Nat} (hk:k∈gK (fU l (dU o l p)) m):∃ h:k<(dU o l p).length,0<=(dU o l p)[k]/\(dU o l p)[k]<(l.length:Int):=by
 have h1:=AQ _ _ _ _ _ _ _ (qP (L:=fU l (dU o l p)) (m:=m) (by rw [qJ,xD]; exact hm)) k hk
 rw [qJ] at h1
 exact ⟨h1,JO.1 (List.getElem_mem h1)⟩
theorem JP {k:Nat} (h:k<(dU o l p).length):Bo l (dU o l p) k=(kN l (dU o l p)[k]).1:=by unfold Bo; rw [getD_lt _ _ _ h]
theorem ajw (hm:m<=l.length) {s:Str} (h:s∈mP o l p m):s∈l.map fun m=>m.1:=by
 obtain ⟨k,hk,rfl⟩:=List.mem_map.1 h
 obtain ⟨h1,h2⟩:=JN hm hk
 obtain ⟨h3,h4⟩:=JM h2
 rw [JP h1,h4]
 exact List.mem_map.2 ⟨_,List.getElem_mem h3,rfl⟩
theorem ajx (hm:m<=l.length) (hn:(l.map fun m=>m.1).Nodup):(mP o l p m).Nodup:=by
 have hr:=Qf _ _ _ _ _ _ _ (qP (L:=fU l (dU o l p)) (m:=m) (by rw [qJ,xD]; exact hm))
 unfold mP
 refine Jb hr fun i hi j hj hlt e=>?_
 obtain ⟨a1,a2⟩:=JN hm hi
 obtain ⟨b1,b2⟩:=JN hm hj
 obtain ⟨a3,a4⟩:=JM a2
 obtain ⟨b3,b4⟩:=JM b2
 rw [JP a1,JP b1,a4,b4] at e
 have e2:((dU o l p)[i]).toNat=((dU o l p)[j]).toNat:=by
  have h5:=List.getElem_map (fun m:aL=>m.1) (l:=l) (h:=by rw [List.length_map]; exact a3)
  have h6:=List.getElem_map (fun m:aL=>m.1) (l:=l) (h:=by rw [List.length_map]; exact b3)
  rw [<- h5,<- h6] at e
  exact (List.getElem_inj hn).1 e
 have e3:(dU o l p)[i]=(dU o l p)[j]:=by omega
 have e4:=(List.getElem_inj (ajy o l p)).1 e3
 exact absurd e4 (Nat.ne_of_lt hlt)
theorem ajz (hm:m<=l.length) (h2:2<=m) {a b:aL} (ha:a∈l) (hb:b∈l) (hab:a.2.1≠b.2.1) (r:Str):∃ x∈l,x.1∈mP o l p m/\x.2.1≠r:=by
 have place:∀ x:aL,x∈l->∃ i,∃ hi:i<(l6 l (dU o l p)).length,(l6 l (dU o l p))[i]=x.2.1:=fun x hx=>by
  obtain ⟨j,hj,rfl⟩:=List.mem_iff_getElem.1 hx
  have h1:((j:Nat):Int)∈dU o l p:=JO.2 ⟨by omega,by omega⟩
  obtain ⟨i,hi,e⟩:=List.mem_iff_getElem.1 h1
  refine ⟨i,by rw [nO]; exact hi,?_⟩
  rw [EC hi,e]
  unfold kN
  rw [Int.toNat_natCast,getD_lt _ _ _ hj]
 obtain ⟨i,hi,ei⟩:=place a ha
 obtain ⟨j,hj,ej⟩:=place b hb
 obtain ⟨k,hk,hk2,hk3⟩:=ahX (rs:=l6 l (dU o l p)) (zs:=nP l (dU o l p)) (by rw [nO,rX]) h2 (by rw [nO,xD]; exact hm) hi hj (by rw [ei,ej]; exact hab) r
 obtain ⟨k1,k2⟩:=JN hm hk
 obtain ⟨k3,k4⟩:=JM k2
 rw [EC k1,k4] at hk3
 refine ⟨_,List.getElem_mem k3,List.mem_map.2 ⟨k,hk,?_⟩,hk3⟩
 rw [JP k1,k4]
end
theorem JQ (o:List Str) (l:List aL) (p:Nat) {n:Nat} (h1:2<=n) (h2:n<=16):l5 o l p (n:Int)=mP o l p (min n l.length):=by
 unfold l5
 rw [if_pos (by omega),Int.toNat_natCast]
theorem ajA {ms:List aL} (hn:(ms.map fun m=>m.1).Nodup) (o:List Str) (p:Nat) {n:Nat} (h1:2<=n) (h2:n<=16) {a b:aL} (ha:a∈ms) (hb:b∈ms) (hab:a.2.1≠b.2.1) (r:Str):0<(jg (l5 o ms p (n:Int)) (jE (fun m=>m.2.1==r) ms)).length:=by
 rw [JQ o ms p h1 h2]
 have hne:a≠b:=fun e=>hab (by rw [e])
 have hlen:2<=ms.length:=by
  have:([a,b]:List aL).length<=ms.length:=ko (by
   rw [List.nodup_cons]
   exact ⟨fun q=>hne (List.mem_singleton.1 q),List.nodup_cons.2 ⟨List.not_mem_nil,List.nodup_nil⟩⟩) fun x hx=>by
    rcases List.mem_cons.1 hx with e | hx
    ·rw [e]; exact ha
    ·rw [List.mem_singleton.1 hx]; exact hb
  exact this
 obtain ⟨x,hx,hx2,hx3⟩:=ajz (o:=o) (p:=p) (l:=ms) (m:=min n ms.length) (by omega) (by omega) ha hb hab r
 refine List.length_pos_of_mem (a:=x.1) ?_
 unfold jg
 rw [List.mem_filter]
 refine ⟨hx2,?_⟩
 rw [Bool.not_eq_true',List.any_eq_false]
 intro y hy e
 obtain ⟨z,hz,rfl⟩:=List.mem_map.1 hy
 obtain ⟨hz1,hz2⟩:=List.mem_filter.1 hz
 have:=aju hn hx hz1 (beq_iff_eq.1 e)
 rw [this] at hx3
 exact hx3 (beq_iff_eq.1 hz2)
theorem ajB {l:List Int} {n:Int} (h:∀ x∈l,n<=x) (hne:l≠[]):n<=jO l:=by
 cases l with
 | nil=>exact absurd rfl hne
 | cons x l =>
  have key:∀ (l:List Int) (x:Int),n<=x->(∀ y∈l,n<=y)->n<=l.foldl (fun a b=>min a b) x:=by
   intro l
   induction l with
   | nil=>intro x hx _; exact hx
   | cons y l ih=>intro x hx hl; exact ih _ (by have:=hl y List.mem_cons_self; show n<=min x y; omega) fun z hz=>hl z (List.mem_cons_of_mem _ hz)
  exact key l x (h x List.mem_cons_self) fun y hy=>h y (List.mem_cons_of_mem _ hy)
theorem ajC {l:List Str} {i:Nat} (h:1<(iT l).length):∃ a b,a∈l/\b∈l/\a≠b:=by
 obtain ⟨h1,h2,_⟩:=PW l
 have h3:=List.pairwise_iff_getElem.1 h1 0 1 (by omega) h (by omega)
 refine ⟨(iT l)[0],(iT l)[1],(h2 _).1 (List.getElem_mem _),(h2 _).1 (List.getElem_mem _),fun e=>?_⟩
 rw [e,xe.AB] at h3
 cases h3
theorem Zi {a b:List dK} (ha:a.length<=1000000) (h:a=b):(CY a b).run=some true:=by
 subst h
 unfold CY
 refine (bn (by rw [decide_eq_true rfl]; rfl)).trans ?_
 have hl:=AA (β:=Bool⊕Unit) a.length (fun v=>zx a a v) (.inr ()) (by omega) (fun i hi=>by
  unfold zx
  refine (bA (by rw [decide_eq_true (show (i:Int)<(a.length:Int) by omega)]; rfl)).trans ?_
  refine (aM (bQ hi)).trans ?_
  refine (aM (bQ hi)).trans ?_
  refine (bn ?_).trans rfl
  simp) (by
  unfold zx
  exact (bn (by rw [decide_eq_false (show ¬ (a.length:Int)<(a.length:Int) by omega)]; rfl)).trans rfl)
 exact (aN ((dI _ _).trans hl)).trans rfl
theorem ajD {a b:List Int} (ha:a.length<=1000000) (h:a=b):(H8 a b).run=some true:=by
 subst h
 unfold H8
 refine (bn (by rw [decide_eq_true rfl]; rfl)).trans ?_
 have hl:=AA (β:=Bool⊕Unit) a.length (fun v=>zZ a a v) (.inr ()) (by omega) (fun i hi=>by
  unfold zZ
  refine (bA (by rw [decide_eq_true (show (i:Int)<(a.length:Int) by omega)]; rfl)).trans ?_
  refine (aM (bQ hi)).trans ?_
  refine (aM (bQ hi)).trans ?_
  exact (bn (by rw [decide_eq_true rfl]; rfl)).trans rfl) (by
  unfold zZ
  exact (bn (by rw [decide_eq_false (show ¬ (a.length:Int)<(a.length:Int) by omega)]; rfl)).trans rfl)
 exact (aN ((dI _ _).trans hl)).trans rfl
theorem rY:rF.run=some true:=by
 have hm:(bI o9).length<=10:=by rw [Zg]; decide
 have g1:([([97]:Str)]:List Str).length<=1000000:=by decide
 have r1:=QY xG ([114,49]:Str)
 have r2:=YW xG ([122]:Str)
 rw [Zg] at r1 r2
 unfold rF
 refine (aN ajn).trans ?_
 refine (aN (Q3 xG (by omega) 1)).trans ?_
 refine (gm (Bn xG (by omega) 1)).trans ?_
 refine (gm (Zi (by rw [Zh]; decide) Zh)).trans ?_
 refine (gm (JK xG (by omega) 1 g1)).trans ?_
 refine (gm (JK xG (by omega) 2 g1)).trans ?_
 refine (gm (Q6 xG (by omega) 2 g1)).trans ?_
 refine (gm r1).trans ?_
 refine (gm (Ea _ _ (by decide) (by kernel_rfl))).trans ?_
 refine (gm r2).trans ?_
 refine (gm (Ea _ _ (by decide) (by kernel_rfl))).trans ?_
 dsimp only
 rw [rW,ajo,ajp,ajq]
 rfl
def q01 (s:Str):Bool:=decide ((1024:Int)<(s.length:Int))
theorem Zj (l:List Str):(Ia l).run=some (mH q01 20 l):=by
 unfold Ia
 refine U4 l 20 q01 (fun v=>Aj l v) (by omega) 20 rfl (fun i hi hm=>?_) (fun i hi=>?_)
 ·unfold Aj q01
  refine (bA (by rw [decide_eq_true (show (i:Int)<(l.length:Int) by omega),decide_eq_true (show (i:Int)<20 by omega)]; rfl)).trans ?_
  refine (aM (bQ hi)).trans ?_
  rw [Int.toNat_natCast,getD_lt _ _ _ hi]
  cases decide ((1024:Int)<(l[i].length:Int)) with
  | true=>exact (bA rfl).trans rfl
  | false=>exact (bn rfl).trans rfl
 ·unfold Aj
  refine (bn ?_).trans rfl
  rw [Bool.and_eq_false_iff,decide_eq_false_iff_not,decide_eq_false_iff_not]; omega
theorem Zk (l:List Entry):(Ac l).run=some false\/(Ac l).run=some true/\iD l/\(bI l).length<=6:=by
 unfold Ac
 rw [aN (U3 l 40 (by omega) 40 rfl)]
 cases hf:mH uf 40 l with
 | false=>left; exact (ET rfl).trans rfl
 | true =>
  have hl:=U5 (by omega) hf
  rw [gm (AJ l hl)]
  by_cases hm:(bI l).length<=6
  ·right
   refine ⟨?_,hl,hm⟩
   show some (true&&decide (((bI l).length:Int)<=6))=_
   rw [decide_eq_true (show ((bI l).length:Int)<=6 by omega)]; rfl
  ·left
   show some (true&&decide (((bI l).length:Int)<=6))=_
   rw [decide_eq_false (show ¬ ((bI l).length:Int)<=6 by omega)]; rfl
theorem ahr (x:eD Dz.ps) (_:xB Dz.ps x):(Dz.f x).run=some true:=by
 obtain ⟨l,c,gone,_⟩:=x
 show (Ni l c gone).run=_
 unfold Ni
 rcases Zk l with h | ⟨h,hl,hm⟩
 ·refine (aN h).trans ?_
  refine (gm (Zj gone)).trans ?_
  exact (bA rfl).trans ((aN rY).trans rfl)
 ·refine (aN h).trans ?_
  refine (gm (Zj gone)).trans ?_
  cases hf:mH q01 20 gone with
  | false=>exact (bA rfl).trans ((aN rY).trans rfl)
  | true =>
   have hg:=LU hf
   have hL:=rW l c
   have hsh:(rV l c).length<=1000000:=by unfold rV; rw [List.length_map]; have:=Bl (fun _=>true) (bI l); omega
   have hlo:=Q4 (dS l c) gone 16
   refine (bn rfl).trans ?_
   refine (aN (Bn hl (by omega) c)).trans ?_
   refine (aN (JJ hl (by omega) c)).trans ?_
   refine (bn (by rw [decide_eq_true rfl]; rfl)).trans ?_
   have hlp:=AA (β:=Bool⊕Unit) (dS l c).length (fun v=>Aa l c gone (dS l c) (dS l c) v) (.inr ()) (by omega) (fun i hi=>by
    unfold Aa
    refine (bA (by rw [decide_eq_true (show (i:Int)<((dS l c).length:Int) by omega)]; rfl)).trans ?_
    refine (aM (bQ hi)).trans ?_
    refine (aM (bQ hi)).trans ?_
    rw [Int.toNat_natCast,getD_lt _ _ _ hi]
    refine (aN (Ea _ _ (by have:=xE (List.getElem_mem hi); omega) rfl)).trans ?_
    exact (bn rfl).trans rfl) (by
    unfold Aa
    exact (bn (by rw [decide_eq_false (show ¬ ((dS l c).length:Int)<((dS l c).length:Int) by omega)]; rfl)).trans rfl)
   refine (aN ((dI _ _).trans hlp)).trans ?_
   show (Tree.bnd (ug l c) _).run=_
   refine (aN (Q3 hl (by omega) c)).trans ?_
   refine (aN (ajh hl (by omega) c)).trans ?_
   refine (aN (Zi hsh rfl)).trans ?_
   refine (gm (JK hl (by omega) c (by omega))).trans ?_
   refine (gm (aji hl (by omega) c (by omega))).trans ?_
   refine (gm (ajD (by omega) rfl)).trans ?_
   refine (gm (Q6 hl (by omega) c (by omega))).trans ?_
   refine (gm (ajl hl (by omega) c (by omega))).trans ?_
   refine (gm rY).trans ?_
   show some _=some true
   rw [decide_eq_true rfl]; rfl
theorem ahs (x:eD DD.ps) (_:xB DD.ps x):(DD.f x).run=some true:=by
 obtain ⟨l,r,z,_⟩:=x
 show (Nl l r z).run=_
 unfold Nl
 refine (aN (U3 l 40 (by omega) 40 rfl)).trans ?_
 by_cases hc:(((!(mH uf 40 l))||(decide ((100:Int)<(r.length:Int))))||(decide ((100:Int)<(z.length:Int))))=true
 ·exact (bA hc).trans ((aN rY).trans rfl)
 ·have hc:=Bool.not_eq_true _▸hc
  refine (bn hc).trans ?_
  simp only [Bool.or_eq_false_iff,Bool.not_eq_false'] at hc
  have hl:=U5 (by omega) hc.1.1
  have hm:(bI l).length<=10000:=Nat.le_trans (AL l) hl.1
  have n1:=Bl (fun m=>m.2.1==r) (bI l)
  have n2:=Bl (fun m=>m.2.2.1==z) (bI l)
  refine (aN (QY hl r)).trans ?_
  refine (aN (aja hl r)).trans ?_
  refine (aN (Ea _ _ (by omega) rfl)).trans ?_
  refine (gm (YW hl z)).trans ?_
  refine (gm (ajb hl z)).trans ?_
  refine (gm (Ea _ _ (by omega) rfl)).trans ?_
  exact (gm rY).trans rfl
theorem Zl {l:List Entry} {n:Nat} (h1:2<=n) (h2:n<=16) {L:List Str} (h:L∈dS l (n:Int)):L.length=min n (bI l).length:=by
 obtain ⟨p,_,rfl⟩:=EB h
 rw [JQ _ _ _ h1 h2]
 exact ajv (by omega)
theorem Zm (f:Str->Nat) (l:List Str) (s:Str):je f (l++[s])=je f l+f s:=by
 unfold je
 rw [List.map_append,List.sum_append]
 simp
theorem Zn {f:Str->Nat} {b:Nat} (h:∀ s,f s<=b) (l:List Str):je f l<=l.length*b:=by
 unfold je
 induction l with
 | nil=>simp
 | cons s l ih =>
  have:=h s
  rw [List.map_cons,List.sum_cons,List.length_cons,Nat.succ_mul]; omega
theorem ajE {o names:List Str} {lists:List (List Str)} (ho:o.length<=100) (hL:lists.length<=100) (hn:names.length<=100) (l:List Entry) (n:Int) (m:List aL) (racks:List Str) (each:Int) :
  dP (fun v=>(wW l n m racks each (names.map (lH o lists)) v.1 v.2.1 v.2.2).run) (0,0,0)=some ((je (lC lists) names:Int),(je (gV o) names:Int)):=by
 have hlen:(names.map (lH o lists)).length=names.length:=List.length_map ..
 refine fw (S:=fun i=>((je (lC lists) (names.take i):Int),(je (gV o) (names.take i):Int),(i:Int))) (n:=names.length) (fun i hi=>?_) ?_ rfl
 ·have hk:=Zn (fun s=>Nat.le_trans (JH lists s) hL) (names.take i)
  have hw:=Zn (fun s=>Nat.le_trans (JG o s) ho) (names.take i)
  have k1:=JH lists names[i]
  have k2:=JG o names[i]
  rw [List.length_take] at hk hw
  have e:(names.map (lH o lists)).getD (i:Int).toNat (aS fQ:dK)=lH o lists names[i]:=by
   rw [Int.toNat_natCast,getD_lt _ _ _ (by rw [hlen]; exact hi)]
   exact List.getElem_map ..
  rw [jq hi,Zm,Zm]
  dsimp only
  unfold wW
  refine (bA (decide_eq_true (by rw [hlen]; omega))).trans ?_
  refine (aM (bQ (by rw [hlen]; exact hi))).trans ?_
  refine (aM (bQ (by rw [hlen]; exact hi))).trans ?_
  rw [e]
  unfold lH
  dsimp only
  rw [di i (by omega),gD _ (by omega) (by omega),gD _ (by omega) (by omega)]
  rfl
 ·show (wW _ _ _ _ _ _ _ _ _).run=_
  unfold wW
  rw [List.take_of_length_le (Nat.le_refl _)]
  dsimp only
  exact (bn (decide_eq_false (by rw [hlen]; omega))).trans rfl
theorem Zo {lists:List (List Str)} {gone:List Str}:∀ {n:Nat},n<=lists.length->(∀ L∈lists,0<(jg L gone).length)->kg lists gone n=[]
 | 0,_,_=>rfl
 | n+1,hn,h=>by
  have h1:=h _ (List.getElem_mem (show n<lists.length by omega))
  rw [Q5,Zo (by omega) h,getD_lt _ _ _ (show n<lists.length by omega)]
  unfold qK
  rw [decide_eq_false (show ¬ (jg lists[n] gone).length=0 by omega),Bool.and_false]; rfl
theorem ajF {lists:List (List Str)} {gone:List Str} (hne:0<lists.length) (h:∀ L∈lists,0<(jg L gone).length):1<=jO (jN gone lists):=by
 have h0:∀ L∈lists,0<L.length:=fun L hL=>Nat.lt_of_lt_of_le (h L hL) (Y3 L gone)
 refine ajB (fun x hx=>?_) fun e=>?_
 ·obtain ⟨L,hL,rfl⟩:=List.mem_map.1 hx
  have:=h L (List.mem_filter.1 hL).1
  omega
 ·have hm:lists[0]∈lists:=List.getElem_mem hne
  have:((jg lists[0] gone).length:Int)∈jN gone lists:=List.mem_map.2 ⟨lists[0],List.mem_filter.2 ⟨hm,decide_eq_true (h0 _ hm)⟩,rfl⟩
  rw [e] at this
  cases this
theorem u8_in {n:Int} (h:(Lit.int .u8 n).wf=true):∃ k:Nat,k<256/\n=(k:Int):=by
 have e1:IntKind.u8.min=0:=rfl
 have e2:IntKind.u8.max=255:=rfl
 simp only [Lit.wf,e1,e2,Bool.and_eq_true,decide_eq_true_eq] at h
 exact ⟨n.toNat,by omega,by omega⟩
theorem aht (x:eD DI.ps) (hx:xB DI.ps x):(DI.f x).run=some true:=by
 obtain ⟨l,c,_⟩:=x
 obtain ⟨k,hk,rfl⟩:=u8_in (show (Lit.int .u8 c).wf=true from hx.2.1)
 show (Nw l (k:Int)).run=_
 unfold Nw
 rcases Zk l with h | ⟨h,hl,hm⟩
 ·refine (aN h).trans ?_
  refine (ET rfl).trans ?_
  exact (bA rfl).trans ((aN rY).trans rfl)
 ·refine (aN h).trans ?_
  refine (gm (adY l hl)).trans ?_
  cases hmay:CP l with
  | false=>exact (bA rfl).trans ((aN rY).trans rfl)
  | true =>
   have hsrt:=((ad3 l).1 hmay).2.1
   have hnd:=ajt hsrt
   have eN:ay ((2:Int)+((ay (k:Int)).tmod 15))=((2+k % 15:Nat):Int):=by
    rw [gD (k:Int) (by omega) (by omega),show (15:Int)=((15:Nat):Int) from rfl,ED,gD _ (by omega) (by omega)]; omega
   rw [eN]
   obtain ⟨n,hn⟩:∃ n,n=2+k % 15:=⟨_,rfl⟩
   rw [<- hn]
   have h1:2<=n:=by omega
   have h2:n<=16:=by omega
   have hL:=rW l (n:Int)
   have hrk:=(fun z=>(PW z).2.2) ((bI l).map fun m=>m.2.1)
   rw [List.length_map] at hrk
   refine (bn rfl).trans ?_
   refine (aM rfl).trans ?_
   refine (aN (AJ l hl)).trans ?_
   refine (aN (ahq (bI l) (by omega))).trans ?_
   refine (aN (Bn hl (by omega) (n:Int))).trans ?_
   rw [uL,show min (n:Int) ((bI l).length:Int)=((min n (bI l).length:Nat):Int) from by omega]
   refine (bn (by rw [hL]; rfl)).trans ?_
   have hlp:=AA (β:=Bool⊕Unit) (dS l (n:Int)).length (fun v=>Ah l (n:Int) (bI l) (iT ((bI l).map fun m=>m.2.1)) ((min n (bI l).length:Nat):Int) (dS l (n:Int)) v) (.inr ()) (by omega) (fun i hi=>by
    unfold Ah
    refine (bA (decide_eq_true (by omega))).trans ?_
    refine (aM (bQ hi)).trans ?_
    rw [Int.toNat_natCast,getD_lt _ _ _ hi,Zl h1 h2 (List.getElem_mem hi)]
    exact (bn (by rw [decide_eq_true rfl]; rfl)).trans rfl) (by
    unfold Ah
    exact (bn (decide_eq_false (by omega))).trans rfl)
   refine (aN ((dI _ _).trans hlp)).trans ?_
   show (Tree.bnd (ug l (n:Int)) _).run=_
   refine (aN (Q3 hl (by omega) (n:Int))).trans ?_
   have hnm:=Bl (fun _=>true) (bI l)
   have ho:(dY l 16).length=16:=o8 l 16
   refine (aN ((dI _ _).trans (ajE (o:=dY l 16) (names:=jE (fun _=>true) (bI l)) (lists:=dS l (n:Int)) (by omega) (by omega) (by omega) _ _ _ _ _))).trans ?_
   have hnames:(jE (fun _=>true) (bI l)).Nodup:=by rw [JI]; exact hnd
   have hkept:=XK hnames (min n (bI l).length) (dS l (n:Int)) fun L hL=>by
    refine ⟨?_,fun s hs=>?_,Zl h1 h2 hL⟩
    ·obtain ⟨p,_,rfl⟩:=EB hL
     rw [JQ _ _ _ h1 h2]
     exact ajx (by omega) hnd
    ·obtain ⟨p,_,rfl⟩:=EB hL
     rw [JQ _ _ _ h1 h2] at hs
     rw [JI]
     exact ajw (by omega) hs
   have howned:=XL hnames (dY l 16)
   have hshl:(rV l (n:Int)).length=(bI l).length:=by unfold rV; rw [List.length_map,JI,List.length_map]
   rw [hL] at hkept
   rw [ho] at howned
   refine (bn ?_).trans ?_
   ·rw [hkept,hshl,gD _ (by omega) (by omega),Bool.or_eq_false_iff,Bool.or_eq_false_iff,decide_eq_false_iff_not,decide_eq_true rfl,decide_eq_true (show (((min n (bI l).length*16:Nat):Int)=((min n (bI l).length:Nat):Int)*16) by omega)]
    exact ⟨⟨rfl,by omega⟩,rfl⟩
   ·have hlp2:=AA (β:=Bool⊕Unit) (iT ((bI l).map fun m=>m.2.1)).length (fun v=>rH l (n:Int) (iT ((bI l).map fun m=>m.2.1)) v) (.inr ()) (by omega)
    by_cases htwo:1<(iT ((bI l).map fun m=>m.2.1)).length
    ·obtain ⟨a,b,ha,hb,hab⟩:=ajC (i:=0) htwo
     obtain ⟨ma,ha1,rfl⟩:=List.mem_map.1 ha
     obtain ⟨mb,hb1,rfl⟩:=List.mem_map.1 hb
     have hlp3:=hlp2 (fun i hi=>by
      have hleft:∀ L∈dS l (n:Int),0<(jg L (jE (fun m=>m.2.1==(iT ((bI l).map fun m=>m.2.1))[i]) (bI l))).length:=fun L hL=>by
       obtain ⟨p,_,rfl⟩:=EB hL
       exact ajA hnd _ p h1 h2 ha1 hb1 hab _
      have hgl:=Bl (fun m=>m.2.1==(iT ((bI l).map fun m=>m.2.1))[i]) (bI l)
      have hone:=ajF (by omega) hleft
      unfold rH
      refine (bA (by rw [decide_eq_true (show (i:Int)<((iT ((bI l).map fun m=>m.2.1)).length:Int) by omega),decide_eq_true (show (1:Int)<((iT ((bI l).map fun m=>m.2.1)).length:Int) by omega)]; rfl)).trans ?_
      refine (aM (bQ hi)).trans ?_
      rw [Int.toNat_natCast,getD_lt _ _ _ hi]
      refine (aN (QY hl _)).trans ?_
      refine (aN (JK hl (by omega) (n:Int) (by omega))).trans ?_
      refine (gm (Q6 hl (by omega) (n:Int) (by omega))).trans ?_
      rw [Zo (by omega) hleft]
      refine (bn ?_).trans rfl
      rw [decide_eq_false (show ¬ jO _<1 by omega)]; rfl) (by
      unfold rH
      exact (bn (by rw [decide_eq_false (show ¬ ((iT ((bI l).map fun m=>m.2.1)).length:Int)<((iT ((bI l).map fun m=>m.2.1)).length:Int) by omega)]; rfl)).trans rfl)
     refine (aN ((dI _ _).trans hlp3)).trans ?_
     exact (aN rY).trans rfl
    ·have hlp3:dP (fun v=>(rH l (n:Int) (iT ((bI l).map fun m=>m.2.1)) v).run) 0=some (.inr ()):=by
      have:(rH l (n:Int) (iT ((bI l).map fun m=>m.2.1)) 0).run=some (.inr (.inr ())):=by
       unfold rH
       refine (bn ?_).trans rfl
       rw [decide_eq_false (show ¬ (1:Int)<((iT ((bI l).map fun m=>m.2.1)).length:Int) by omega),Bool.and_false]
      rw [ib,this]; rfl
     refine (aN ((dI _ _).trans hlp3)).trans ?_
     exact (aN rY).trans rfl
end Go.aT
