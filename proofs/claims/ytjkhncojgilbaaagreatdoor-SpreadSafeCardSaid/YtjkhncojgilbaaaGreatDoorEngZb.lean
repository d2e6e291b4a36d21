/- Arguments that are read as data, as abstract values. What is read as data stands for abstract values of its type. What is read as data stands for abstract values of its type: the proof. The frame of a law that answers true and hands its arguments back. A law's arguments as abstract values; from the contract to the row. From a contract on shaped arguments to the law's row. -/
import Derived.Test.YtjkhncojgilbaaaGreatDoorEngVd
import Derived.ProofKit
import Derived.OpenShut
namespace Go.aT
open Go Go.RowKit
variable {P:Program} {T:aX} {w:World}
def fieldAt (T:aX):List (Nat×Nat)->Nat->Option (Nat×Nat)
 | [],_=>none
 | (t,o)::fs,j=>if j<o+(ag T t).sz then some (t,o) else fieldAt T fs j
def ab (w:World) (T:aX):Nat->Nat->Nat->Value->AV
 | 0,_,_,_=>.undef
 | f+1,t,j,v=>match (ag T t).d with
  | .int _=>match v with
   | .int k n=>.int k n
   | _=>.undef
  | .bool=>match v with
   | .bool b=>.bool b
   | _=>.undef
  | .str=>match v with
   | .string s=>.str s.data.toList
   | _=>.undef
  | .struct fs=>match fieldAt T fs j with
   | some (e,o)=>ab w T f e (j-o) v
   | none=>.undef
  | .array _ e=>ab w T f e (j % (ag T e).sz) v
  | .slice e=>match v with
   | .slice (some a) n _=>.slice (ag T e).sz n false fun i k=>ab w T f e k ((w.cell? (a.add (i*(ag T e).sz+k))).getD Go.undef)
   | .slice none _ _=>.bR
   | _=>.undef
  | _=>.undef
def qw (T:aX):List (Nat×Nat)->Nat->Nat->Bool
 | [],o,n=>Nat.beq o n
 | (t,o')::fs,o,n=>Nat.beq o o'&&qw T fs (o+(ag T t).sz) n
def jm (T:aX):Nat->Nat->Bool
 | 0,_=>false
 | f+1,t=>match (ag T t).d with
  | .int _ | .bool | .str=>Nat.beq (ag T t).sz 1
  | .struct fs=>qw T fs 0 (ag T t).sz&&fs.all fun x=>jm T f x.1&&Nat.ble 1 (ag T x.1).sz
  | .array n e=>Nat.beq (ag T t).sz (n*(ag T e).sz)&&jm T f e&&Nat.ble 1 (ag T e).sz
  | .slice e=>Nat.beq (ag T t).sz 1&&jm T f e&&Nat.ble 1 (ag T e).sz
  | _=>false
def Shape (T:aX):Nat->Nat->(Nat->AV)->Nat->Prop
 | 0,_,_,_=>False
 | f+1,t,c,o=>match (ag T t).d with
  | .int k=>∃ n,c o = .int k n/\(Lit.int k n).wf=true
  | .bool=>∃ b,c o = .bool b
  | .str=>∃ s,c o = .str s/\s.length<=maxLen
  | .struct fs=>∀ x∈fs,Shape T f x.1 c (o+x.2)
  | .array n e=>∀ i,i<n->Shape T f e c (o+i*(ag T e).sz)
  | .slice e=>c o = .bR\/∃ n d,n<=maxLen/\c o = .slice (ag T e).sz n false d/\∀ i,i<n->Shape T f e (d i) 0
  | _=>False
theorem adB:∀ (fs:List (Nat×Nat)) (o n:Nat),qw T fs o n=true->o<=n:=by
 intro fs
 induction fs with
 | nil=>intro o n h; exact Nat.le_of_eq (Nat.eq_of_beq_eq_true h)
 | cons x fs ih =>
  obtain ⟨t,o'⟩:=x
  intro o n h
  simp only [qw,Bool.and_eq_true] at h
  have:=ih _ _ h.2
  omega
theorem UQ:∀ (fs:List (Nat×Nat)) (o n:Nat),qw T fs o n=true->∀ x∈fs,o<=x.2/\x.2+(ag T x.1).sz<=n/\∀ j,j<(ag T x.1).sz->fieldAt T fs (x.2+j)=some x:=by
 intro fs
 induction fs with
 | nil=>intro o n _ x hx; cases hx
 | cons y fs ih =>
  obtain ⟨t,o'⟩:=y
  intro o n h x hx
  simp only [qw,Bool.and_eq_true] at h
  have e:=Nat.eq_of_beq_eq_true h.1
  subst e
  rcases List.mem_cons.1 hx with rfl | hx
  ·refine ⟨Nat.le_refl _,adB _ _ _ h.2,fun j hj=>?_⟩
   simp only [fieldAt] at hj ⊢
   rw [if_pos (by omega)]
  ·obtain ⟨h1,h2,h3⟩:=ih _ _ h.2 x hx
   refine ⟨by omega,h2,fun j hj=>?_⟩
   simp only [fieldAt]
   rw [if_neg (by omega)]
   exact h3 j hj
theorem Shape.congr:∀ (F t:Nat) (c d:Nat->AV) (o o':Nat),jm T F t=true->(∀ j,j<(ag T t).sz->c (o+j)=d (o'+j))->Shape T F t c o->Shape T F t d o':=by
 intro F
 induction F with
 | zero=>intro t c d o o' h; simp [jm] at h
 | succ F ih =>
  intro t c d o o' hg hc hs
  simp only [jm,Shape] at hg hs ⊢
  split at hg
  ·rename_i k hd
   have h0:=hc 0 (by rw [Nat.eq_of_beq_eq_true hg]; omega)
   simp only [hd] at hs ⊢
   rwa [show o'=o'+0 from rfl,<- h0]
  ·rename_i hd
   have h0:=hc 0 (by rw [Nat.eq_of_beq_eq_true hg]; omega)
   simp only [hd] at hs ⊢
   rwa [show o'=o'+0 from rfl,<- h0]
  ·rename_i hd
   have h0:=hc 0 (by rw [Nat.eq_of_beq_eq_true hg]; omega)
   simp only [hd] at hs ⊢
   rwa [show o'=o'+0 from rfl,<- h0]
  ·rename_i fs hd
   simp only [Bool.and_eq_true,List.all_eq_true] at hg
   simp only [hd] at hs ⊢
   intro x hx
   obtain ⟨_,h2,_⟩:=UQ fs _ _ hg.1 x hx
   refine ih x.1 c d _ _ (hg.2 x hx).1 (fun j hj=>?_) (hs x hx)
   rw [Nat.add_assoc,Nat.add_assoc]
   exact hc (x.2+j) (by omega)
  ·rename_i n e hd
   simp only [Bool.and_eq_true] at hg
   simp only [hd] at hs ⊢
   have hsz:=Nat.eq_of_beq_eq_true hg.1.1
   intro i hi
   refine ih e c d _ _ hg.1.2 (fun j hj=>?_) (hs i hi)
   rw [Nat.add_assoc,Nat.add_assoc]
   exact hc (i*(ag T e).sz+j) (by
    rw [hsz]
    have:=fP (sz:=(ag T e).sz) (off:=j) (k:=1) hi hj
    omega)
  ·rename_i e hd
   simp only [Bool.and_eq_true] at hg
   have h0:=hc 0 (by rw [Nat.eq_of_beq_eq_true hg.1.1]; omega)
   simp only [hd] at hs ⊢
   rwa [show o'=o'+0 from rfl,<- h0]
  ·simp at hg
end Go.aT
namespace Go.aT
open Go Go.RowKit
variable {H:Type} {enc:TypeId×Value->H} {P:Program} {T:aX} {w:World} {base:Nat} {spare:Nat->Bool} {held:Bool}
theorem LD (hT:bG P T) {t:Nat} (h:1<=(ag T t).sz):P.cellsOf t=(ag T t).sz:=by
 obtain ⟨d,i,z,f⟩:=hT.eO h
 unfold Program.cellsOf
 rw [f.info,f.sz]; rfl
theorem add_add (a:Addr) (x k:Nat):(a.add x).add k=a.add (x+k):=by
 unfold Addr.add
 by_cases hx:x=0
 ·subst hx; simp
 ·by_cases hk:k=0
  ·subst hk; simp [hx]
  ·simp [hx,hk,Nat.add_assoc]
theorem mapM_some {α β:Type} {f:α->Option β}:∀ {l:List α} {r:List β},l.mapM f=some r->r.length=l.length/\∀ (i:Nat) (x:α),l[i]? = some x->∃ y,r[i]? = some y/\f x=some y:=by
 intro l
 induction l with
 | nil=>intro r h; simp at h; subst h; exact ⟨rfl,fun i x h=>by simp at h⟩
 | cons a l ih =>
  intro r h
  rw [List.mapM_cons] at h
  cases ha:f a with
  | none=>rw [ha] at h; simp at h
  | some b =>
   rw [ha] at h
   cases hl:l.mapM f with
   | none=>rw [hl] at h; simp at h
   | some k =>
    rw [hl] at h
    simp at h
    subst h
    obtain ⟨h1,h2⟩:=ih hl
    refine ⟨by simp [h1],fun i x hx=>?_⟩
    cases i with
    | zero=>simp at hx; subst hx; exact ⟨b,rfl,ha⟩
    | succ i=>simpa using h2 i x (by simpa using hx)
theorem adC {a:Addr} {n:Nat} {vs:List Value} (h:w.cells? base a n=some vs):vs.length=n/\∀ k,k<n->w.cell? (a.add k)=some (vs.getD k Go.undef):=by
 unfold World.cells? at h
 split at h
 ·obtain ⟨h1,h2⟩:=mapM_some h
  refine ⟨by simpa using h1,fun k hk=>?_⟩
  obtain ⟨y,hy,hf⟩:=h2 k k (by simp [hk])
  rw [hf,List.getD_eq_getElem?_getD,hy]; rfl
 ·cases h
theorem adD:∀ (fs:List (Nat×Nat)) (o n:Nat),qw T fs o n=true->∀ j,o<=j->j<n->∃ x∈fs,fieldAt T fs j=some x/\x.2<=j/\j<x.2+(ag T x.1).sz:=by
 intro fs
 induction fs with
 | nil=>intro o n h j h1 h2; have:=Nat.eq_of_beq_eq_true h; omega
 | cons y fs ih =>
  obtain ⟨t,o'⟩:=y
  intro o n h j h1 h2
  simp only [qw,Bool.and_eq_true] at h
  have e:=Nat.eq_of_beq_eq_true h.1
  subst e
  by_cases hj:j<o+(ag T t).sz
  ·exact ⟨(t,o),by simp,by simp only [fieldAt]; rw [if_pos hj],h1,hj⟩
  ·obtain ⟨x,hx,hf,a1,a2⟩:=ih _ _ h.2 j (by omega) h2
   exact ⟨x,List.mem_cons_of_mem _ hx,by simp only [fieldAt]; rw [if_neg hj]; exact hf,a1,a2⟩
end Go.aT
namespace Go.aT
open Go Go.RowKit
variable {H:Type} {enc:TypeId×Value->H} {P:Program} {T:aX} {w:World} {base:Nat} {spare:Nat->Bool} {held:Bool}
structure GH (w:World) (T:aX) (F t:Nat) (vs:List Value):Prop where
 len:vs.length=(ag T t).sz
 rel:∀ j,j<vs.length->Rel w (fun b=>b<w.heap.size) [] (vs.getD j Go.undef) (ab w T F t j (vs.getD j Go.undef))/\(vs.getD j Go.undef).oneCell'=true
 shape:Shape T F t (fun j=>ab w T F t j (vs.getD j Go.undef)) 0
theorem GI {vs:List Value} {o n j:Nat} (hj:j<n):((vs.drop o).take n).getD j Go.undef=vs.getD (o+j) Go.undef:=by
 simp [List.getD_eq_getElem?_getD,List.getElem?_take,hj]
theorem adE (hT:bG P T):∀ (F t fuel:Nat) (vs:List Value) (x:DataW H×List MemPlace),jm T F t=true->DataW.trod enc P w base spare held fuel t vs=some x->GH w T F t vs:=by
 intro F
 induction F with
 | zero=>intro t fuel vs x h; simp [jm] at h
 | succ F ih =>
  intro t fuel vs x hg h
  simp only [jm] at hg
  split at hg
  ·rename_i k hd
   have hsz:=Nat.eq_of_beq_eq_true hg
   obtain ⟨d,i,z,f⟩:=hT.bJ hd (by simp)
   have hu:=f.und
   rw [vQ (f.d.symm.trans hd)] at hu
   obtain ⟨n,rfl,_,hw⟩:=DataW.trod_int hu h
   refine ⟨by rw [hsz]; rfl,fun j hj=>?_,?_⟩
   ·have:j=0:=by simp at hj; exact hj
    subst this
    simp only [ab,hd]
    exact ⟨.int _ _ _ hw,rfl⟩
   ·simp only [Shape,hd,ab]
    exact ⟨n,rfl,hw⟩
  ·rename_i hd
   have hsz:=Nat.eq_of_beq_eq_true hg
   obtain ⟨d,i,z,f⟩:=hT.bJ hd (by simp)
   have hu:=f.und
   rw [Cb (f.d.symm.trans hd)] at hu
   obtain ⟨b,rfl,_⟩:=DataW.trod_bool hu h
   refine ⟨by rw [hsz]; rfl,fun j hj=>?_,?_⟩
   ·have:j=0:=by simp at hj; exact hj
    subst this
    simp only [ab,hd]
    exact ⟨.bool _ _,rfl⟩
   ·simp only [Shape,hd,ab]
    exact ⟨b,rfl⟩
  ·rename_i hd
   have hsz:=Nat.eq_of_beq_eq_true hg
   obtain ⟨d,i,z,f⟩:=hT.bJ hd (by simp)
   have hu:=f.und
   rw [oq (f.d.symm.trans hd)] at hu
   obtain ⟨s,rfl,_,hs⟩:=DataW.trod_string hu h
   have hs':s.data.toList.length<=maxLen:=by rw [Array.length_toList]; exact hs
   refine ⟨by rw [hsz]; rfl,fun j hj=>?_,?_⟩
   ·have:j=0:=by simp at hj; exact hj
    subst this
    simp only [ab,hd]
    refine ⟨?_,rfl⟩
    have:=Rel.str (w:=w) (S:=fun b=>b<w.heap.size) [] s.data.toList hs'
    rwa [SA] at this
   ·simp only [Shape,hd,ab]
    exact ⟨_,rfl,hs'⟩
  ·rename_i fs hd
   simp only [Bool.and_eq_true,List.all_eq_true] at hg
   obtain ⟨d,i,z,f⟩:=hT.bJ hd (by simp)
   have hu:=f.und
   obtain ⟨l,hl,hfs,_⟩:=rq (f.d.symm.trans hd)
   rw [hl] at hu
   obtain ⟨xs,m,_,_,hlen,hxl,hx⟩:=DataW.trod_struct hu h
   have hcs:P.cellsOf t=(ag T t).sz:=by unfold Program.cellsOf; rw [f.info,f.sz]; rfl
   have hmem:=UQ fs _ _ hg.1
   have part:∀ y∈fs,GH w T F y.1 ((vs.drop y.2).take (ag T y.1).sz):=fun y hy=>by
    have hgy:=hg.2 y hy
    rw [hfs] at hy
    obtain ⟨fl,hfl,rfl⟩:=List.mem_map.1 hy
    obtain ⟨k,hk⟩:=List.getElem?_of_mem hfl
    have hk':l[k]? = some fl:=by rw [<- Array.getElem?_toList]; exact hk
    have hh:=hx k fl hk'
    have hlt:k<xs.length:=by rw [hxl]; exact (Array.getElem?_eq_some_iff.1 hk').1
    rw [List.getElem?_eq_getElem hlt,LD hT (Nat.le_of_ble_eq_true hgy.2)] at hh
    exact ih _ _ _ _ hgy.1 hh
   have hlen':vs.length=(ag T t).sz:=hlen.trans hcs
   refine ⟨hlen',fun j hj=>?_,?_⟩
   ·obtain ⟨y,hy,hf,h1,h2⟩:=adD fs _ _ hg.1 j (Nat.zero_le _) (by omega)
    have hp:=part y hy
    have hlt:j-y.2<((vs.drop y.2).take (ag T y.1).sz).length:=by rw [hp.len]; omega
    have:=hp.rel (j-y.2) hlt
    rw [GI (by omega),show y.2+(j-y.2)=j from by omega] at this
    simp only [ab,hd,hf]
    exact this
   ·simp only [Shape,hd]
    intro y hy
    have hp:=part y hy
    refine Shape.congr F y.1 _ _ 0 (0+y.2) (hg.2 y hy).1 (fun j hj=>?_) hp.shape
    simp only [Nat.zero_add]
    rw [GI hj]
    simp only [ab,hd,(hmem y hy).2.2 j hj]
    rw [Nat.add_sub_cancel_left]
  ·rename_i n e hd
   simp only [Bool.and_eq_true] at hg
   obtain ⟨⟨hg1,hg2⟩,hg3⟩:=hg
   have hsz:=Nat.eq_of_beq_eq_true hg1
   have he:=Nat.le_of_ble_eq_true hg3
   obtain ⟨d,i,z,f⟩:=hT.bJ hd (by simp)
   have hu:=f.und
   rw [ou (f.d.symm.trans hd)] at hu
   obtain ⟨xs,m,_,_,hlen,hxl,hx⟩:=DataW.trod_array hu h
   have hcs:P.cellsOf t=(ag T t).sz:=by unfold Program.cellsOf; rw [f.info,f.sz]; rfl
   have part:∀ k,k<n->GH w T F e ((vs.drop (k*(ag T e).sz)).take (ag T e).sz):=fun k hk=>by
    have hh:=hx k hk
    rw [List.getElem?_eq_getElem (by rw [hxl]; exact hk),LD hT he] at hh
    exact ih _ _ _ _ hg2 hh
   have hlen':vs.length=(ag T t).sz:=hlen.trans hcs
   refine ⟨hlen',fun j hj=>?_,?_⟩
   ·have hk:j / (ag T e).sz<n:=by rw [Nat.div_lt_iff_lt_mul (by omega)]; omega
    have hm:j % (ag T e).sz<(ag T e).sz:=Nat.mod_lt _ (by omega)
    have hp:=part _ hk
    have:=hp.rel (j % (ag T e).sz) (by rw [hp.len]; exact hm)
    rw [GI hm,show j / (ag T e).sz*(ag T e).sz+j % (ag T e).sz=j from by rw [Nat.mul_comm]; exact Nat.div_add_mod _ _] at this
    simp only [ab,hd]
    exact this
   ·simp only [Shape,hd]
    intro k hk
    have hp:=part k hk
    refine Shape.congr F e _ _ 0 _ hg2 (fun j hj=>?_) hp.shape
    simp only [Nat.zero_add]
    rw [GI hj]
    simp only [ab,hd]
    rw [show (k*(ag T e).sz+j) % (ag T e).sz=j from by rw [Nat.mul_comm,Nat.mul_add_mod,Nat.mod_eq_of_lt hj]]
  ·rename_i e hd
   simp only [Bool.and_eq_true] at hg
   obtain ⟨⟨hg1,hg2⟩,hg3⟩:=hg
   have hsz:=Nat.eq_of_beq_eq_true hg1
   have he:=Nat.le_of_ble_eq_true hg3
   obtain ⟨d,i,z,f⟩:=hT.bJ hd (by simp)
   have hu:=f.und
   rw [fF (f.d.symm.trans hd)] at hu
   rcases DataW.trod_slice hu h with ⟨rfl,_⟩ | ⟨a,len,cap,elems,rest,m,_,rfl,_,_,hl,hm,hel,hx,_⟩
   ·refine ⟨by rw [hsz]; rfl,fun j hj=>?_,?_⟩
    ·have:j=0:=by simp at hj; exact hj
     subst this
     simp only [ab,hd]
     exact ⟨.bR _,rfl⟩
    ·simp only [Shape,hd,ab]
     exact .inl rfl
   ·have part:∀ k,k<len->∃ us:List Value,GH w T F e us/\us.length=(ag T e).sz/\∀ j,j<(ag T e).sz->w.cell? (a.add (k*(ag T e).sz+j))=some (us.getD j Go.undef):=fun k hk=>by
     have hh:=hx k hk
     rw [List.getElem?_eq_getElem (by rw [hel]; exact hk),LD hT he] at hh
     cases hc:w.cells? base (a.add (k*(ag T e).sz)) (ag T e).sz with
     | none=>rw [hc] at hh; simp at hh
     | some us =>
      rw [hc] at hh
      obtain ⟨c1,c2⟩:=adC hc
      exact ⟨us,ih _ _ _ _ hg2 hh,c1,fun j hj=>by rw [<- c2 j hj,add_add]⟩
    refine ⟨by rw [hsz]; rfl,fun j hj=>?_,?_⟩
    ·have:j=0:=by simp at hj; exact hj
     subst this
     simp only [ab,hd]
     refine ⟨?_,rfl⟩
     show Rel w _ [] (.slice (some a) len cap) _
     by_cases h0:len=0
     ·subst h0
      exact .dL _ _ _ _ _ _ hm (fun h=>by simp at h)
     ·obtain ⟨us,_,_,hu0⟩:=part 0 (by omega)
      have hc0:=hu0 0 he
      rw [show a.add (0*(ag T e).sz+0)=a from by simp [Addr.add]] at hc0
      obtain ⟨b,o,sp⟩:=a
      have hsp:sp=none/\b<w.heap.size:=by
       unfold World.cell? at hc0
       simp only at hc0
       split at hc0
       ·rename_i hb
        have hlt:=(Array.getElem?_eq_some_iff.1 hb).1
        cases sp with
        | none=>exact ⟨rfl,hlt⟩
        | some x=>simp at hc0
       ·cases hc0
      obtain ⟨rfl,hb⟩:=hsp
      have hadd:∀ x,(Addr.mk b o none).add x=⟨b,o+x,none⟩:=fun x=>by
       unfold Addr.add
       by_cases hx:x=0
       ·subst hx; simp
       ·simp [hx]
      refine .slice _ b o _ _ cap _ _ (fun i k=>(w.cell? ⟨b,o+i*(ag T e).sz+k,none⟩).getD Go.undef) hb hl hm (fun h=>by simp at h) (fun i hi j hj=>?_) (fun i hi j hj=>?_)
      ·obtain ⟨us,hp,h1,h2⟩:=part i hi
       have:=h2 j hj
       rw [hadd,<- Nat.add_assoc] at this
       rw [this]
       exact ⟨rfl,(hp.rel j (by rw [h1]; exact hj)).2⟩
      ·obtain ⟨us,hp,h1,h2⟩:=part i hi
       have:=h2 j hj
       rw [hadd]
       rw [hadd] at this
       rw [<- Nat.add_assoc] at this ⊢
       rw [this]
       exact (hp.rel j (by rw [h1]; exact hj)).1
    ·simp only [Shape,hd,ab]
     refine .inr ⟨len,_,by omega,rfl,fun k hk=>?_⟩
     obtain ⟨us,hp,h1,h2⟩:=part k hk
     refine Shape.congr F e _ _ 0 0 hg2 (fun j hj=>?_) hp.shape
     simp only [Nat.zero_add]
     rw [h2 j hj]
     rfl
  ·simp at hg
end Go.aT
namespace Go.aT
open Go Go.RowKit Go.ChangeShapes Go.WideShapes Go.ChangeAt
variable {H:Type} {enc:TypeId×Value->H} {P:Program} {T:aX}
theorem UR (hl:laidOutB P=true) {W W':World} (hb:Below W.heap.size W W'):∀ {ts:List TypeId} {vs:List Value} {ds:List (DataW H)} {ps:List MemPlace},(ts.all fun t=>P.readableRec t&&Nat.blt t P.types.size)=true ->
  DataW.TrodAll enc P W 0 (fun _=>true) true ts vs ds ps->(∀ x∈ps,x.block<W.heap.size)->DataW.TrodAll enc P W' 0 (fun b=>decide (b<W.heap.size)) true ts vs ds ps
 | [],[],[],_,_,h,_=>h
 | t::ts,v::vs,d::ds,ps,hr,h,hlt=>by
  obtain ⟨p,q,h1,h2,rfl⟩:=h
  simp only [List.all_cons,Bool.and_eq_true] at hr
  exact ⟨p,q,Below.trod hl hr.1.1 (by simpa using hr.1.2) h1 hb (fun x hx=>hlt x (List.mem_append_left _ hx)),UR hl hb hr.2 h2 (fun x hx=>hlt x (List.mem_append_right _ hx)),rfl⟩
 | [],_::_,_,_,_,h,_=>h.elim
 | [],[],_::_,_,_,h,_=>h.elim
 | _::_,[],_,_,_,h,_=>h.elim
 | _::_,_::_,[],_,_,h,_=>h.elim
theorem trodAll_length {W:World}:∀ {ts:List TypeId} {vs:List Value} {ds:List (DataW H)} {ps:List MemPlace},DataW.TrodAll enc P W 0 (fun _=>true) true ts vs ds ps->ds.length=ts.length/\vs.length=ts.length
 | [],[],[],_,_=>⟨rfl,rfl⟩
 | _::_,_::_,_::_,_,h=>by
  obtain ⟨p,q,_,h2,_⟩:=h
  obtain ⟨a,b⟩:=trodAll_length h2
  exact ⟨by simp [a],by simp [b]⟩
 | [],_::_,_,_,h=>h.elim
 | [],[],_::_,_,h=>h.elim
 | _::_,[],_,_,h=>h.elim
 | _::_,_::_,[],_,h=>h.elim
theorem adF (hl:laidOutB P=true) {f:Func} {s:ChangeSpec} {t:TypeId} (hv:s.vars=[]) (hres:f.resultTypes = #[t]) (hu:P.underlying t=some .bool)
  (hfn:∀ ds:List (DataW H),ds.length=f.params.toList.length->(s.fn H ds).results=[.lit (.bool true)]/\(s.fn H ds).args=ds/\(s.fn H ds).vars=[])
  (hpar:(f.params.toList.all fun t=>P.readableRec t&&Nat.blt t P.types.size)=true) {apart fresh handsOn:Bool} {W W':World} {args:Array Value} {ds gs:List (DataW H)} {before:List MemPlace}
  (hW:DataW.Whole enc P f.params.toList s.vars apart W args.toList ds gs before) (hb:Below W.heap.size W W'):s.post enc P f apart fresh handsOn false W args (.bool true) W':=by
 have hW':=hW
 obtain ⟨p,q,hA,hV,rfl,hz,hn⟩:=hW
 rw [hv] at hV
 have hgs:gs=[]/\q=[]:=by
  cases gs with
  | nil=>exact ⟨rfl,hV⟩
  | cons g gs=>exact hV.elim
 obtain ⟨rfl,rfl⟩:=hgs
 obtain ⟨l1,l2⟩:=trodAll_length hA
 obtain ⟨f1,f2,f3⟩:=hfn (ds++[]) (by simpa using l1)
 refine ⟨ds,[],p++[],[],p,[],hW',?_,?_,?_,hb.frame _,fun h=>by cases h⟩
 ·rw [f1,hres]
  refine ⟨[],[],⟨1,?_⟩,rfl,rfl⟩
  simp [DataW.trod,hu,Value.cells]
 ·rw [f2,List.append_nil]
  exact UR hl hb hpar hA fun x hx=>by simpa using hW'.lt x (by simpa using hx)
 ·rw [f3,hv]; rfl
end Go.aT
namespace Go.aT
open Go Go.RowKit Go.ChangeShapes Go.WideShapes Go.ChangeAt
variable {H:Type} {enc:TypeId×Value->H} {P:Program} {T:aX}
def tY (T:aX) (t:Nat) (c:Nat->AV):AV:=match (ag T t).d with
 | .struct _=>.agg (tab c 0 (ag T t).sz)
 | .array _ _=>.agg (tab c 0 (ag T t).sz)
 | _=>c 0
def LF (T:aX) (F:Nat):List Nat->List AV->Prop
 | [],[]=>True
 | t::ts,a::l=>(∃ c,Shape T F t c 0/\a=tY T t c)/\LF T F ts l
 | _,_=>False
theorem UT {W:World} {b0:Nat} {t:TypeId} {v:Value} (hv:Value.okWide P W .any b0 t v) (h:(∃ fs,P.underlying t=some (.struct fs))\/∃ n e,P.underlying t=some (.array n e)):∃ cs,v = .agg cs:=by
 unfold Value.okWide at hv
 rcases h with ⟨fs,h⟩ | ⟨n,e,h⟩ <;> rw [h] at hv <;> exact ⟨hv.choose,hv.choose_spec.1⟩
theorem cells_one {v:Value} (h:∀ cs,v≠.agg cs):v.cells.toList=[v]:=by
 cases v <;> first | rfl | exact absurd rfl (h _)
theorem adG (hT:bG P T) {F:Nat} {W:World} {t:TypeId} {v:Value} {d:DataW H} {ps:List MemPlace} {b0:Nat} (hg:jm T F t=true) (hv:Value.okWide P W .any b0 t v)
  (h:DataW.Trod enc P W 0 (fun _=>true) true t v d ps):∃ c,Shape T F t c 0/\Rel W (fun b=>b<W.heap.size) [] v (tY T t c):=by
 obtain ⟨fuel,h⟩:=h
 have ha:=adE hT F t fuel _ _ hg h
 refine ⟨_,ha.shape,?_⟩
 have agg:∀ cs,v = .agg cs->Rel W (fun b=>b<W.heap.size) [] v (.agg (tab (fun j=>ab W T F t j (v.cells.toList.getD j Go.undef)) 0 (ag T t).sz)):=fun cs e=>by
  subst e
  have hl:cs.size=(ag T t).sz:=by have:=ha.len; simpa [Value.cells] using this
  have hr:=ha.rel
  refine .agg _ _ _ (by rw [kV]; exact hl) (fun i hi=>?_) (fun i hi=>?_)
  ·rw [kV] at hi
   have:=(hr i (by rw [ha.len]; exact hi)).2
   simpa [Value.cells,List.getD_eq_getElem?_getD,Array.getD_eq_getD_getElem?] using this
  ·rw [kV] at hi
   rw [sU _ _ _ _ hi]
   have:=(hr i (by rw [ha.len]; exact hi)).1
   simpa [Value.cells,List.getD_eq_getElem?_getD,Array.getD_eq_getD_getElem?] using this
 have one:(∀ cs,v≠.agg cs)->Rel W (fun b=>b<W.heap.size) [] v (ab W T F t 0 (v.cells.toList.getD 0 Go.undef)):=fun hne=>by
  have e:=cells_one hne
  have:=(ha.rel 0 (by rw [e]; simp)).1
  rw [e] at this ⊢
  exact this
 cases F with
 | zero=>simp [jm] at hg
 | succ F =>
  have hg':=hg
  simp only [jm] at hg
  unfold tY
  split at hg
  ·rename_i k hd
   simp only [hd]
   obtain ⟨d,i,z,f⟩:=hT.bJ hd (by simp)
   have hu:=f.und
   rw [vQ (f.d.symm.trans hd)] at hu
   obtain ⟨n,rfl⟩:=okWide_int hu hv
   exact one (fun cs e=>by cases e)
  ·rename_i hd
   simp only [hd]
   obtain ⟨d,i,z,f⟩:=hT.bJ hd (by simp)
   have hu:=f.und
   rw [Cb (f.d.symm.trans hd)] at hu
   obtain ⟨n,rfl⟩:=okWide_bool hu hv
   exact one (fun cs e=>by cases e)
  ·rename_i hd
   simp only [hd]
   obtain ⟨d,i,z,f⟩:=hT.bJ hd (by simp)
   have hu:=f.und
   rw [oq (f.d.symm.trans hd)] at hu
   obtain ⟨n,rfl⟩:=okWide_string hu hv
   exact one (fun cs e=>by cases e)
  ·rename_i fs hd
   simp only [hd]
   obtain ⟨d,i,z,f⟩:=hT.bJ hd (by simp)
   have hu:=f.und
   obtain ⟨l,hl,_⟩:=rq (f.d.symm.trans hd)
   rw [hl] at hu
   obtain ⟨cs,e⟩:=UT hv (.inl ⟨_,hu⟩)
   exact agg cs e
  ·rename_i n e hd
   simp only [hd]
   obtain ⟨d,i,z,f⟩:=hT.bJ hd (by simp)
   have hu:=f.und
   rw [ou (f.d.symm.trans hd)] at hu
   obtain ⟨cs,e⟩:=UT hv (.inr ⟨_,_,hu⟩)
   exact agg cs e
  ·rename_i e hd
   simp only [hd]
   obtain ⟨d,i,z,f⟩:=hT.bJ hd (by simp)
   have hu:=f.und
   rw [fF (f.d.symm.trans hd)] at hu
   obtain ⟨a,n,c,rfl⟩:=okWide_slice hu hv
   exact one (fun cs e=>by cases e)
  ·simp at hg
end Go.aT
namespace Go.aT
open Go Go.RowKit Go.ChangeShapes Go.WideShapes Go.ChangeAt
variable {H:Type} {enc:TypeId×Value->H} {P:Program} {T:aX}
theorem UU (hT:bG P T) {F:Nat} {W:World} {b0:Nat}:∀ {ts:List TypeId} {vs:List Value} {ds:List (DataW H)} {ps:List MemPlace},(ts.all fun t=>jm T F t)=true ->
  (∀ (j:Nat) t v,ts[j]? = some t->vs[j]? = some v->Value.okWide P W .any b0 t v)->DataW.TrodAll enc P W 0 (fun _=>true) true ts vs ds ps ->
  ∃ l,LF T F ts l/\vs.length=au l/\∀ i,i<au l->Rel W (fun b=>b<W.heap.size) [] (vs.getD i Go.undef) (nth l i)
 | [],[],[],_,_,_,_=>⟨[],trivial,rfl,fun i hi=>by simp [au] at hi⟩
 | t::ts,v::vs,d::ds,ps,hg,hv,h=>by
  obtain ⟨p,q,h1,h2,rfl⟩:=h
  simp only [List.all_cons,Bool.and_eq_true] at hg
  obtain ⟨c,hs,hr⟩:=adG hT hg.1 (hv 0 t v rfl rfl) h1
  obtain ⟨l,k1,k2,k3⟩:=UU hT hg.2 (fun j t v ht hv'=>hv (j+1) t v (by simpa using ht) (by simpa using hv')) h2
  refine ⟨tY T t c::l,⟨⟨c,hs,rfl⟩,k1⟩,by simp [au,k2],fun i hi=>?_⟩
  cases i with
  | zero=>exact hr
  | succ i=>simpa [nth] using k3 i (by simpa [au] using hi)
 | [],_::_,_,_,_,_,h=>h.elim
 | [],[],_::_,_,_,_,h=>h.elim
 | _::_,[],_,_,_,_,h=>h.elim
 | _::_,_::_,[],_,_,_,h=>h.elim
end Go.aT
