/- The operations of the abstract machine are sound: composite literals, make, append, min, max. -/
import Derived.Test.YtjkhncojgilbaaaGreatDoorEngF
namespace Go.aT
open Go Go.RowKit
variable {P:Program} {T:aX} {base:Env} {w:World} {S:Nat->Prop} {m:aY} {M:Mem}
structure Ch (w:World) (S:Nat->Prop) (m:aY) (vs:Array Value) (cs:List AV):Prop where
 len:vs.size=au cs
 one:∀ i,i<au cs->(vs.getD i Go.undef).oneCell'=true
 rel:∀ i,i<au cs->Rel w S m (vs.getD i Go.undef) (nth cs i)
theorem abb (l:List Value):∀ (k off:Nat) (cs:Array Value),off+(k+l.length)<=cs.size ->
  let r:=(l.zipIdx k).foldl (fun (cs:Array Value) (x:Value×Nat)=>cs.setIfInBounds (off+x.2) x.1) cs
  r.size=cs.size/\∀ i,r.getD i Go.undef=if off+k<=i/\i<off+k+l.length then l.getD (i-(off+k)) Go.undef else cs.getD i Go.undef:=by
 induction l with
 | nil=>intro k off cs h; simp; intro i h1 h2; omega
 | cons v l ih =>
  intro k off cs h
  simp only [List.zipIdx_cons,List.foldl_cons]
  simp only [List.length_cons] at h
  obtain ⟨h1,h2⟩:=ih (k+1) off (cs.setIfInBounds (off+k) v) (by simp; omega)
  refine ⟨by rw [h1]; simp,fun i=>?_⟩
  rw [h2]
  by_cases e:i=off+k
  ·subst e
   rw [if_neg (by omega),if_pos (by simp),Nat.sub_self]
   have:off+k<cs.size:=by omega
   simp [this]
  ·by_cases e2:off+(k+1)<=i/\i<off+(k+1)+l.length
   ·rw [if_pos e2,if_pos (by simp; omega)]
    obtain ⟨j,rfl⟩:∃ j,i=off+k+(j+1):=⟨i-(off+k)-1,by omega⟩
    rw [show off+k+(j+1)-(off+(k+1))=j from by omega,show off+k+(j+1)-(off+k)=j+1 from by omega]
    simp
   ·rw [if_neg e2,if_neg (by simp; omega)]
    simp only [Array.getD_eq_getD_getElem?]
    rw [Array.getElem?_setIfInBounds_ne (Ne.symm e)]
theorem F5 (place:Nat->Option (Nat×Nat)):∀ (ps:List (Nat×AV)) (vps:List (Nat×Value)) (vs:Array Value) (cs cs':List AV),
  vps.length=ps.length->(∀ j (h:j<ps.length) (h':j<vps.length),vps[j].1=ps[j].1/\Rel w S m vps[j].2 ps[j].2)->Ch w S m vs cs->nW place cs ps=some cs' ->
  ∃ vs',Instr.fill place vs vps=some vs'/\Ch w S m vs' cs':=by
 intro ps
 induction ps with
 | nil=>intro vps vs cs cs' hl _ hc h; cases vps with
  | nil=>simp [nW] at h; subst h; exact ⟨vs,rfl,hc⟩
  | cons=>simp at hl
 | cons p ps ih =>
  intro vps vs cs cs' hl hp hc h
  cases vps with
  | nil=>simp at hl
  | cons vp vps =>
   obtain ⟨i,a⟩:=p
   obtain ⟨i',v⟩:=vp
   have h0:=hp 0 (by simp) (by simp)
   simp only [List.getElem_cons_zero] at h0
   obtain ⟨rfl,hr⟩:=h0
   simp only [nW] at h
   split at h
   ·simp at h
   ·rename_i off size hpl
    split at h
    case h_2=>simp at h
    rename_i h1 h2 h3
    have h1:=Nat.eq_of_beq_eq_true h1
    have h2:=Nat.le_of_ble_eq_true h2
    obtain ⟨k1,k2,k3⟩:=hr.cells h3
    obtain ⟨f1,f2⟩:=abb v.cells.toList 0 off vs (by simp; rw [hc.len,k1,h1]; exact h2)
    have e:(v.cells.zipIdx.foldl (fun cs (x:Value×Nat)=>cs.setIfInBounds (off+x.2) x.1) vs)=(v.cells.toList.zipIdx 0).foldl (fun (cs:Array Value) (x:Value×Nat)=>cs.setIfInBounds (off+x.2) x.1) vs:=by
     rw [<- Array.foldl_toList]; simp
    have hlen:v.cells.toList.length=au (cellsOf a):=by simpa using k1
    have hc':Ch w S m ((v.cells.zipIdx.foldl (fun cs (x:Value×Nat)=>cs.setIfInBounds (off+x.2) x.1) vs)) (nV cs off (cellsOf a)):=by
     rw [e]
     refine ⟨by rw [f1,vT]; exact hc.len,fun j hj=>?_,fun j hj=>?_⟩
     ·rw [vT] at hj
      rw [f2,hlen,Nat.add_zero]
      split
      ·rw [yL]; exact k2 _ (by omega)
      ·exact hc.one _ hj
     ·rw [vT] at hj
      rw [f2,hlen,Nat.add_zero,KO _ _ _ _ (by omega)]
      split
      ·rw [yL]; exact k3 _ (by omega)
      ·exact hc.rel _ hj
    obtain ⟨vs',hv,hc''⟩:=ih vps _ _ _ (by simpa using hl) (fun j h h'=>by have:=hp (j+1) (by simpa using h) (by simpa using h'); simpa using this) hc' h
    refine ⟨vs',?_,hc''⟩
    have hcond:(v.cells.size≠size||off+v.cells.size > vs.size)=false:=by
     rw [k1,h1,hc.len]; simp; omega
    simp only [Instr.fill,hpl]
    rw [if_neg (by simpa using hcond)]
    exact hv
theorem abd (l:List Field) (i:Nat):yf T (l.map fun f=>(f.type,f.offset)) i=(l[i]?).map fun f=>(f.offset,(ag T f.type).sz):=by
 induction l generalizing i with
 | nil=>rfl
 | cons f l ih=>cases i with
  | zero=>rfl
  | succ i=>simpa [yf] using ih i
theorem abe {fs:List (Nat×Nat)} (h:Fj T fs=true) {x:Nat×Nat} (hx:x∈fs):1<=(ag T x.1).sz:=by
 induction fs with
 | nil=>simp at hx
 | cons a l ih =>
  obtain ⟨t,o⟩:=a
  simp only [Fj] at h
  split at h
  ·rename_i h1
   rcases List.mem_cons.1 hx with rfl | hx
   ·exact Nat.le_of_ble_eq_true h1
   ·exact ih h hx
  ·simp at h
theorem SN (place:Nat->Option (Nat×Nat)):∀ (ps:List (Nat×AV)) (cs cs':List AV),nW place cs ps=some cs'->au cs'=au cs:=by
 intro ps
 induction ps with
 | nil=>intro cs cs' h; simp [nW] at h; rw [h]
 | cons p ps ih =>
  intro cs cs' h
  obtain ⟨i,a⟩:=p
  simp only [nW] at h
  split at h
  ·simp at h
  ·split at h
   ·rw [ih _ _ h,vT]
   ·simp at h
def F6 (w:World) (S:Nat->Prop) (m:aY) (vps:Array (Nat×Value)) (ps:List (Nat×AV)):Prop :=
 vps.size=ps.length/\∀ j (h:j<ps.length) (h':j<vps.toList.length),vps.toList[j].1=ps[j].1/\Rel w S m vps.toList[j].2 ps[j].2
theorem abf (hT:bG P T):∀ (l:List Field),(∀ f∈l,1<=(ag T f.type).sz) ->
  (l.mapM (m:=Sem) fun f=>do pure (f.offset,<- sizeOf f.type)).run P w = .ok (l.map fun f=>(f.offset,(ag T f.type).sz)) w:=by
 intro l
 induction l with
 | nil=>intro _; rfl
 | cons f l ih =>
  intro h
  obtain ⟨_,i,z,g⟩:=hT.eO (h f (by simp))
  have hs:(sizeOf f.type).run P w = .ok (ag T f.type).sz w:=by simp [sizeOf,typeInfo,g.info,g.sz]
  simp only [List.mapM_cons,Sem.run_bind,hs,Result.andThen_ok,Sem.run_pure,ih (fun g hg=>h g (by simp [hg])),List.map_cons]
theorem abg (hT:bG P T) (hM:aV base w S m M) (t:TypeId) {vps:Array (Nat×Value)} {ps:List (Nat×AV)} (hp:F6 w S m vps ps) (hk:aG (ve T M t ps).ks) :
  cB base w S m P (ve T M t ps) (Instr.build t vps):=by
 unfold ve at hk ⊢
 split at hk
 ·rename_i fs htd
  obtain ⟨_,i,z,g⟩:=hT.bJ htd (by simp)
  have hd:=g.d; rw [htd] at hd
  obtain ⟨l,rfl,rfl,_⟩:=rq hd.symm
  split at hk
  case h_2=>exact (aH hk).elim
  rename_i cs hz hsz hf
  obtain ⟨z1,z2,z3⟩:=tC (w:=w) (S:=S) (m:=m) g hz
  have hsizes:=abf (w:=w) hT l.toList (fun f hf=>by
   have:=abe hsz (List.mem_map.2 ⟨f,hf,rfl⟩)
   exact this)
  obtain ⟨vs',hv,hc⟩:=F5 (yf T (l.toList.map fun f=>(f.type,f.offset))) ps vps.toList z.cells _ _ (by simpa using hp.1) hp.2 ⟨z1,z2,z3⟩ hf
  refine .val hM (v:=.agg vs') ?_ (.agg _ _ _ hc.len hc.one hc.rel)
  have hm:(l.mapM (m:=Sem) fun f=>do pure (f.offset,<- sizeOf f.type)).run P w = .ok (l.map fun f=>(f.offset,(ag T f.type).sz)) w:=by
   rw [Array.mapM_eq_mapM_toList,Sem.run_map,hsizes]
   simp only [Result.andThen]
   congr 1
   apply Array.ext'; simp
  have hpl:(fun i=>(l.map fun f=>(f.offset,(ag T f.type).sz))[i]?)=yf T (l.toList.map fun f=>(f.type,f.offset)):=by
   funext i; rw [abd]; simp
  simp only [Instr.build,Sem.run_bind,zeroValue,typeInfo,run_program,g.info,Result.andThen_ok,Sem.run_pure,g.zero,run_underlying g.und,hm,hpl,hv]
 ·rename_i n e htd
  obtain ⟨_,i,z,g⟩:=hT.bJ htd (by simp)
  have hd:=g.d; rw [htd] at hd
  have:=ou hd.symm; subst this
  split at hk
  case h_2=>exact (aH hk).elim
  rename_i cs hz hpos hf
  obtain ⟨_,ie,ze,ge⟩:=hT.eO (Nat.le_of_ble_eq_true hpos)
  obtain ⟨z1,z2,z3⟩:=tC (w:=w) (S:=S) (m:=m) g hz
  obtain ⟨vs',hv,hc⟩:=F5 _ ps vps.toList z.cells _ _ (by simpa using hp.1) hp.2 ⟨z1,z2,z3⟩ hf
  refine .val hM (v:=.agg vs') ?_ (.agg _ _ _ hc.len hc.one hc.rel)
  rw [ge.sz] at hv
  simp only [Instr.build,Sem.run_bind,zeroValue,sizeOf,typeInfo,run_program,g.info,ge.info,Result.andThen_ok,Sem.run_pure,g.zero,run_underlying g.und,hv]
 ·exact (aH hk).elim
theorem tJ (n:Nat) (z:List AV):au (pG n z)=n*au z:=by
 induction n with
 | zero=>simp [pG,au]
 | succ n ih=>rw [pG,kY,ih,Nat.add_mul]; omega
theorem SQ (n:Nat) (z:List AV) (i:Nat) (h:i<n*au z):nth (pG n z) i=nth z (i % au z):=by
 induction n generalizing i with
 | zero=>omega
 | succ n ih =>
  rw [pG,lS]
  split
  ·rename_i h1; rw [Nat.mod_eq_of_lt h1]
  ·rename_i h1
   rw [Nat.add_mul] at h
   rw [ih _ (by omega),Nat.mod_eq_sub_mod (Nat.le_of_not_lt h1)]
theorem cB.pO {ty:Option Ty} {z:List AV} {sz e n:Nat} {ks ks':List Bool} {x:Sem Value} (h:cB base w S m P ⟨.own (aB M) n,fI M (.rows e sz n fun _ j=>nth z j),ks,none⟩ x) :
  cB base w S m P ⟨(pO ty z sz M e n).1,(pO ty z sz M e n).2,ks',none⟩ x:=by
 unfold aT.pO
 split
 ·exact h
 ·split
  ·rename_i u _ _ y hsz hy
   have hsz:=Nat.eq_of_beq_eq_true hsz
   obtain ⟨q1,q2⟩:=qc hy
   subst hsz
   refine h.to rfl (by simp [vN]) (fun w' S' m' i l hB=>?_) (fun i hc=>?_) (fun w' S' m' v hm hv=>hv.Cc hm (by rw [jy,if_pos rfl]))
   ·simp only [jy] at hB ⊢
    split
    ·rename_i hi
     rw [if_pos hi] at hB
     refine bZ.typed hB rfl (by simp) fun i hi j hj=>?_
     rw [aaN _ _ _ _ _ hi]
     exact q2 j hj
    ·rename_i hi; rw [if_neg hi] at hB; exact hB
   ·simp only [jy] at hc ⊢
    split
    ·rename_i hi; rw [if_pos hi] at hc; cases hc
    ·rename_i hi; rw [if_neg hi] at hc; exact hc
  ·exact h
theorem abh (hT:bG P T) (hM:aV base w S m M) (t n:Nat) {vps:Array (Nat×Value)} {ps:List (Nat×AV)} (hp:F6 w S m vps ps) (hk:aG (vg T M t n ps).ks) :
  cB base w S m P (vg T M t n ps) (Instr.buildSlice t n vps):=by
 unfold vg at hk ⊢
 split at hk
 case h_3=>exact (aH hk).elim
 case h_1 =>
  rename_i e htd
  obtain ⟨_,_,_,g⟩:=hT.bJ htd (by simp)
  have hd:=g.d; rw [htd] at hd
  have:=fF hd.symm; subst this
  split at hk
  case h_2=>exact (aH hk).elim
  rename_i h1 h2 h3
  have h1:=Nat.le_of_ble_eq_true h1
  obtain ⟨_,ie,ze,ge⟩:=hT.eO h1
  have hvps:vps = #[]:=by have:=hp.1; simp at this; exact this
  subst hvps
  obtain ⟨ht,hm⟩:=hM.KD (.cells #[] e)
  refine ⟨.slice (some ⟨w.heap.size,0,none⟩) 0 0,_,_,_,?_,ht,hm,.emp _ _⟩
  simp [Instr.buildSlice,run_underlying g.und,sizeOf,typeInfo,ge.info,newRow,Instr.fill]
  rw [show ∀ f:Nat->Value,Array.map f (Array.range 0) = #[] from fun f=>Array.eq_empty_of_size_eq_zero (by simp)]
 rename_i n ps _ _ _ e htd _
 obtain ⟨_,_,_,g⟩:=hT.bJ htd (by simp)
 have hd:=g.d; rw [htd] at hd
 have:=fF hd.symm; subst this
 split at hk
 case h_2=>exact (aH hk).elim
 rename_i cs h1 h2 h3 h4 hf
 have h1:=Nat.le_of_ble_eq_true h1
 have h2:=Nat.le_of_ble_eq_true h2
 have h4:=Nat.eq_of_beq_eq_true h4
 obtain ⟨_,ie,ze,ge⟩:=hT.eO h1
 obtain ⟨z1,z2,z3⟩:=tC (w:=w) (S:=S) (m:=m) ge h3
 have hzpos:0<ze.cells.size:=by omega
 let cells0:Array Value:=(Array.range (n*ie.size)).map (ze.cells[· % ze.cells.size]!)
 have hc0:Ch w S m cells0 (pG n (ag T e).z):=by
  have hget:∀ i,i<n*au (ag T e).z->cells0.getD i Go.undef=ze.cells.getD (i % au (ag T e).z) Go.undef:=fun i hi=>by
   have hi':i<n*ie.size:=by rw [<- ge.sz,<- h4]; exact hi
   have hm:i % ze.cells.size<ze.cells.size:=Nat.mod_lt _ hzpos
   simp [cells0,hi',<- z1,hm]
  refine ⟨by rw [tJ]; simp [cells0]; rw [h4,ge.sz],fun i hi=>?_,fun i hi=>?_⟩
  ·rw [tJ] at hi
   rw [hget i hi]; exact z2 _ (Nat.mod_lt _ (by omega))
  ·rw [tJ] at hi
   rw [hget i hi,SQ _ _ _ hi]; exact z3 _ (Nat.mod_lt _ (by omega))
 obtain ⟨vs',hv,hc⟩:=F5 _ ps vps.toList cells0 _ _ (by simpa using hp.1) hp.2 hc0 hf
 have hlen:au cs=n*(ag T e).sz:=by
  have:=SN _ ps _ _ hf
  rw [this,tJ,h4]
 obtain ⟨ht,hm⟩:=hM.KD (.cells vs' e)
 have hlim:∀ i j,i<n->j<(ag T e).sz->i*(ag T e).sz+j<au cs:=fun i j hi hj=>by
  have:=fP (off:=j) (k:=1) hi (by omega:j+1<=(ag T e).sz); omega
 have hrun:(Instr.buildSlice t n vps).run P w = .ok (.slice (some ⟨w.heap.size,0,none⟩) n n) (w.alloc (.cells vs' e)):=by
  have hbig:¬ n*ie.size > 2 ^ 24:=by rw [<- ge.sz]; omega
  rw [ge.sz] at hv
  by_cases hn:n*ie.size=0
  ·have hn0:n=0:=by
    rcases Nat.mul_eq_zero.1 hn with h | h
    ·exact h
    ·have:=ge.sz; omega
   subst hn0
   have e0:cells0=(Array.range (0*ie.size)).map ((#[]:Array Value)[· % 0]!):=by simp [cells0]
   rw [e0] at hv
   simp [Instr.buildSlice,run_underlying g.und,sizeOf,typeInfo,ge.info,newRow] at hv ⊢
   rw [hv]
   simp
  ·have hn':¬ (n=0\/ie.size=0):=by intro h; rcases h with h | h <;> simp [h] at hn
   simp only [Instr.buildSlice,Sem.run_bind,run_underlying g.und,Result.andThen_ok,sizeOf,typeInfo,run_program,ge.info,Sem.run_pure,if_neg hbig,if_neg hn,zeroValue,ge.zero]
   have hv':Instr.fill (fun i=>some (i*ie.size,ie.size)) ((Array.range (n*ie.size)).map (ze.cells[· % ze.cells.size]!)) vps.toList=some vs':=hv
   simp only [hv']
   simp [newRow]
 split at hk
 case h_2 =>
  split at hk
  case h_2=>exact (aH hk).elim
  rename_i hsz1
  have hsz1:=Nat.eq_of_beq_eq_true hsz1
  have hln:n=au cs:=by rw [hlen,hsz1,Nat.mul_one]
  refine ⟨.slice (some ⟨w.heap.size,0,none⟩) n n,_,_,_,hrun,ht,hm,?_⟩
  refine .iq _ _ _ _ _ (fun j=>vs'.getD j Go.undef) (.inr rfl) (by unfold maxLen; have:n*1<=n*(ag T e).sz:=Nat.mul_le_mul_left _ h1; omega) hln (fun j hj=>⟨?_,hc.one _ hj⟩) fun j hj=>?_
  ·have hsz:=hc.len
   rw [Nat.zero_add]
   rw [cell_of_row _ _ _ vs' e (0,0) (Go.heap_alloc_new w _)]
   simp [show j<vs'.size by omega]
  ·exact (hc.rel _ hj).mono (fun _ h=>.inl h) (fun b hb=>Below.heap_alloc w _ b (hM.sb b hb)) _ (fun _ _ h=>h)
 rename_i hout
 refine ⟨.slice (some ⟨w.heap.size,0,none⟩) n n,_,_,_,hrun,ht,hm,?_⟩
 ·refine SK _ _ _ _ _ _ _ _ ?_
  refine .slice _ _ _ _ _ _ _ _ (fun i j=>vs'.getD (i*(ag T e).sz+j) Go.undef) (.inr rfl) (Nat.le_refl _) (by unfold maxLen; have:n*1<=n*(ag T e).sz:=Nat.mul_le_mul_left _ h1; omega) (fun _=>rfl) (fun i hi j hj=>⟨?_,?_⟩) (fun i hi j hj=>?_)
  ·have:=hlim i j hi hj
   have hsz:=hc.len
   rw [Nat.zero_add]
   rw [cell_of_row _ _ _ vs' e (0,0) (Go.heap_alloc_new w _)]
   simp [show i*(ag T e).sz+j<vs'.size by omega]
  ·exact hc.one _ (hlim i j hi hj)
  ·have h5:=hlim i j hi hj
   exact ((hc.rel _ h5).out (ow hout h5) []).mono (fun _ h=>.inl h) (fun b hb=>Below.heap_alloc w _ b (hM.sb b hb)) _ (fun _ _ h=>h)
theorem abj (hT:bG P T) (hM:aV base w S m M) (t n:Nat) {vps:Array (Nat×Value)} {ps:List (Nat×AV)} (hp:F6 w S m vps ps) (hk:aG (BH T M t n ps).ks) :
  cB base w S m P (BH T M t n ps) (Instr.buildSlice t n vps):=by
 unfold BH at hk ⊢
 split at hk
 case h_2=>exact (aH hk).elim
 rename_i e htd
 obtain ⟨_,_,_,g⟩:=hT.bJ htd (by simp)
 have hd:=g.d; rw [htd] at hd
 have:=fF hd.symm; subst this
 split at hk
 case h_2=>exact (aH hk).elim
 rename_i cs h1 h2 h3 h4 hf
 have h1:=Nat.le_of_ble_eq_true h1
 have h2:=Nat.le_of_ble_eq_true h2
 have h4:=Nat.eq_of_beq_eq_true h4
 obtain ⟨_,ie,ze,ge⟩:=hT.eO h1
 obtain ⟨z1,z2,z3⟩:=tC (w:=w) (S:=S) (m:=m) ge h3
 have hzpos:0<ze.cells.size:=by omega
 let cells0:Array Value:=(Array.range (n*ie.size)).map (ze.cells[· % ze.cells.size]!)
 have hc0:Ch w S m cells0 (pG n (ag T e).z):=by
  have hget:∀ i,i<n*au (ag T e).z->cells0.getD i Go.undef=ze.cells.getD (i % au (ag T e).z) Go.undef:=fun i hi=>by
   have hi':i<n*ie.size:=by rw [<- ge.sz,<- h4]; exact hi
   have hm:i % ze.cells.size<ze.cells.size:=Nat.mod_lt _ hzpos
   simp [cells0,hi',<- z1,hm]
  refine ⟨by rw [tJ]; simp [cells0]; rw [h4,ge.sz],fun i hi=>?_,fun i hi=>?_⟩
  ·rw [tJ] at hi
   rw [hget i hi]; exact z2 _ (Nat.mod_lt _ (by omega))
  ·rw [tJ] at hi
   rw [hget i hi,SQ _ _ _ hi]; exact z3 _ (Nat.mod_lt _ (by omega))
 obtain ⟨vs',hv,hc⟩:=F5 _ ps vps.toList cells0 _ _ (by simpa using hp.1) hp.2 hc0 hf
 have hlen:au cs=n*(ag T e).sz:=by
  have:=SN _ ps _ _ hf
  rw [this,tJ,h4]
 have hlim:∀ i j,i<n->j<(ag T e).sz->i*(ag T e).sz+j<au cs:=fun i j hi hj=>by
  have:=fP (off:=j) (k:=1) hi (by omega:j+1<=(ag T e).sz); omega
 have hrun:(Instr.buildSlice t n vps).run P w = .ok (.slice (some ⟨w.heap.size,0,none⟩) n n) (w.alloc (.cells vs' e)):=by
  have hbig:¬ n*ie.size > 2 ^ 24:=by rw [<- ge.sz]; omega
  rw [ge.sz] at hv
  by_cases hn:n*ie.size=0
  ·have hn0:n=0:=by
    rcases Nat.mul_eq_zero.1 hn with h | h
    ·exact h
    ·have:=ge.sz; omega
   subst hn0
   have e0:cells0=(Array.range (0*ie.size)).map ((#[]:Array Value)[· % 0]!):=by simp [cells0]
   rw [e0] at hv
   simp [Instr.buildSlice,run_underlying g.und,sizeOf,typeInfo,ge.info,newRow] at hv ⊢
   rw [hv]
   simp
  ·have hn':¬ (n=0\/ie.size=0):=by intro h; rcases h with h | h <;> simp [h] at hn
   simp only [Instr.buildSlice,Sem.run_bind,run_underlying g.und,Result.andThen_ok,sizeOf,typeInfo,run_program,ge.info,Sem.run_pure,if_neg hbig,if_neg hn,zeroValue,ge.zero]
   have hv':Instr.fill (fun i=>some (i*ie.size,ie.size)) ((Array.range (n*ie.size)).map (ze.cells[· % ze.cells.size]!)) vps.toList=some vs':=hv
   simp only [hv']
   simp [newRow]
 split at hk
 case h_2=>exact (aH hk).elim
 rename_i u hout hty
 split at hk
 case h_2=>exact (aH hk).elim
 rename_i l hsz hrows
 have hsz:=Nat.eq_of_beq_eq_true hsz
 obtain ⟨q1,q2,q3⟩:=Sv hrows
 have hcap:n<=maxLen:=by unfold maxLen; have:n*1<=n*(ag T e).sz:=Nat.mul_le_mul_left _ h1; omega
 let loc:Loc:=⟨w.heap.size,n,aW u,n,false,[]⟩
 obtain ⟨ht,hm⟩:=hM.alloc (.cells vs' e) loc (.bC e u l) rfl
  ⟨rfl,q1.symm,by show l.length<=n; omega,hcap,vs',Go.heap_alloc_new w _,by show vs'.size=n*aW u; rw [hc.len,hlen,hsz],fun i hi j hj=>by
   have hi':i<n:=by omega
   have h5:=hlim i j hi' (by rw [<- hsz]; exact hj)
   rw [hsz]
   refine ⟨hc.one _ h5,?_⟩
   have:=((hc.rel _ h5).out (ow hout h5) []).mono (w':=w.alloc (.cells vs' e)) (S':=S) (fun _ h=>h) (fun b hb=>Below.heap_alloc w _ b (hM.sb b hb)) [] (fun _ _ h=>h)
   have hle:=q3 i hi' j hj
   rw [hsz] at hle
   exact hle _ _ _ _ this⟩
 refine ⟨.slice (some ⟨w.heap.size,0,none⟩) n n,_,_,_,hrun,ht,hm,?_⟩
 exact .bz _ _ loc (by rw [<- hM.len]; simp) ⟨Nat.le_refl _,hcap⟩
theorem abk (z:Array Value) (n:Nat):(madeCells z n).size=n:=by simp [madeCells]
theorem abl (z:Array Value) (n i:Nat) (hi:i<n) (hz:0<z.size):(madeCells z n).getD i Go.undef=z.getD (i % z.size) Go.undef:=by
 have:=Nat.mod_lt i hz
 simp [madeCells,hi,this]
theorem abm (hT:bG P T) (hM:aV base w S m M) (t:TypeId) {vl vc:Value} {l c:AV} (hl:Rel w S m vl l) (hc:Rel w S m vc c) (hk:aG (FE ae T M t l c).ks) :
  cB base w S m P (FE ae T M t l c) (Instr.makeSlice t vl vc):=by
 unfold FE at hk ⊢
 split at hk
 case h_2=>exact (aH hk).elim
 rename_i e kl l kc c htd
 obtain ⟨_,_,_,g⟩:=hT.bJ htd (by simp)
 have hd:=g.d; rw [htd] at hd
 have:=fF hd.symm; subst this
 split at hk
 case h_2=>exact (aH hk).elim
 rename_i h1 h2 h3 h4
 have h2:=Nat.le_of_ble_eq_true h2
 have h3:=Nat.eq_of_beq_eq_true h3
 have h4:=Nat.le_of_ble_eq_true h4
 obtain ⟨_,ie,ze,ge⟩:=hT.eO h2
 obtain ⟨z1,z2,z3⟩:=tC (w:=w) (S:=S) (m:=m) ge h1
 have hk':0<=l/\l<=c/\c.toNat*(ag T e).bytes<=bD:=by simpa [aG,ae] using hk
 obtain ⟨k1,k2,k3⟩:=hk'
 obtain ⟨ln,rfl⟩:=Int.eq_ofNat_of_zero_le k1
 obtain ⟨cn,rfl⟩:=Int.eq_ofNat_of_zero_le (show 0<=c by omega)
 cases hl; cases hc
 have hroom:cn*(ag T e).bytes<=bD:=by simpa using k3
 unfold bD at hroom
 have hcn:cn<=140737488355328:=by have:cn*1<=cn*(ag T e).bytes:=Nat.mul_le_mul_left _ h4; omega
 have hbz:(ie.bytes:Int)*(cn:Int)<=281474976710656:=by
  rw [<- ge.lg,Int.mul_comm,<- Int.natCast_mul]
  exact Int.le_trans (Int.ofNat_le.2 hroom) (by decide)
 have hrun:=run_make (P:=P) w t e ie ze g.und ge.info ge.zero kl kc (ln:Int) (cn:Int) (by omega) (by omega) hbz (by omega)
 let loc:Loc:=⟨w.heap.size,cn,(ag T e).sz,ln,false,[]⟩
 have hzpos:0<ze.cells.size:=by omega
 have hin:∀ i j,i<cn->j<(ag T e).sz->i*(ag T e).sz+j<cn*ie.size:=fun i j hi hj=>by
  have:=fP (off:=j) (k:=1) hi (by omega:j+1<=(ag T e).sz); rw [<- ge.sz]; omega
 have hmod:∀ i j,j<(ag T e).sz->(i*(ag T e).sz+j) % ze.cells.size=j:=fun i j hj=>by
  rw [z1,h3,Nat.mul_comm,Nat.mul_add_mod]; exact Nat.mod_eq_of_lt hj
 obtain ⟨ht,hm⟩:=hM.alloc (.cells (madeCells ze.cells (cn*ie.size)) e) loc (.rows e (ag T e).sz ln fun _ j=>nth (ag T e).z j) rfl
  ⟨rfl,rfl,by show ln<=cn; omega,by show cn<=maxLen; unfold maxLen; omega,_,Go.heap_alloc_new w _,by rw [abk,<- ge.sz],fun i hi j hj=>by
   rw [abl _ _ _ (hin i j (by omega) hj) hzpos,hmod i j hj]
   refine ⟨z2 j (by omega),?_⟩
   have:=yH h1 (i:=j) (by omega)
   have hr:=Cg (w:=w.alloc (.cells (madeCells ze.cells (cn*ie.size)) e)) (S:=S) (m:=[]) ze.cells j (by omega)
   rw [<- ge.z] at hr; exact hr⟩
 refine cB.pO (ks:=[]) ?_
 refine ⟨.slice (some ⟨w.heap.size,0,none⟩) ln cn,_,_,_,?_,ht,hm,?_⟩
 ·simpa using hrun
 ·have:ae.toNat (ln:Int)=ln:=rfl
  rw [this]
  exact .own _ _ _ loc (by rw [<- hM.len]; simp) (Nat.le_refl _) ⟨by show ln<=cn; omega,by show cn<=maxLen; unfold maxLen; omega⟩
theorem abn (k:IntKind) (a b:Int) (k':IntKind):(Builtin.max2 (.int k a) (.int k' b)).run P w = .ok (.int k (ae.imax a b)) w:=rfl
theorem abo (k:IntKind) (a b:Int) (k':IntKind):(Builtin.min2 (.int k a) (.int k' b)).run P w = .ok (.int k (ae.jh a b)) w:=rfl
theorem abp (hM:aV base w S m M):∀ (l:List AV) (vl:List Value) (k:IntKind) (a:Int),(Lit.int k a).wf=true->vl.length=l.length ->
  (∀ i (h:i<l.length) (h':i<vl.length),Rel w S m vl[i] l[i])->aG (sI ae M k a l).ks->cB base w S m P (sI ae M k a l) (vl.foldlM Builtin.max2 (.int k a)):=by
 intro l
 induction l with
 | nil=>intro vl k a ha hl _ _; cases vl with
  | nil=>exact .val hM rfl (.int _ _ _ ha)
  | cons=>simp at hl
 | cons x l ih =>
  intro vl k a ha hl hr hk
  cases vl with
  | nil=>simp at hl
  | cons v vl =>
   have h0:=hr 0 (by simp) (by simp)
   simp only [List.getElem_cons_zero] at h0
   cases x <;> try exact (aH hk).elim
   rename_i k' b
   simp only [sI] at hk ⊢
   split at hk
   case h_2=>exact (aH hk).elim
   rename_i hkk
   have hkk:=of_decide_eq_true hkk; subst hkk
   cases h0 with
   | int _ _ _ hb =>
    obtain ⟨u,w',S',m',h1,h2⟩:=ih vl k (ae.imax a b) (by simp only [ae]; split <;> assumption) (by simpa using hl) (fun i h h'=>by have:=hr (i+1) (by simpa using h) (by simpa using h'); simpa using this) hk
    exact ⟨u,w',S',m',by simp only [List.foldlM_cons,Sem.run_bind,abn,Result.andThen_ok]; exact h1,h2⟩
theorem abq (hM:aV base w S m M):∀ (l:List AV) (vl:List Value) (k:IntKind) (a:Int),(Lit.int k a).wf=true->vl.length=l.length ->
  (∀ i (h:i<l.length) (h':i<vl.length),Rel w S m vl[i] l[i])->aG (sJ ae M k a l).ks->cB base w S m P (sJ ae M k a l) (vl.foldlM Builtin.min2 (.int k a)):=by
 intro l
 induction l with
 | nil=>intro vl k a ha hl _ _; cases vl with
  | nil=>exact .val hM rfl (.int _ _ _ ha)
  | cons=>simp at hl
 | cons x l ih =>
  intro vl k a ha hl hr hk
  cases vl with
  | nil=>simp at hl
  | cons v vl =>
   have h0:=hr 0 (by simp) (by simp)
   simp only [List.getElem_cons_zero] at h0
   cases x <;> try exact (aH hk).elim
   rename_i k' b
   simp only [sJ] at hk ⊢
   split at hk
   case h_2=>exact (aH hk).elim
   rename_i hkk
   have hkk:=of_decide_eq_true hkk; subst hkk
   cases h0 with
   | int _ _ _ hb =>
    obtain ⟨u,w',S',m',h1,h2⟩:=ih vl k (ae.jh a b) (by simp only [ae]; split <;> assumption) (by simpa using hl) (fun i h h'=>by have:=hr (i+1) (by simpa using h) (by simpa using h'); simpa using this) hk
    exact ⟨u,w',S',m',by simp only [List.foldlM_cons,Sem.run_bind,abo,Result.andThen_ok]; exact h1,h2⟩
end Go.aT
