/- The operations of the abstract machine are sound: append. -/
import Derived.Test.YtjkhncojgilbaaaGreatDoorEngG
import Derived.Lib.AppendZeros
import Derived.Laws.IdiomStrings
import Derived.Lib.AppendStr
namespace Go.aT
open Go Go.RowKit
variable {P:Program} {T:aX} {base:Env} {w:World} {S:Nat->Prop} {m:aY} {M:Mem}
theorem abr (hM:aV base w S m M) {sz k:Nat} {x:AV} {vx:Value} {d:Nat->Nat->AV} (hx:Rel w S m vx x) (h:content M sz x=some (k,d)) :
  (∃ a c,vx = .slice a k c)/\(0<k->∃ (b o c:Nat) (f:Nat->Nat->Value),vx = .slice (some ⟨b,o,none⟩) k c /\
   (∀ i,i<k->∀ j,j<sz->w.cell? ⟨b,o+i*sz+j,none⟩=some (f i j)/\(f i j).oneCell'=true)/\∀ i,i<k->∀ j,j<sz->Rel w S [] (f i j) (d i j)):=by
 unfold content at h
 split at h
 ·split at h
  case h_2=>simp at h
  rename_i hsz
  have hsz:=Nat.eq_of_beq_eq_true hsz; subst hsz
  injection h with h; injection h with h1 h2; subst h1 h2
  cases hx with
  | slice _ b o _ _ cap _ _ f hs hn hcap hf hc hr=>exact ⟨⟨_,_,rfl⟩,fun _=>⟨b,o,cap,f,rfl,hc,hr⟩⟩
  | dL=>exact ⟨⟨_,_,rfl⟩,fun h=>by omega⟩
 ·injection h with h; injection h with h1 h2; subst h1 h2
  cases hx; exact ⟨⟨_,_,rfl⟩,fun h=>by omega⟩
 ·injection h with h; injection h with h1 h2; subst h1 h2
  cases hx; exact ⟨⟨_,_,rfl⟩,fun h=>by omega⟩
 ·rename_i b lo n
  split at h
  case h_2=>simp at h
  rename_i e sz' n' c hb
  split at h
  case h_2=>simp at h
  rename_i hsz
  have hsz:=Nat.eq_of_beq_eq_true hsz; subst hsz
  injection h with h; injection h with h1 h2; subst h1 h2
  cases hx with
  | tail _ a _ _ _ cp hn h =>
   refine ⟨⟨_,_,rfl⟩,fun hp=>?_⟩
   obtain ⟨l,h0,rfl,hle⟩:=h hp
   have hB:=eX hM h0
   rw [hb] at hB
   obtain ⟨k1,k2,k3,k4,vs,k5,k6,k7⟩:=hB
   refine ⟨l.g,lo*l.sz,cp,fun i j=>vs.getD ((lo+i)*sz+j) Go.undef,rfl,fun i hi j hj=>⟨?_,(k7 (lo+i) (by omega) j hj).1⟩,fun i hi j hj=>(k7 (lo+i) (by omega) j hj).2⟩
   rw [k1,<- Nat.add_mul]
   refine iB k5 ?_
   have:=fP (off:=j) (k:=1) (show lo+i<n' by omega) (show j+1<=sz by omega)
   have h8:n'*sz<=l.cap*sz:=Nat.mul_le_mul_right _ k3
   omega
 ·rename_i b n
  split at h
  case h_2=>simp at h
  rename_i e sz' n' c hb
  split at h
  case h_2=>simp at h
  rename_i hsz
  have hsz:=Nat.eq_of_beq_eq_true hsz; subst hsz
  injection h with h; injection h with h1 h2; subst h1 h2
  cases hx with
  | eZ=>exact ⟨⟨_,_,rfl⟩,fun h=>by omega⟩
  | own _ _ _ l h0 hn hc =>
   have hB:=eX hM h0
   rw [hb] at hB
   obtain ⟨k1,k2,k3,k4,vs,k5,k6,k7⟩:=hB
   refine ⟨⟨_,_,rfl⟩,fun _=>⟨l.g,0,l.cap,fun i j=>vs.getD (i*sz+j) Go.undef,rfl,fun i hi j hj=>⟨?_,(k7 i (by omega) j hj).1⟩,fun i hi j hj=>(k7 i (by omega) j hj).2⟩⟩
   rw [Nat.zero_add]
   refine iB k5 ?_
   have:=fP (off:=j) (k:=1) (show i<n' by omega) (show j+1<=sz by omega)
   have h8:n'*sz<=l.cap*sz:=Nat.mul_le_mul_right _ k3
   omega
 ·simp at h
def fC (sz k:Nat) (f:Nat->Nat->Value):List Value:=(List.range (k*sz)).map fun q=>f (q / sz) (q % sz)
theorem ig (sz k:Nat) (f:Nat->Nat->Value):(fC sz k f).length=k*sz:=by simp [fC]
theorem SS {sz i j:Nat} (hj:j<sz):(i*sz+j) / sz=i/\(i*sz+j) % sz=j:=by
 have hp:0<sz:=by omega
 constructor
 ·rw [Nat.mul_comm,Nat.mul_add_div hp,Nat.div_eq_of_lt hj,Nat.add_zero]
 ·rw [Nat.mul_comm,Nat.mul_add_mod,Nat.mod_eq_of_lt hj]
theorem F7 {sz k:Nat} {f:Nat->Nat->Value} {i j:Nat} (hi:i<k) (hj:j<sz):(fC sz k f).getD (i*sz+j) Go.undef=f i j:=by
 have hlt:i*sz+j<k*sz:=by have:=fP (off:=j) (k:=1) hi (show j+1<=sz by omega); omega
 obtain ⟨h1,h2⟩:=SS (i:=i) hj
 simp [fC,List.getD,hlt,h1,h2]
theorem KW {sz k:Nat} {f:Nat->Nat->Value} {q:Nat} {v:Value} (h:(fC sz k f)[q]? = some v):∃ i j,i<k/\j<sz/\q=i*sz+j/\v=f i j:=by
 have hlt:q<k*sz:=by have:=(List.getElem?_eq_some_iff.1 h).1; rwa [ig] at this
 have hsz:0<sz:=by
  rcases Nat.eq_zero_or_pos sz with e | e
  ·subst e; simp at hlt
  ·exact e
 refine ⟨q / sz,q % sz,Nat.div_lt_of_lt_mul (by rw [Nat.mul_comm]; exact hlt),Nat.mod_lt _ hsz,by rw [Nat.mul_comm]; exact (Nat.div_add_mod q sz).symm,?_⟩
 simp [fC,hlt] at h
 exact h.symm
theorem abt {w:World} {t ty e:TypeId} {i:TypeInfo} (ht:P.underlying t=some (.slice e)) (hi:P.info? e=some i) {g n cap:Nat} {vs:Array Value} {fz:Nat×Nat} (hf:tH fz vs.size) (hg:w.heap[g]? = some (.cells vs e fz))
  {a:Addr} {k c:Nat} {l:List Value} (hl:l.length=k*i.size) (hc:∀ j u,l[j]? = some u->w.cell? (a.add j)=some u) (h1:∀ u∈l,u.oneCell'=true) (hroom:n+k<=cap) (hfit:n*i.size+l.length<=vs.size) :
  (Builtin.append_ #[t,t] ty #[.slice (some ⟨g,0,none⟩) n cap,.slice (some a) k c]).run P w = .ok (.slice (some ⟨g,0,none⟩) (n+k) cap) (w.setRow g (gN vs (n*i.size) l)):=by
 have h2:=run_firstCells_some (P:=P) w i.size k a k c l hl hc
 have h3:=F4 P g (n*i.size) e l 0 vs w hf hg (by simpa using hfit) h1
 rw [Nat.add_zero] at h3
 simp [Builtin.append_,run_underlying ht,sizeOf,typeInfo,hi,Builtin.lenOf,hroom,h2,Addr.add_lit,h3,gN]
theorem Ci (t ty e:TypeId) (i:TypeInfo) (ht:P.underlying t=some (.slice e)) (hi:P.info? e=some i) (b a:Option Addr) (n c c':Nat) (hn:n<=c) :
  (Builtin.append_ #[t,t] ty #[.slice b n c,.slice a 0 c']).run P w = .ok (.slice b n c) w:=by
 cases a <;> cases b <;> simp [Builtin.append_,run_underlying ht,sizeOf,typeInfo,hi,Builtin.lenOf,hn,Builtin.firstCells,loadCells,loadCellsFrom,storeCells]
structure SV (sz n k cp:Nat) (arr:Array Value) (f0 f:Nat->Nat->Value):Prop where
 size:arr.size=cp*sz
 cap:n+k<=cp
 vV:cp<=maxLen
 old:∀ i j,i<n->j<sz->arr.getD (i*sz+j) Go.undef=f0 i j
 new:∀ i j,i<k->j<sz->arr.getD ((n+i)*sz+j) Go.undef=f i j
theorem Cj (n k old:Nat) (e:TypeId) (sz:Nat) (z:Value) (hz:z.cells.size=sz) (f0 f:Nat->Nat->Value) (h:n+k<=140737488355328) :
  SV sz n k (grownCap w (n+k) old e) ((fC sz n f0).toArray++(fC sz k f).toArray++Builtin.zeroCells z.cells (grownCap w (n+k) old e-(n+k))) f0 f:=by
 have hge:=grownCap_ge w (n+k) old e
 refine ⟨?_,hge,grownCap_le_maxLen w (n+k) old e (by unfold maxLen; omega),fun i j hi hj=>?_,fun i j hi hj=>?_⟩
 ·simp only [Array.size_append,List.size_toArray,ig,size_zeroCells,hz,<- Nat.add_mul]
  congr 1; omega
 ·have hlt:i*sz+j<n*sz:=by have:=fP (off:=j) (k:=1) hi (show j+1<=sz by omega); omega
  have:=F7 (f:=f0) hi hj
  simp only [Array.getD_eq_getD_getElem?]
  rw [Array.getElem?_append_left (by simp [ig]; omega),Array.getElem?_append_left (by simp [ig]; exact hlt)]
  simpa [List.getD] using this
 ·have hlt:i*sz+j<k*sz:=by have:=fP (off:=j) (k:=1) hi (show j+1<=sz by omega); omega
  have:=F7 (f:=f) hi hj
  simp only [Array.getD_eq_getD_getElem?]
  rw [Nat.add_mul]
  rw [Array.getElem?_append_left (by simp [ig]; omega),Array.getElem?_append_right (by simp [ig]; omega)]
  simp only [List.size_toArray,ig]
  rw [show n*sz+i*sz+j-n*sz=i*sz+j from by omega]
  simpa [List.getD] using this
theorem oC {sz k:Nat} {f:Nat->Nat->Value} {b o:Nat} (hc:∀ i,i<k->∀ j,j<sz->w.cell? ⟨b,o+i*sz+j,none⟩=some (f i j)/\(f i j).oneCell'=true) :
  ∀ (q:Nat) (u:Value),(fC sz k f)[q]? = some u->w.cell? ((⟨b,o,none⟩:Addr).add q)=some u:=fun q u hq=>by
 obtain ⟨i,j,hi,hj,rfl,rfl⟩:=KW hq
 rw [addr_add,<- Nat.add_assoc]; exact (hc i hi j hj).1
theorem F8 (sz:Nat) (f:Nat->Nat->Value):fC sz 0 f=[]:=by simp [fC]
theorem yM {n i j:Nat} {c d:Nat->Nat->AV} (h:i<n):kC n c d i j=c i j:=by simp [kC,h]
theorem F9 {n i j:Nat} {c d:Nat->Nat->AV}:kC n c d (n+i) j=d i j:=by
 have:¬ n+i<n:=by omega
 simp [kC,this]
theorem yN (hT:bG P T) (hM:aV base w S m M) (t ty:TypeId) {vs vx:Value} {s x:AV} (hs:Rel w S m vs s) (hx:Rel w S m vx x) (hk:aG (qR ae T M t s x).ks) :
  cB base w S m P (qR ae T M t s x) (Builtin.append_ #[t,t] ty #[vs,vx]):=by
 unfold qR at hk ⊢
 split at hk
 case h_2=>exact (aH hk).elim
 rename_i e htd
 obtain ⟨_,_,_,g⟩:=hT.bJ htd (by simp)
 have hd:=g.d; rw [htd] at hd
 have:=fF hd.symm; subst this
 split at hk
 case h_2=>exact (aH hk).elim
 rename_i k d hcon
 obtain ⟨⟨ax,cx,rfl⟩,hcells⟩:=abr hM hx hcon
 split at hk
 ·
  rename_i h1 h2
  have h1:=Nat.le_of_ble_eq_true h1
  have h2:=Nat.le_of_ble_eq_true h2
  obtain ⟨_,ie,ze,ge⟩:=hT.eO h1
  cases hs
  have hroom:k*(ag T e).bytes<=bD:=by simpa [aG,ae] using hk
  unfold bD at hroom
  have hk47:k<=140737488355328:=by have:k*1<=k*(ag T e).bytes:=Nat.mul_le_mul_left _ h2; omega
  by_cases hk0:k=0
  ·subst hk0
   have hrun:=Ci (P:=P) (w:=w) t ty e ie g.und ge.info none ax 0 0 cx (Nat.le_refl _)
   obtain ⟨ht,hm⟩:=hM.FU (.rows e (ag T e).sz 0 d) rfl
   exact ⟨_,_,_,_,hrun,ht,hm,.eZ _ _ _ (by rw [<- hM.len]; simp)⟩
  ·obtain ⟨b,o,c,f,hv,hc,hr⟩:=hcells (by omega)
   injection hv with hv1 hv2 hv3; subst hv1 hv3
   have hnews:∀ q u,(fC ie.size k f)[q]? = some u->w.cell? ((⟨b,o,none⟩:Addr).add q)=some u:=fun q u hq=>by
    rw [<- ge.sz] at hq
    obtain ⟨i,j,hi,hj,rfl,rfl⟩:=KW hq
    rw [addr_add,<- Nat.add_assoc]; exact (hc i hi j hj).1
   have hrun:=run_append_nil (P:=P) w t ty e ie ze g.und ge.info ge.zero ⟨b,o,none⟩ k cx (fC ie.size k f) (ig _ _ _) hnews (by omega) (by omega) (by rw [<- ge.lg]; omega)
   let cap:=grownCap w k 0 e
   have hcap1:k<=cap:=grownCap_ge w k 0 e
   have hcap2:cap<=maxLen:=grownCap_le_maxLen w k 0 e (by unfold maxLen; omega)
   let arr:Array Value:=(fC ie.size k f).toArray++Builtin.zeroCells ze.cells (cap-k)
   have harr:arr.size=cap*(ag T e).sz:=by
    simp only [arr,Array.size_append,List.size_toArray,ig,size_zeroCells,ge.sZ,ge.sz,<- Nat.add_mul]
    congr 1; omega
   have hget:∀ i j,i<k->j<(ag T e).sz->arr.getD (i*(ag T e).sz+j) Go.undef=f i j:=fun i j hi hj=>by
    have hlt:i*(ag T e).sz+j<k*(ag T e).sz:=by have:=fP (off:=j) (k:=1) hi (show j+1<=(ag T e).sz by omega); omega
    have:=F7 (f:=f) hi hj
    simp only [arr,<- ge.sz,Array.getD_eq_getD_getElem?]
    rw [Array.getElem?_append_left (by simp [ig]; exact hlt)]
    simpa [List.getD] using this
   let loc:Loc:=⟨w.heap.size,cap,(ag T e).sz,k,false,[]⟩
   have hMd:aV base w.drew S m M:=hM.drew
   obtain ⟨ht,hm⟩:=hMd.alloc (.cells arr e) loc (.rows e (ag T e).sz k d) rfl
    ⟨rfl,rfl,hcap1,hcap2,arr,Go.heap_alloc_new w.drew _,harr,fun i hi j hj=>by
     rw [hget i j hi hj]
     exact ⟨(hc i hi j hj).2,Rel.mono (w:=w) (fun _ h=>h) (fun b hb=>Below.heap_alloc w.drew _ b (hM.sb b hb)) (hr i hi j hj) _ (fun _ _ h=>h)⟩⟩
   exact ⟨_,_,_,_,hrun,ht.FT,hm,.own _ _ _ loc (by rw [<- hM.len]; simp) (Nat.le_refl _) ⟨hcap1,hcap2⟩⟩
 ·
  rename_i h1 h2
  have h1:=Nat.le_of_ble_eq_true h1
  have h2:=Nat.le_of_ble_eq_true h2
  obtain ⟨_,ie,ze,ge⟩:=hT.eO h1
  cases hs with
  | emp _ a0 =>
  have hroom:k*(ag T e).bytes<=bD:=by simpa [aG,ae] using hk
  unfold bD at hroom
  have hk47:k<=140737488355328:=by have:k*1<=k*(ag T e).bytes:=Nat.mul_le_mul_left _ h2; omega
  by_cases hk0:k=0
  ·subst hk0
   have hrun:=Ci (P:=P) (w:=w) t ty e ie g.und ge.info a0 ax 0 0 cx (Nat.le_refl _)
   obtain ⟨ht,hm⟩:=hM.FU (.rows e (ag T e).sz 0 d) rfl
   exact ⟨_,_,_,_,hrun,ht,hm,.eZ _ _ _ (by rw [<- hM.len]; simp)⟩
  ·obtain ⟨b,o,c,f,hv,hc,hr⟩:=hcells (by omega)
   injection hv with hv1 hv2 hv3; subst hv1 hv3
   rw [show (ag T e).sz=ie.size from ge.sz] at hc hr ⊢
   have hna:=Cj (w:=w) 0 k 0 e ie.size ze ge.sZ (fun _ _=>Go.undef) f (by omega)
   simp only [F8,Nat.zero_add,Array.empty_append] at hna
   have hrun:(Builtin.append_ #[t,t] ty #[.slice a0 0 0,.slice (some ⟨b,o,none⟩) k cx]).run P w = .ok (.slice (some ⟨w.heap.size,0,none⟩) k (grownCap w k 0 e)) (w.drew.alloc (.cells ((fC ie.size k f).toArray++Builtin.zeroCells ze.cells (grownCap w k 0 e-k)) e)):=by
    cases a0 with
    | none=>exact run_append_nil (P:=P) w t ty e ie ze g.und ge.info ge.zero ⟨b,o,none⟩ k cx (fC ie.size k f) (ig _ _ _) (oC hc) (by omega) (by omega) (by rw [<- ge.lg]; omega)
    | some a1 =>
     have hrun:=run_append_grow (P:=P) w t ty e ie ze g.und ge.info ge.zero a1 0 0 [] (by simp) (by simp) ⟨b,o,none⟩ k cx (fC ie.size k f) (ig _ _ _) (oC hc) (by omega) (by omega)
      (growslice_fits (by omega) (by rw [<- ge.lg]; rw [Nat.zero_add]; exact hroom))
     simpa using hrun
   let loc:Loc:=⟨w.heap.size,grownCap w k 0 e,ie.size,k,false,[]⟩
   have hMd:aV base w.drew S m M:=hM.drew
   obtain ⟨ht,hm⟩:=hMd.alloc (.cells ((fC ie.size k f).toArray++Builtin.zeroCells ze.cells (grownCap w k 0 e-k)) e) loc (.rows e ie.size k d) rfl
    ⟨rfl,rfl,by simpa using hna.cap,hna.vV,_,Go.heap_alloc_new w.drew _,hna.size,fun i hi j hj=>by
     have:=hna.new i j hi hj
     rw [Nat.zero_add] at this
     rw [this]
     exact ⟨(hc i hi j hj).2,Rel.mono (w:=w) (fun _ h=>h) (fun b hb=>Below.heap_alloc w.drew _ b (hM.sb b hb)) (hr i hi j hj) _ (fun _ _ h=>h)⟩⟩
   exact ⟨_,_,_,_,hrun,ht.FT,hm,.own _ _ _ loc (by rw [<- hM.len]; simp) (Nat.le_refl _) ⟨by simpa using hna.cap,hna.vV⟩⟩
 ·
  rename_i b n h1 h2
  have h1:=Nat.le_of_ble_eq_true h1
  have h2:=Nat.le_of_ble_eq_true h2
  obtain ⟨_,ie,ze,ge⟩:=hT.eO h1
  split at hk
  case h_2=>exact (aH hk).elim
  rename_i e' sz n' c hb
  split at hk
  case h_2=>exact (aH hk).elim
  rename_i he hsz
  have he:=Nat.eq_of_beq_eq_true he; subst he
  have hsz:=Nat.eq_of_beq_eq_true hsz
  have hroom:(n+k)*(ag T e).bytes<=bD:=by simpa [aG,ae] using hk
  unfold bD at hroom
  have hk47:n+k<=140737488355328:=by have:(n+k)*1<=(n+k)*(ag T e).bytes:=Nat.mul_le_mul_left _ h2; omega
  have eadd:ae.jH n k=n+k:=rfl
  rw [eadd]
  have hbk:∀ l,m[b]? = some l->bZ w S m l (.rows e sz n' c):=fun l hl=>by have:=hM.bk b l hl; rw [hb] at this; exact this
  cases hs with
  | eZ _ a0 _ h0 =>
   by_cases hk0:k=0
   ·subst hk0
    have hrun:=Ci (P:=P) (w:=w) t ty e ie g.und ge.info a0 ax 0 0 cx (Nat.le_refl _)
    obtain ⟨ht,hm⟩:=hM.move b none h0 none (.rows e sz (0+0) (kC 0 c d)) (by rw [hb]; rfl) (bX.refl _ _) (fun _ _ _=>rfl) (fun l₂ h=>by simp at h) rfl
    exact ⟨_,_,_,_,hrun,ht,hm,.eZ _ _ _ (List.getElem?_set_self (by rw [hM.len]; exact mi M b (by rw [hb]; simp)))⟩
   ·obtain ⟨bb,o,c',f,hv,hc,hr⟩:=hcells (by omega)
    injection hv with hv1 hv2 hv3; subst hv1 hv3
    rw [show (ag T e).sz=ie.size from ge.sz] at hc hr hsz
    have hroom':k*ie.bytes<=281474976710656:=by rw [<- ge.lg]; rw [Nat.zero_add] at hroom; omega
    have hrun:(Builtin.append_ #[t,t] ty #[.slice a0 0 0,.slice (some ⟨bb,o,none⟩) k cx]).run P w = .ok (.slice (some ⟨w.heap.size,0,none⟩) k (grownCap w k 0 e)) (w.drew.alloc (.cells ((fC ie.size k f).toArray++Builtin.zeroCells ze.cells (grownCap w k 0 e-k)) e)):=by
     cases a0 with
     | none=>exact run_append_nil (P:=P) w t ty e ie ze g.und ge.info ge.zero ⟨bb,o,none⟩ k cx (fC ie.size k f) (ig _ _ _) (oC hc) (by omega) (by omega) hroom'
     | some a1 =>
      have hrun:=run_append_grow (P:=P) w t ty e ie ze g.und ge.info ge.zero a1 0 0 [] (by simp) (by simp) ⟨bb,o,none⟩ k cx (fC ie.size k f) (ig _ _ _) (oC hc) (by omega) (by omega)
       (growslice_fits (by omega) (by rw [<- ge.lg]; exact hroom))
      simpa using hrun
    have hna:=Cj (w:=w) 0 k 0 e ie.size ze ge.sZ (fun _ _=>Go.undef) f (by omega)
    simp only [F8,Nat.zero_add,Array.empty_append] at hna
    subst hsz
    have hbel:bX base.Z w (w.drew.alloc (.cells ((fC ie.size k f).toArray++Builtin.zeroCells ze.cells (grownCap w k 0 e-k)) e)):=((bX.refl base.Z w).drew).alloc hM.fu _
    obtain ⟨ht,hm⟩:=hM.move b none h0 (some ⟨w.heap.size,grownCap w k 0 e,ie.size,0+k,false,[]⟩) (.rows e ie.size (0+k) (kC 0 c d)) (by rw [hb]; rfl) hbel (fun b hb _=>Below.heap_alloc w.drew _ b hb)
     (fun l₂ h=>by injection h with h; subst h; exact ⟨.inr (Nat.le_refl _),by simp⟩)
     ⟨rfl,rfl,by simpa using hna.cap,hna.vV,_,Go.heap_alloc_new w.drew _,hna.size,fun i hi j hj=>by
      have hi':i<k:=by omega
      have:=hna.new i j hi' hj
      rw [Nat.zero_add] at this
      rw [this]
      have e2:kC 0 c d i j=d i j:=by simp [kC]
      rw [e2]
      exact ⟨(hc i hi' j hj).2,Rel.mono (w:=w) (fun _ h=>h) (fun b hb=>Below.heap_alloc w.drew _ b (hM.sb b hb)) (hr i hi' j hj) _ (fun _ _ h=>h)⟩⟩
    refine ⟨_,_,_,_,hrun,ht,hm,?_⟩
    have:=Rel.own (w:=(w.drew.alloc (.cells ((fC ie.size k f).toArray++Builtin.zeroCells ze.cells (grownCap w k 0 e-k)) e))) (S:=S) (m.set b (some ⟨w.heap.size,grownCap w k 0 e,ie.size,0+k,false,[]⟩)) b (0+k) ⟨w.heap.size,grownCap w k 0 e,ie.size,0+k,false,[]⟩ (List.getElem?_set_self (by rw [hM.len]; exact mi M b (by rw [hb]; simp))) (Nat.le_refl _) ⟨by simpa using hna.cap,hna.vV⟩
    simpa using this
  | own _ _ _ l h0 hn hcap =>
   obtain ⟨rfl,rfl,q1',q2,vs,q3,q4,q5⟩:=hbk _ h0
   have q1:n<=l.cap:=Nat.le_trans hn q1'
   have hbm:b<m.length:=by rw [hM.len]; exact mi M b (by rw [hb]; simp)
   have hself:∀ x:Option Loc,(m.set b x)[b]? = some x:=fun x=>List.getElem?_set_self hbm
   have hl:=hM.lt _ _ h0
   have hfit:n*l.sz<=vs.size:=by rw [q4]; exact Nat.mul_le_mul_right _ q1
   by_cases hk0:k=0
   ·subst hk0
    have hrun:=Ci (P:=P) (w:=w) t ty e ie g.und ge.info (some ⟨l.g,0,none⟩) ax n l.cap cx q1
    obtain ⟨ht,hm⟩:=hM.move b (some l) h0 (some ⟨l.g,l.cap,l.sz,n+0,l.st,[]⟩) (.rows e l.sz (n+0) (kC n c d)) (by rw [hb]; rfl) (bX.refl _ _) (fun _ _ _=>rfl)
     (fun l₂ h=>by injection h with h; subst h; exact ⟨.inl ⟨l,rfl,rfl⟩,hl.2.1⟩)
     ⟨rfl,rfl,q1,q2,vs,q3,q4,fun i hi j hj=>by rw [yM (by omega)]; exact q5 i (by omega) j hj⟩
    exact ⟨_,_,_,_,hrun,ht,hm,.own _ b (n+0) ⟨l.g,l.cap,l.sz,n+0,l.st,[]⟩ (hself _) (Nat.le_refl _) ⟨q1,q2⟩⟩
   ·obtain ⟨bb,o,c',f,hv,hc,hr⟩:=hcells (by omega)
    injection hv with hv1 hv2 hv3; subst hv1 hv3
    rw [<- hsz] at hc hr
    have hsi:l.sz=ie.size:=hsz.trans ge.sz
    by_cases hrm:n+k<=l.cap
    ·have hle:(n+k)*l.sz<=vs.size:=by rw [q4]; exact Nat.mul_le_mul_right _ hrm
     rw [Nat.add_mul] at hle
     have hrun:=abt (P:=P) (ty:=ty) g.und ge.info (Loc.F3 q4) q3 (a:=⟨bb,o,none⟩) (k:=k) (c:=cx) (n:=n) (cap:=l.cap) (l:=fC l.sz k f) (by rw [ig,hsi]) (oC hc)
      (fun u hu=>by obtain ⟨q,hq⟩:=List.getElem?_of_mem hu; obtain ⟨i,j,hi,hj,_,rfl⟩:=KW hq; exact (hc i hi j hj).2) hrm (by rw [ig,<- hsi]; exact hle)
     rw [<- hsi] at hrun
     change _=Result.ok _ (w.setRow l.g (gN vs (n*l.sz) (fC l.sz k f))) at hrun
     have hseg:n*l.sz+(fC l.sz k f).length<=vs.size:=by rw [ig]; exact hle
     have hst:∀ x,x<w.heap.size->x≠l.g->(w.setRow l.g (gN vs (n*l.sz) (fC l.sz k f))).heap[x]? = w.heap[x]?:=fun x _ hne=>setRow_other w l.g x _ hne
     have hS:∀ x,S x->(w.setRow l.g (gN vs (n*l.sz) (fC l.sz k f))).heap[x]? = w.heap[x]?:=fun x hx=>hst x (hM.sb x hx) (fun e=>hl.2.2 (e▸hx))
     obtain ⟨ht,hm⟩:=hM.move b (some l) h0 (some ⟨l.g,l.cap,l.sz,n+k,l.st,[]⟩) (.rows e l.sz (n+k) (kC n c d)) (by rw [hb]; rfl) (yK l.g _ hl.1) (fun x hx hne=>hst x hx (hne l rfl))
      (fun l₂ h=>by injection h with h; subst h; exact ⟨.inl ⟨l,rfl,rfl⟩,by simpa using hl.2.1⟩)
      ⟨rfl,rfl,hrm,q2,_,setRow_heap w l.g vs _ e _ q3,by rw [yJ _ _ _ hseg]; exact q4,fun i hi j hj=>by
       rw [tF _ _ _ hseg,ig]
       by_cases hin:i<n
       ·have:=fP (off:=j) (k:=1) hin (show j+1<=l.sz by omega)
        rw [if_neg (by omega),yM hin]
        have:=q5 i (by omega) j hj
        exact ⟨this.1,this.2.mono (fun _ h=>h) hS _ (fun _ _ h=>h)⟩
       ·obtain ⟨r,rfl⟩:∃ r,i=n+r:=⟨i-n,by omega⟩
        have hr':r<k:=by omega
        have:=fP (off:=j) (k:=1) hr' (show j+1<=l.sz by omega)
        rw [F9,Nat.add_mul,if_pos (by omega),show n*l.sz+r*l.sz+j-n*l.sz=r*l.sz+j from by omega,F7 hr' hj]
        exact ⟨(hc r hr' j hj).2,(hr r hr' j hj).mono (fun _ h=>h) hS _ (fun _ _ h=>h)⟩⟩
     exact ⟨_,_,_,_,hrun,ht,hm,.own _ b (n+k) ⟨l.g,l.cap,l.sz,n+k,l.st,[]⟩ (hself _) (Nat.le_refl _) ⟨hrm,q2⟩⟩
    ·have hold:∀ i,i<n->∀ j,j<l.sz->w.cell? ⟨l.g,0+i*l.sz+j,none⟩=some (vs.getD (i*l.sz+j) Go.undef)/\(vs.getD (i*l.sz+j) Go.undef).oneCell'=true:=fun i hi j hj=>by
      have:=fP (off:=j) (k:=1) hi (show j+1<=l.sz by omega)
      rw [Nat.zero_add]
      exact ⟨iB q3 (by omega),(q5 i (by omega) j hj).1⟩
     have hrun:=run_append_grow (P:=P) w t ty e ie ze g.und ge.info ge.zero ⟨l.g,0,none⟩ n l.cap (fC l.sz n fun i j=>vs.getD (i*l.sz+j) Go.undef) (by rw [ig,hsi]) (oC hold)
      ⟨bb,o,none⟩ k cx (fC l.sz k f) (by rw [ig,hsi]) (oC hc) (by omega) (by omega) (growslice_fits (by omega) (by rw [<- ge.lg]; exact hroom))
     have hna:=Cj (w:=w) n k l.cap e l.sz ze (ge.sZ.trans hsi.symm) (fun i j=>vs.getD (i*l.sz+j) Go.undef) f (by omega)
     generalize hA:(fC l.sz n fun i j=>vs.getD (i*l.sz+j) Go.undef).toArray++(fC l.sz k f).toArray++Builtin.zeroCells ze.cells (grownCap w (n+k) l.cap e-(n+k))=arr at hrun hna
     have hbel:bX base.Z w (w.drew.alloc (.cells arr e)):=((bX.refl base.Z w).drew).alloc hM.fu _
     have hS:∀ x,S x->(w.drew.alloc (.cells arr e)).heap[x]? = w.heap[x]?:=fun x hx=>Below.heap_alloc w.drew _ x (hM.sb x hx)
     obtain ⟨ht,hm⟩:=hM.move b (some l) h0 (some ⟨w.heap.size,grownCap w (n+k) l.cap e,l.sz,n+k,false,[]⟩) (.rows e l.sz (n+k) (kC n c d)) (by rw [hb]; rfl) hbel (fun x hx _=>Below.heap_alloc w.drew _ x hx)
      (fun l₂ h=>by injection h with h; subst h; exact ⟨.inr (Nat.le_refl _),by simp⟩)
      ⟨rfl,rfl,hna.cap,hna.vV,arr,Go.heap_alloc_new w.drew _,hna.size,fun i hi j hj=>by
       by_cases hin:i<n
       ·rw [hna.old i j hin hj,yM hin]
        have:=q5 i (by omega) j hj
        exact ⟨this.1,this.2.mono (fun _ h=>h) hS _ (fun _ _ h=>h)⟩
       ·obtain ⟨r,rfl⟩:∃ r,i=n+r:=⟨i-n,by omega⟩
        have hr':r<k:=by omega
        rw [hna.new r j hr' hj,F9]
        exact ⟨(hc r hr' j hj).2,(hr r hr' j hj).mono (fun _ h=>h) hS _ (fun _ _ h=>h)⟩⟩
     exact ⟨_,_,_,_,hrun,ht,hm,.own _ b (n+k) ⟨w.heap.size,grownCap w (n+k) l.cap e,l.sz,n+k,false,[]⟩ (hself _) (Nat.le_refl _) ⟨hna.cap,hna.vV⟩⟩
 ·
  rename_i sz n c h1 h2
  have h1:=Nat.le_of_ble_eq_true h1
  have h2:=Nat.le_of_ble_eq_true h2
  obtain ⟨_,ie,ze,ge⟩:=hT.eO h1
  split at hk
  case h_2=>exact (aH hk).elim
  rename_i hsz
  have hsz:=Nat.eq_of_beq_eq_true hsz
  have hroom:(n+k)*(ag T e).bytes<=bD:=by simpa [aG,ae] using hk
  unfold bD at hroom
  have hk47:n+k<=140737488355328:=by have:(n+k)*1<=(n+k)*(ag T e).bytes:=Nat.mul_le_mul_left _ h2; omega
  have eadd:ae.jH n k=n+k:=rfl
  rw [eadd]
  have hsi:sz=ie.size:=hsz.trans ge.sz
  have hold:∃ a,vs = .slice a n n/\(0<n->∃ (bo oo:Nat) (f0:Nat->Nat->Value),S bo/\a=some ⟨bo,oo,none⟩/\(∀ i,i<n->∀ j,j<sz->w.cell? ⟨bo,oo+i*sz+j,none⟩=some (f0 i j)/\(f0 i j).oneCell'=true)/\∀ i,i<n->∀ j,j<sz->Rel w S [] (f0 i j) (c i j)):=by
   cases hs with
   | slice _ bo oo _ _ cap _ _ f0 hs hn hcap hf hc hr =>
    have:=hf rfl; subst this
    exact ⟨_,rfl,fun _=>⟨bo,oo,f0,hs,rfl,hc,hr⟩⟩
   | dL _ a cap _ _ _ hcap hf =>
    have:=hf rfl; subst this
    exact ⟨a,rfl,fun h=>by omega⟩
  obtain ⟨a0,rfl,hold⟩:=hold
  by_cases hk0:k=0
  ·subst hk0
   have hrun:=Ci (P:=P) (w:=w) t ty e ie g.und ge.info a0 ax n n cx (Nat.le_refl _)
   refine .val hM hrun ?_
   by_cases hn0:n=0
   ·subst hn0; exact .dL _ _ _ _ _ _ (by unfold maxLen; omega) (fun h=>by simp at h)
   ·obtain ⟨bo,oo,f0,hS0,rfl,hc0,hr0⟩:=hold (by omega)
    exact .slice _ _ _ _ _ _ _ _ f0 hS0 (Nat.le_refl _) (by unfold maxLen; omega) (fun h=>by simp at h) hc0 (fun i hi j hj=>by rw [yM (by omega)]; exact hr0 i (by omega) j hj)
  ·obtain ⟨bb,o,c',f,hv,hc,hr⟩:=hcells (by omega)
   injection hv with hv1 hv2 hv3; subst hv1 hv3
   rw [<- hsz] at hc hr
   have fin:∀ (cap:Nat) (arr:Array Value) (f0:Nat->Nat->Value),SV sz n k cap arr f0 f->(∀ i,i<n->∀ j,j<sz->(f0 i j).oneCell'=true/\Rel w S [] (f0 i j) (c i j)) ->
     (Builtin.append_ #[t,t] ty #[.slice a0 n n,.slice (some ⟨bb,o,none⟩) k cx]).run P w = .ok (.slice (some ⟨w.heap.size,0,none⟩) (n+k) cap) (w.drew.alloc (.cells arr e)) ->
     cB base w S m P ⟨.slice sz (n+k) false (kC n c d),M,[ae.ble (ae.ky (n+k) (ag T e).bytes) bD],none⟩ (Builtin.append_ #[t,t] ty #[.slice a0 n n,.slice (some ⟨bb,o,none⟩) k cx]):=by
    intro cap arr f0 hna h0 hrun
    obtain ⟨ht,hm⟩:=hM.drew.KD (.cells arr e)
    have hS:∀ x,S x->(w.drew.alloc (.cells arr e)).heap[x]? = w.heap[x]?:=fun x hx=>Below.heap_alloc w.drew _ x (hM.sb x hx)
    refine ⟨_,_,_,_,hrun,ht.FT,hm,.slice _ _ _ _ _ _ _ _ (fun i j=>arr.getD (i*sz+j) Go.undef) (.inr rfl) hna.cap hna.vV (fun h=>by simp at h) (fun i hi j hj=>⟨?_,?_⟩) (fun i hi j hj=>?_)⟩
    ·have hcr:=cell_of_row (w.drew.alloc (.cells arr e)) w.heap.size (i*sz+j) arr e (0,0) (Go.heap_alloc_new w.drew _)
     rw [Nat.zero_add,hcr]
     have h8:=fP (off:=j) (k:=1) hi (show j+1<=sz by omega)
     have h9:(n+k)*sz<=cap*sz:=Nat.mul_le_mul_right _ hna.cap
     have h10:=hna.size
     simp [show i*sz+j<arr.size by omega]
    ·by_cases hin:i<n
     ·rw [hna.old i j hin hj]; exact (h0 i hin j hj).1
     ·obtain ⟨r,rfl⟩:∃ r,i=n+r:=⟨i-n,by omega⟩
      rw [hna.new r j (by omega) hj]; exact (hc r (by omega) j hj).2
    ·by_cases hin:i<n
     ·rw [hna.old i j hin hj,yM hin]; exact (h0 i hin j hj).2.mono (fun _ h=>.inl h) hS _ (fun _ _ h=>h)
     ·obtain ⟨r,rfl⟩:∃ r,i=n+r:=⟨i-n,by omega⟩
      rw [hna.new r j (by omega) hj,F9]; exact (hr r (by omega) j hj).mono (fun _ h=>.inl h) hS _ (fun _ _ h=>h)
   by_cases hn0:n=0
   ·subst hn0
    have hna:=Cj (w:=w) 0 k 0 e sz ze (ge.sZ.trans hsi.symm) (fun _ _=>Go.undef) f (by omega)
    cases a0 with
    | none =>
     have hroom':k*ie.bytes<=281474976710656:=by rw [<- ge.lg]; rw [Nat.zero_add] at hroom; omega
     have hrun:=run_append_nil (P:=P) w t ty e ie ze g.und ge.info ge.zero ⟨bb,o,none⟩ k cx (fC sz k f) (by rw [ig,hsi]) (oC hc) (by omega) (by omega) hroom'
     refine fin _ _ (fun _ _=>Go.undef) hna (fun i hi=>by omega) ?_
     simpa [F8] using hrun
    | some a1 =>
     have hrun:=run_append_grow (P:=P) w t ty e ie ze g.und ge.info ge.zero a1 0 0 [] (by simp) (by simp) ⟨bb,o,none⟩ k cx (fC sz k f) (by rw [ig,hsi]) (oC hc) (by omega) (by omega)
      (growslice_fits (by omega) (by rw [<- ge.lg]; exact hroom))
     refine fin _ _ (fun _ _=>Go.undef) hna (fun i hi=>by omega) ?_
     simpa [F8] using hrun
   ·obtain ⟨bo,oo,f0,hS0,rfl,hc0,hr0⟩:=hold (by omega)
    have hna:=Cj (w:=w) n k n e sz ze (ge.sZ.trans hsi.symm) f0 f (by omega)
    have hrun:=run_append_grow (P:=P) w t ty e ie ze g.und ge.info ge.zero ⟨bo,oo,none⟩ n n (fC sz n f0) (by rw [ig,hsi]) (oC hc0) ⟨bb,o,none⟩ k cx (fC sz k f) (by rw [ig,hsi]) (oC hc) (by omega) (by omega)
     (growslice_fits (by omega) (by rw [<- ge.lg]; exact hroom))
    exact fin _ _ f0 hna (fun i hi j hj=>⟨(hc0 i hi j hj).2,hr0 i hi j hj⟩) hrun
 ·exact (aH hk).elim
theorem abu (hM:aV base w S m M) {u:Ty} {k:List (El u)} {x:AV} {vx:Value} (hx:Rel w S m vx x) (h:Fw M u x=some k) :
  ∃ x' d,Rel w S m vx x'/\content (iy M) (aW u) x'=some (k.length,d)/\∀ i,i<k.length->∀ j,j<aW u->d i j=vw u k i j:=by
 unfold Fw at h
 split at h
 ·obtain ⟨e,rfl⟩:=jU h
  subst e
  exact ⟨_,_,Le.un _ _ _ _ hx,by simp only [content,Nat.beq_refl],fun _ _ _ _=>rfl⟩
 ·injection h with h; subst h
  exact ⟨.bR,_,hx,rfl,fun i hi=>absurd hi (Nat.not_lt_zero i)⟩
 ·injection h with h; subst h
  exact ⟨.emp,_,hx,rfl,fun i hi=>absurd hi (Nat.not_lt_zero i)⟩
 ·rename_i b
  split at h
  case h_2=>cases h
  rename_i e' u' l hb
  obtain ⟨e,rfl⟩:=jU h
  subst e
  have hbu:blk (iy M) b = .rows e' (aW u') l.length (vw u' l):=by rw [gB,hb]; rfl
  exact ⟨_,_,hx.Ce hM hb,by simp only [content,hbu,Nat.beq_refl],fun _ _ _ _=>rfl⟩
 ·rename_i b lo n
  split at h
  case h_2=>cases h
  rename_i e' u' l hb
  obtain ⟨e,rfl⟩:=jU h
  subst e
  have hbu:blk (iy M) b = .rows e' (aW u') l.length (vw u' l):=by rw [gB,hb]; rfl
  have hlen:((l.drop lo).take n).length=n:=by
   cases hx with
   | tail _ a _ _ _ cp hn h =>
    by_cases h0:n=0
    ·subst h0; simp
    ·obtain ⟨l',h1,_,h2⟩:=h (by omega)
     have hB:=hM.bk _ _ h1
     rw [hb] at hB
     have:l'.n=l.length:=hB.2.1
     simp; omega
  refine ⟨_,fun i j=>vw u' l (lo+i) j,hx,?_,fun i hi j hj=>?_⟩
  ·simp only [content,hbu,Nat.beq_refl]
   rw [hlen]
  ·have hi':i<n:=by rw [<- hlen]; exact hi
   show _=vw u' ((l.drop lo).take n) i j
   rw [qd _ _ _ _ _ hi',Cf]
 ·rename_i b n
  split at h
  case h_2=>cases h
  rename_i e' u' l hb
  obtain ⟨e,rfl⟩:=jU h
  subst e
  have hbu:blk (iy M) b = .rows e' (aW u') l.length (vw u' l):=by rw [gB,hb]; rfl
  have hlen:(l.take n).length=n:=by
   cases hx with
   | own _ _ _ l' h hn hc =>
    have hB:=hM.bk _ _ h
    rw [hb] at hB
    have:l'.n=l.length:=hB.2.1
    simp; omega
   | eZ=>simp
  refine ⟨.own b n,vw u' l,hx,?_,fun i hi j hj=>?_⟩
  ·simp only [content,hbu,Nat.beq_refl]
   rw [hlen]
  ·have hi':i<n:=by rw [<- hlen]; exact hi
   show vw u' l i j=vw u' (l.take n) i j
   rw [qd _ _ _ _ _ hi']
 ·cases h
theorem abv (b:Nat) (B:bT):nX b (vR B)=vR (nX b B):=by cases B <;> rfl
theorem SX (u:Ty) (l k:List (El u)) (d:Nat->Nat->AV) (hd:∀ i,i<k.length->∀ j,j<aW u->d i j=vw u k i j) (i:Nat) (hi:i<l.length+k.length) (j:Nat) (hj:j<aW u):kC l.length (vw u l) d i j=vw u (l++k) i j:=by
 by_cases h:i<l.length
 ·rw [yM h,Sw _ _ _ _ _ h]
 ·obtain ⟨r,rfl⟩:∃ r,i=l.length+r:=⟨i-l.length,by omega⟩
  rw [F9,Sy,hd r (by omega) j hj]
theorem abw (hT:bG P T) (hM:aV base w S m M) (t ty e:TypeId) (u:Ty) {vs vx:Value} {s x:AV} (htd:(ag T t).d = .slice e) (hs:Rel w S m vs s) (hx:Rel w S m vx x) (hk:aG (Fy ae T M t e u s x).ks) :
  cB base w S m P (Fy ae T M t e u s x) (Builtin.append_ #[t,t] ty #[vs,vx]):=by
 unfold Fy at hk ⊢
 split at hk
 case h_2=>exact (aH hk).elim
 rename_i k hcon hsz hpos hby
 obtain ⟨x',d,hx',hc',hd⟩:=abu hM hx hcon
 have hsz:=Nat.eq_of_beq_eq_true hsz
 have hc2:content (iy M) (ag T e).sz x'=some (k.length,d):=by rw [<- hsz]; exact hc'
 split at hk
 ·have h0:=yN hT hM.un t ty hs hx'
  unfold qR at h0
  simp only [htd,hc2,hpos,hby] at h0
  refine (h0 hk).to rfl (by simp [vN,iA]) (fun w' S' m' i l hB=>?_) (fun i hc=>?_) (fun w' S' m' v hm hv=>?_)
  ·simp only [jy,iA] at hB ⊢
   split
   ·rename_i hi; rw [if_pos hi] at hB
    exact bZ.typed hB hsz.symm rfl fun i hi j hj=>by rw [hd i hi j (by omega)]; exact Le.refl _
   ·rename_i hi; rw [if_neg hi,gB] at hB; exact bZ.un.1 hB
  ·simp only [jy,iA] at hc ⊢
   split
   ·rename_i hi; rw [if_pos hi] at hc; cases hc
   ·rename_i hi; rw [if_neg hi,gB,tu] at hc; exact hc
  ·have:=hv.Cc hm (by rw [jy,if_pos rfl])
   rw [iA] at this; exact this
 ·have h0:=yN hT hM.un t ty hs hx'
  unfold qR at h0
  simp only [htd,hc2,hpos,hby] at h0
  refine (h0 hk).to rfl (by simp [vN,iA]) (fun w' S' m' i l hB=>?_) (fun i hc=>?_) (fun w' S' m' v hm hv=>?_)
  ·simp only [jy,iA] at hB ⊢
   split
   ·rename_i hi; rw [if_pos hi] at hB
    exact bZ.typed hB hsz.symm rfl fun i hi j hj=>by rw [hd i hi j (by omega)]; exact Le.refl _
   ·rename_i hi; rw [if_neg hi,gB] at hB; exact bZ.un.1 hB
  ·simp only [jy,iA] at hc ⊢
   split
   ·rename_i hi; rw [if_pos hi] at hc; cases hc
   ·rename_i hi; rw [if_neg hi,gB,tu] at hc; exact hc
  ·have:=hv.Cc hm (by rw [jy,if_pos rfl])
   rw [iA] at this; exact this
 ·rename_i b
  split at hk
  case h_2=>exact (aH hk).elim
  rename_i e' u' l hb
  split at hk
  case h_2=>exact (aH hk).elim
  rename_i l1 he hcl
  obtain ⟨eu,rfl⟩:=jU hcl
  subst eu
  have he':=Nat.eq_of_beq_eq_true he; subst he'
  have hbu:blk (iy M) b = .rows e (aW u') l.length (vw u' l):=by rw [gB,hb]; rfl
  have h0:=yN (s:=.own b l.length) hT hM.un t ty (hs.Ce hM hb) hx'
  unfold qR at h0
  have hsz':Nat.beq (aW u') (ag T e).sz=true:=by rw [hsz]; exact Nat.beq_refl _
  simp only [htd,hc2,hpos,hby,hbu,he,hsz'] at h0
  have hk':aG [ae.ble (ae.ky (ae.jH l.length k.length) (ag T e).bytes) bD]:=by
   have e1:ae.jH l.length k.length=(l++k).length:=by simp [ae]
   rw [e1]; exact hk
  have hlen:aB (iI b (dA (iy M) b (.rows e (aW u') (ae.jH l.length k.length) (kC l.length (vw u' l) d))))=aB M:=by rw [FQ,kG,iA]
  have hbl:b<aB M:=mi M b (by rw [hb]; simp)
  refine (h0 hk').to rfl ?_ (fun w' S' m' i l2 hB=>?_) (fun i hc=>?_) (fun w' S' m' v hm hv=>?_)
  ·rw [hlen,FQ,kG]
  ·simp only [vP,gF] at hB ⊢
   by_cases hi:b=i/\b<aB M
   ·rw [if_pos hi]; rw [if_pos (by rw [iA]; exact hi)] at hB
    exact bZ.typed hB rfl (by simp [ae]) fun i hi j hj=>by rw [SX _ _ _ _ hd _ hi _ hj]; exact Le.refl _
   ·rw [if_neg hi]; rw [if_neg (by rw [iA]; exact hi),gB,abv] at hB
    exact bZ.un.1 hB
  ·simp only [vP,gF,KA] at hc ⊢
   by_cases hi:b=i/\b<aB M
   ·rw [if_pos (by rw [iA]; exact hi)] at hc; cases hc
   ·rw [if_neg hi]; rw [if_neg (by rw [iA]; exact hi),gB,tu] at hc; exact hc
  ·exact hv.Cc hm (by rw [vP,gF,if_pos ⟨rfl,by rw [iA]; exact hbl⟩]; rfl)
 ·rename_i u' l
  split at hk
  case h_2=>exact (aH hk).elim
  rename_i l1 hcl
  obtain ⟨eu,rfl⟩:=jU hcl
  subst eu
  have h0:=yN hT hM.un t ty (Le.un _ _ _ _ hs) hx'
  unfold qR at h0
  have hsz':Nat.beq (aW u') (ag T e).sz=true:=by rw [hsz]; exact Nat.beq_refl _
  simp only [htd,hc2,hpos,hby,hsz'] at h0
  have hk':aG [ae.ble (ae.ky (ae.jH l.length k.length) (ag T e).bytes) bD]:=by
   have e1:ae.jH l.length k.length=(l++k).length:=by simp [ae]
   rw [e1]; exact hk
  refine (h0 hk').to rfl (iA M).symm (fun w' S' m' i l2 hB=>?_) (fun i hc=>?_) (fun w' S' m' v hm hv=>?_)
  ·rw [gB] at hB; exact bZ.un.1 hB
  ·rw [gB,tu] at hc; exact hc
  ·exact Le.bF id rfl (by simp [ae]) (fun i hi j hj=>by rw [SX _ _ _ _ hd _ hi _ hj]; exact Le.refl _) _ _ _ _ hv
 ·exact (aH hk).elim
theorem abx (hT:bG P T) (hM:aV base w S m M) (t ty:TypeId) {vs vx:Value} {s x:AV} (hs:Rel w S m vs s) (hx:Rel w S m vx x) (hk:aG (Fz ae T M t s x).ks) :
  cB base w S m P (Fz ae T M t s x) (Builtin.append_ #[t,t] ty #[vs,vx]):=by
 unfold Fz at hk ⊢
 split at hk
 case h_2=>exact (aH hk).elim
 rename_i e htd
 split at hk
 ·split at hk
  ·exact abw hT hM t ty e _ htd hs hx hk
  ·exact yN hT hM t ty hs hx hk
 ·exact yN hT hM t ty hs hx hk
theorem SY {z:Array Value} {n r j:Nat} (hr:r<n) (hj:j<z.size):(Builtin.zeroCells z n).toList.getD (r*z.size+j) Go.undef=z.getD j Go.undef:=by
 have hlt:r*z.size+j<n*z.size:=by have:=fP (off:=j) (k:=1) hr (show j+1<=z.size by omega); omega
 have hm:(r*z.size+j) % z.size=j:=(SS hj).2
 have e:(Builtin.zeroCells z n)[r*z.size+j]? = some z[j]:=by
  simp [Builtin.zeroCells,hlt,hm,hj]
 rw [List.getD_eq_getElem?_getD,Array.getElem?_toList,e]
 simp [hj]
theorem aby (hT:bG P T) (hM:aV base w S m M) (t u ty:TypeId) {vs vx:Value} {s x:AV} (hs:Rel w S m vs s) (hx:Rel w S m vx x) (hk:aG (FB ae T M t u s x).ks) :
  cB base w S m P (FB ae T M t u s x) (Builtin.append_ #[t,u] ty #[vs,vx]):=by
 unfold FB at hk ⊢
 split at hk
 case h_2=>exact (aH hk).elim
 rename_i e ku kx n htd htu
 obtain ⟨_,_,_,g⟩:=hT.bJ htd (by simp)
 have hd:=g.d; rw [htd] at hd
 have:=fF hd.symm; subst this
 obtain ⟨_,_,_,gu⟩:=hT.bJ htu (by simp)
 have hdu:=gu.d; rw [htu] at hdu
 have:=vQ hdu.symm; subst this
 split at hk
 case h_2=>exact (aH hk).elim
 rename_i h1 h2 h3 h4
 have h2:=Nat.le_of_ble_eq_true h2
 have h3:=Nat.eq_of_beq_eq_true h3
 have h4:=Nat.le_of_ble_eq_true h4
 obtain ⟨_,ie,ze,ge⟩:=hT.eO h2
 obtain ⟨z1,z2,z3⟩:=tC (w:=w) (S:=S) (m:=m) ge h1
 have hk':0<n/\n.toNat*(ag T e).bytes<=bD:=by simpa [aG,ae] using hk
 obtain ⟨k1,k3⟩:=hk'
 obtain ⟨ln,rfl⟩:=Int.eq_ofNat_of_zero_le (show 0<=n by omega)
 cases hs; cases hx
 have hroom:ln*(ag T e).bytes<=bD:=by simpa using k3
 unfold bD at hroom
 have hln:ln<=140737488355328:=by have:ln*1<=ln*(ag T e).bytes:=Nat.mul_le_mul_left _ h4; omega
 have hrun:=Lib.run_append_nil_zeros (P:=P) w t u ty e ie ze kx ku g.und gu.und ge.info ge.zero ln (by omega) (by have:=ge.sz; omega) (by omega) (by rw [<- ge.lg]; omega)
 have hcap:=grownCap_ge w ln 0 e
 have hcapm:=grownCap_le_maxLen w ln 0 e (by unfold maxLen; omega)
 have hzs:ze.cells.size=(ag T e).sz:=by omega
 let arr:Array Value:=Builtin.zeroCells ze.cells ln++Builtin.zeroCells ze.cells (grownCap w ln 0 e-ln)
 have harr:arr.size=grownCap w ln 0 e*(ag T e).sz:=by
  simp only [arr,Array.size_append,size_zeroCells,hzs,<- Nat.add_mul]
  congr 1; omega
 have hget:∀ i j,i<ln->j<(ag T e).sz->arr.getD (i*(ag T e).sz+j) Go.undef=ze.cells.getD j Go.undef:=fun i j hi hj=>by
  have hlt:i*(ag T e).sz+j<ln*(ag T e).sz:=by have:=fP (off:=j) (k:=1) hi (show j+1<=(ag T e).sz by omega); omega
  have:=SY (n:=ln) hi (show j<ze.cells.size by omega)
  rw [hzs] at this
  simp only [arr,Array.getD_eq_getD_getElem?]
  rw [Array.getElem?_append_left (by rw [size_zeroCells,hzs]; exact hlt)]
  rw [List.getD_eq_getElem?_getD,Array.getElem?_toList] at this
  rw [this]; simp
 let loc:Loc:=⟨w.heap.size,grownCap w ln 0 e,(ag T e).sz,ln,false,[]⟩
 have hMd:aV base w.drew S m M:=hM.drew
 obtain ⟨ht,hm⟩:=hMd.alloc (.cells arr e) loc (.rows e (ag T e).sz ln fun _ j=>nth (ag T e).z j) rfl
  ⟨rfl,rfl,hcap,hcapm,arr,Go.heap_alloc_new w.drew _,harr,fun i hi j hj=>by
   rw [hget i j hi hj]
   refine ⟨z2 j (by omega),?_⟩
   have hr:=Cg (w:=w.drew.alloc (.cells arr e)) (S:=S) (m:=[]) ze.cells j (by omega)
   rw [<- ge.z] at hr; exact hr⟩
 have e1:ae.toNat (ln:Int)=ln:=rfl
 rw [e1]
 refine cB.pO (ks:=[]) ?_
 exact ⟨_,_,_,_,hrun,ht.FT,hm,.own _ _ _ loc (by rw [<- hM.len]; simp) (Nat.le_refl _) ⟨hcap,hcapm⟩⟩
theorem abz {a:AV} (h:outside a=true):xZ a=true:=by cases a <;> first | rfl | simp [outside] at h
theorem abA {l:List AV} (h:jl l=true):iH l=true:=by
 induction l with
 | nil=>rfl
 | cons a l ih =>
  simp only [jl] at h
  split at h
  ·rename_i h1; simp only [iH,abz h1,ih h]
  ·simp at h
theorem S9 (hT:bG P T) (hM:aV base w S m M) (t ty:TypeId) {v:Value} {a:AV} (hnt:∀ b lo n e u l,a = .tail b lo n->blk M b = .bC e u l->False) (ha:Rel w S m v a) (hk:aG (vH T M t a).ks):cB base w S m P (vH T M t a) (Builtin.clear_ #[t] ty #[v]):=by
 unfold vH at hk ⊢
 split at hk
 case h_2=>exact (aH hk).elim
 rename_i e htd
 obtain ⟨_,_,_,g⟩:=hT.bJ htd (by simp)
 have hd:=g.d; rw [htd] at hd
 have:=fF hd.symm; subst this
 split at hk
 case h_2=>exact (aH hk).elim
 rename_i b lo n h1 h2 h3
 have h1:=Nat.le_of_ble_eq_true h1
 have h3:=Nat.eq_of_beq_eq_true h3
 obtain ⟨_,ie,ze,ge⟩:=hT.eO h1
 have hzc:iH (ag T e).z=true:=abA h2
 obtain ⟨z1,z2,z3⟩:=tC (w:=w) (S:=S) (m:=m) ge hzc
 split at hk
 case h_3=>exact (aH hk).elim
 case h_2 =>
  rename_i e' u l hb
  exact (hnt b lo n e' u l rfl hb).elim
 rename_i e' sz k c hb
 split at hk
 case h_2=>exact (aH hk).elim
 rename_i hsz
 have hsz:=Nat.eq_of_beq_eq_true hsz
 have hvt:Rel w S m (.tuple #[]) (.bN []):=.bN _ _ _ rfl fun i hi=>absurd hi (Nat.not_lt_zero i)
 cases ha with
 | tail _ aa _ _ _ cp hn h =>
  by_cases hn0:n=0
  ·subst hn0
   have e0:yh lo 0 (ag T e).z c=c:=by
    funext i j; unfold yh; rw [if_neg (by omega)]
   have e1:dA M b (.rows e' sz k c)=M:=by rw [<- hb]; exact aar M b
   simp only [hb,hsz,Nat.beq_refl,e0] at *
   rw [e1]
   refine .val hM ?_ hvt
   cases aa <;> simp [Builtin.clear_,run_underlying g.und]
  ·obtain ⟨l,h0,rfl,hle⟩:=h (by omega)
   have hB:=eX hM h0
   rw [hb] at hB
   obtain ⟨rfl,rfl,k3,k4,vs,k5,k6,k7⟩:=hB
   have hl:=hM.lt _ _ h0
   have hzs:ze.cells.size=l.sz:=by rw [z1,h3,hsz]
   have hlen:(Builtin.zeroCells ze.cells n).toList.length=n*l.sz:=by simp [size_zeroCells,hzs]
   have hfit:lo*l.sz+n*l.sz<=vs.size:=by
    rw [k6,<- Nat.add_mul]; exact Nat.mul_le_mul_right _ (by omega)
   have h1c:∀ v∈(Builtin.zeroCells ze.cells n).toList,v.oneCell'=true:=fun v hv=>by
    simp only [Builtin.zeroCells,Array.toList_map,List.mem_map] at hv
    obtain ⟨i,hi,rfl⟩:=hv
    have hi':i<n*ze.cells.size:=by simpa using hi
    have hpos:0<ze.cells.size:=by rw [hzs,hsz]; omega
    have hm:=Nat.mod_lt i hpos
    have:=z2 (i % ze.cells.size) (by rw [<- z1]; exact hm)
    simpa [hm] using this
   have hst:=F4 P l.g (lo*l.sz) e' (Builtin.zeroCells ze.cells n).toList 0 vs w (Loc.F3 k6) k5 (by rw [hlen]; simpa using hfit) h1c
   simp only [Nat.add_zero] at hst
   change _=Result.ok _ (w.setRow l.g (gN vs (lo*l.sz) (Builtin.zeroCells ze.cells n).toList)) at hst
   have hseg:lo*l.sz+(Builtin.zeroCells ze.cells n).toList.length<=vs.size:=by rw [hlen]; exact hfit
   have hfar:∀ x,x<w.heap.size->x≠l.g->(w.setRow l.g (gN vs (lo*l.sz) (Builtin.zeroCells ze.cells n).toList)).heap[x]? = w.heap[x]?:=fun x _ hne=>setRow_other w l.g x _ hne
   have hS:∀ x,S x->(w.setRow l.g (gN vs (lo*l.sz) (Builtin.zeroCells ze.cells n).toList)).heap[x]? = w.heap[x]?:=fun x hx=>hfar x (hM.sb x hx) (fun e=>hl.2.2 (e▸hx))
   obtain ⟨ht,hm⟩:=hM.turn b l h0 (.rows e' l.sz l.n (yh lo n (ag T e).z c)) (fun h=>by rw [hb] at h; cases h) (yK l.g _ hl.1) hfar
    ⟨rfl,rfl,k3,k4,_,setRow_heap w l.g vs _ e' _ k5,by rw [yJ _ _ _ hseg]; exact k6,fun i hi j hj=>by
     rw [tF _ _ _ hseg,hlen]
     unfold yh
     by_cases hin:lo<=i/\i<lo+n
     ·obtain ⟨r,rfl⟩:∃ r,i=lo+r:=⟨i-lo,by omega⟩
      have hr:r<n:=by omega
      have:=fP (off:=j) (k:=1) hr (show j+1<=l.sz by omega)
      have hj':j<ze.cells.size:=by rw [hzs]; exact hj
      have hz:=SY hr hj'
      rw [hzs] at hz
      have hj2:j<au (ag T e).z:=by rw [<- z1]; exact hj'
      rw [if_pos hin,Nat.add_mul,if_pos (by omega),show lo*l.sz+r*l.sz+j-lo*l.sz=r*l.sz+j from by omega,hz]
      exact ⟨z2 _ hj2,((z3 _ hj2).out (ow h2 hj2) []).mono (fun _ h=>h) hS _ (fun _ _ h=>h)⟩
     ·have hout:¬ (lo*l.sz<=i*l.sz+j/\i*l.sz+j<lo*l.sz+n*l.sz):=by
       rintro ⟨q1,q2⟩
       apply hin
       rw [<- Nat.add_mul] at q2
       constructor
       ·apply Nat.le_of_not_lt; intro hlt
        have:(i+1)*l.sz<=lo*l.sz:=Nat.mul_le_mul_right _ hlt
        rw [Nat.add_mul] at this; omega
       ·apply Nat.lt_of_not_le; intro hge
        have:(lo+n)*l.sz<=i*l.sz:=Nat.mul_le_mul_right _ hge
        omega
      rw [if_neg hin,if_neg hout]
      have:=k7 i hi j hj
      exact ⟨this.1,this.2.mono (fun _ h=>h) hS _ (fun _ _ h=>h)⟩⟩
   refine ⟨.tuple #[],_,_,_,?_,ht,hm,.bN _ _ _ rfl fun i hi=>absurd hi (Nat.not_lt_zero i)⟩
   cases n with
   | zero=>omega
   | succ n=>simp [Builtin.clear_,run_underlying g.und,zeroValue,typeInfo,ge.info,ge.zero,hst]
theorem abB (u:Ty) (lo n:Nat) (x:El u) (l:List (El u)) (i:Nat) (hi:i<l.length) (j:Nat):vw u (lK lo n x l) i j=if lo<=i/\i<lo+n then nth (dB u x) j else vw u l i j:=by
 unfold vw jk lK
 simp only [List.getD,List.getElem?_mapIdx]
 by_cases h:lo<=i/\i<lo+n
 ·simp [hi,h]
 ·simp [hi,h]
theorem abC (hT:bG P T) (hM:aV base w S m M) (t ty:TypeId) {v:Value} {a:AV} (ha:Rel w S m v a) (hk:aG (vH T M t a).ks):cB base w S m P (vH T M t a) (Builtin.clear_ #[t] ty #[v]):=by
 by_cases hty:∃ b lo n e u l,a = .tail b lo n/\blk M b = .bC e u l
 ·obtain ⟨b,lo,n,e',u,l,rfl,hb⟩:=hty
  have hbu:blk (iy M) b = .rows e' (aW u) l.length (vw u l):=by rw [gB,hb]; rfl
  have h0:=S9 hT hM.un t ty (fun b' lo' n' e u l h1 h2=>by rw [gB] at h2; cases hB:blk M b' <;> rw [hB] at h2 <;> cases h2) ha
  unfold vH at h0 hk ⊢
  cases hd:(ag T t).d <;> simp only [hd] at h0 hk ⊢ <;> try exact (aH hk).elim
  rename_i e
  cases h1:Nat.ble 1 (ag T e).sz <;> cases h2:jl (ag T e).z <;> cases h3:Nat.beq (au (ag T e).z) (ag T e).sz <;> simp only [h1,h2,h3,hb,hbu] at h0 hk ⊢ <;> try exact (aH hk).elim
  cases h4:Nat.beq (aW u) (ag T e).sz <;> cases h5:ic u (ag T e).z <;> simp only [h4,h5] at h0 hk ⊢ <;> try exact (aH hk).elim
  rename_i x
  obtain ⟨r1,r2⟩:=qc h5
  refine (h0 trivial).to rfl (by simp [kG,iA]) (fun w' S' m' i l2 hB=>?_) (fun i hc=>?_) (fun w' S' m' v hm hv=>hv)
  ·simp only [gF] at hB ⊢
   by_cases hi:b=i/\b<aB M
   ·rw [if_pos hi]; rw [if_pos (by rw [iA]; exact hi)] at hB
    refine bZ.typed hB rfl (by simp [lK]) fun i hi j hj=>?_
    rw [abB _ _ _ _ _ _ hi]
    unfold yh
    split
    ·exact r2 j hj
    ·exact Le.refl _
   ·rw [if_neg hi]; rw [if_neg (by rw [iA]; exact hi),gB] at hB
    exact bZ.un.1 hB
  ·simp only [gF] at hc ⊢
   by_cases hi:b=i/\b<aB M
   ·rw [if_pos (by rw [iA]; exact hi)] at hc; cases hc
   ·rw [if_neg hi]; rw [if_neg (by rw [iA]; exact hi),gB,tu] at hc; exact hc
 ·exact S9 hT hM t ty (fun b lo n e u l h1 h2=>hty ⟨b,lo,n,e,u,l,h1,h2⟩) ha hk
theorem wf_u8 (b:UInt8):(Lit.int .u8 (b.toNat:Int)).wf=true:=by
 have h:=b.toNat_lt
 refine (tq _ _).2 ?_
 simp [IntKind.min,IntKind.max,IntKind.signed,IntKind.bits]
 omega
theorem abD (hT:bG P T) (hM:aV base w S m M) (s d:TypeId) {v:Value} {a:AV} (ha:Rel w S m v a) (hk:aG (BK ae T M s d a).ks):cB base w S m P (BK ae T M s d a) (convert s d v):=aaZ hT hM s d ha hk
theorem abE {w:World} {t u ty e:TypeId} {i:TypeInfo} (ht:P.underlying t=some (.slice e)) (hu:P.underlying u=some .string) (hi:P.info? e=some i) (hs1:i.size=1) {g n cap:Nat} {vs:Array Value} {fz:Nat×Nat} (hf:tH fz vs.size) (hg:w.heap[g]? = some (.cells vs e fz))
  {s:ByteArray} (hroom:n+s.size<=cap) (hfit:n+s.size<=vs.size) :
  (Builtin.append_ #[t,u] ty #[.slice (some ⟨g,0,none⟩) n cap,.string s]).run P w = .ok (.slice (some ⟨g,0,none⟩) (n+s.size) cap) (w.setRow g (gN vs n (Lib.strCells s))):=by
 have h2:=Lib.run_firstCells_string (P:=P) w 1 s
 have h3:=F4 P g n e (Lib.strCells s) 0 vs w hf hg (by simpa [Lib.strCells_length] using hfit) (Lib.strCells_oneCell s)
 rw [Nat.add_zero] at h3
 simp [Builtin.append_,run_underlying ht,run_underlying hu,sizeOf,typeInfo,hi,hs1,Builtin.lenOf,hroom,h2,Addr.add_lit,h3,gN]
theorem Ta (l:List Int) (i:Nat):vw (.int .u8) l i 0 = .int .u8 (l.getD i 0):=rfl
def vW (vs:Array Value) (l:List Int):Prop:=∀ i,i<l.length->vs.getD i Go.undef = .int .u8 (l.getD i 0)/\(Lit.int .u8 (l.getD i 0)).wf=true
theorem abF {vs:Array Value} {l:List Int} (h:∀ i,i<l.length->∀ j,j<aW (.int .u8)->(vs.getD (i*aW (.int .u8)+j) Go.undef).oneCell'=true/\Rel w S [] (vs.getD (i*aW (.int .u8)+j) Go.undef) (vw (.int .u8) l i j)):vW vs l:=by
 intro i hi
 have h:=(h i hi 0 (by simp [aW])).2
 rw [show i*aW (.int .u8)+0=i from by simp [aW],Ta] at h
 generalize vs.getD i Go.undef=v at h ⊢
 cases h with
 | int _ _ _ hw=>exact ⟨rfl,hw⟩
theorem vW.rows {vs:Array Value} {l:List Int} (h:vW vs l) (w:World) (S:Nat->Prop):∀ i,i<l.length->∀ j,j<aW (.int .u8)->(vs.getD (i*aW (.int .u8)+j) Go.undef).oneCell'=true/\Rel w S [] (vs.getD (i*aW (.int .u8)+j) Go.undef) (vw (.int .u8) l i j):=by
 intro i hi j hj
 have hj:j=0:=by simp [aW] at hj; omega
 subst hj
 rw [show i*aW (.int .u8)+0=i from by simp [aW],Ta,(h i hi).1]
 exact ⟨rfl,.int _ _ _ (h i hi).2⟩
theorem abG (x:List UInt8) (i:Nat) (hi:i<x.length):(Lib.strCells (bytes x)).getD i Go.undef = .int .u8 ((x.getD i 0).toNat:Int):=by
 simp [Lib.strCells,bytes,List.getD,hi]
theorem abH (x:List UInt8) (i:Nat) (hi:i<x.length):(kz x).getD i 0=((x.getD i 0).toNat:Int):=by simp [kz,List.getD,hi]
theorem Ck (x:List UInt8):(kz x).length=x.length:=by simp [kz]
theorem abI {l k:List Int} (i:Nat):(l++k).getD i 0=if i<l.length then l.getD i 0 else k.getD (i-l.length) 0:=by
 simp only [List.getD,List.getElem?_append]; split <;> rfl
theorem Tc {vs vs':Array Value} {l:List Int} {x:List UInt8} (h1:∀ i,i<l.length->vs'.getD i Go.undef=vs.getD i Go.undef) (h:vW vs l) (h2:∀ i,i<x.length->vs'.getD (l.length+i) Go.undef=(Lib.strCells (bytes x)).getD i Go.undef):vW vs' (l++kz x):=by
 intro i hi
 rw [abI]
 by_cases hl:i<l.length
 ·rw [if_pos hl,h1 i hl]; exact h i hl
 ·rw [if_neg hl]
  have hi':i-l.length<x.length:=by rw [List.length_append,Ck] at hi; omega
  have:=h2 (i-l.length) hi'
  rw [show l.length+(i-l.length)=i from by omega,abG _ _ hi'] at this
  rw [this,abH _ _ hi']
  exact ⟨rfl,wf_u8 _⟩
theorem abJ (hT:bG P T) (hM:aV base w S m M) (t u ty:TypeId) {vd vs:Value} {d s:AV} (hd:Rel w S m vd d) (hs:Rel w S m vs s) (hk:aG (Fx ae T M t u d s).ks) :
  cB base w S m P (Fx ae T M t u d s) (Builtin.copy_ #[t,u] ty #[vd,vs]):=by
 unfold Fx at hk
 exact (aH hk).elim
theorem abK (g j:Nat):((⟨g,0,none⟩:Addr).add j)=⟨g,j,none⟩:=by unfold Addr.add; split <;> simp_all
theorem abL {A B C:Array Value} {i:Nat} (h:i<A.size):(A++B++C).getD i Go.undef=A.getD i Go.undef:=by
 rw [Array.getD_eq_getD_getElem?,Array.getD_eq_getD_getElem?,Array.getElem?_append_left (by simp; omega),Array.getElem?_append_left h]
theorem abM {A B C:Array Value} {i:Nat} (h:i<B.size):(A++B++C).getD (A.size+i) Go.undef=B.getD i Go.undef:=by
 rw [Array.getD_eq_getD_getElem?,Array.getD_eq_getD_getElem?,Array.getElem?_append_left (by simp; omega),Array.getElem?_append_right (by omega),Nat.add_sub_cancel_left]
theorem abN (hT:bG P T) (hM:aV base w S m M) (t u ty:TypeId) {vs:Value} {s:AV} {x:List UInt8} (hs:Rel w S m vs s) (hk:aG (FC ae T M t u s x).ks) :
  cB base w S m P (FC ae T M t u s x) (Builtin.append_ #[t,u] ty #[vs,.string (bytes x)]):=by
 unfold FC at hk ⊢
 split at hk
 case h_2=>exact (aH hk).elim
 rename_i e b hdt hdu
 split at hk
 case h_2=>exact (aH hk).elim
 rename_i e' u' l h1 h2 h3 hb
 split at hk
 case h_2=>exact (aH hk).elim
 rename_i l' he hc
 obtain ⟨eu,rfl⟩:=jU hc
 subst eu
 have he:=Nat.eq_of_beq_eq_true he; subst he
 have h2:=Nat.eq_of_beq_eq_true h2
 have h3:=Nat.eq_of_beq_eq_true h3
 have hroom:(l++kz x).length*1<=bD:=by simpa [aG,ae] using hk
 rw [List.length_append,Ck,Nat.mul_one] at hroom
 unfold bD at hroom
 obtain ⟨_,_,_,g⟩:=hT.bJ hdt (by simp)
 have:=g.d; rw [hdt] at this; have:=fF this.symm; subst this
 obtain ⟨_,_,_,gu⟩:=hT.bJ hdu (by simp)
 have:=gu.d; rw [hdu] at this; have:=oq this.symm; subst this
 obtain ⟨_,ie,ze,ge⟩:=hT.eO (show 1<=(ag T e).sz by omega)
 have hs1:ie.size=1:=ge.sz.symm.trans h2
 have hb1:ie.bytes=1:=ge.lg.symm.trans h3
 have hz1:ze.cells.size=1:=ge.sZ.trans hs1
 have hbm:b<m.length:=by rw [hM.len]; exact mi M b (by rw [hb]; simp)
 have hself:∀ y:Option Loc,(m.set b y)[b]? = some y:=fun y=>List.getElem?_set_self hbm
 have hcB:isCells (blk M b)=false:=by rw [hb]; rfl
 have grown:∀ (olds:List Value) (cap:Nat),olds.length=l.length->(∀ i,i<l.length->olds.getD i Go.undef = .int .u8 (l.getD i 0)/\(Lit.int .u8 (l.getD i 0)).wf=true)->∀ (ol:Option Loc),m[b]? = some ol->l.length+x.length<=140737488355328->cap<l.length+x.length ->
   ∀ v,(Builtin.append_ #[t,u] ty #[v,.string (bytes x)]).run P w = .ok (.slice (some ⟨w.heap.size,0,none⟩) (l.length+x.length) (grownCap w (l.length+x.length) cap e)) (w.drew.alloc (.cells (olds.toArray++(Lib.strCells (bytes x)).toArray++Builtin.zeroCells ze.cells (grownCap w (l.length+x.length) cap e-(l.length+x.length))) e)) ->
   cB base w S m P ⟨.bz b,iI b (dA M b (.bC e (.int .u8) (l++kz x))),[ae.ble (ae.ky (l++kz x).length 1) bD],some b⟩ (Builtin.append_ #[t,u] ty #[v,.string (bytes x)]):=by
  intro olds cap hol hold ol h0 hle hcap v hrun
  have hge:=grownCap_ge w (l.length+x.length) cap e
  have hgm:grownCap w (l.length+x.length) cap e<=maxLen:=grownCap_le_maxLen w _ cap e (by unfold maxLen; omega)
  have hlen:(l++kz x).length=l.length+x.length:=by rw [List.length_append,Ck]
  have hsl:(Lib.strCells (bytes x)).length=x.length:=by rw [Lib.strCells_length,gT]
  generalize hA:olds.toArray++(Lib.strCells (bytes x)).toArray++Builtin.zeroCells ze.cells (grownCap w (l.length+x.length) cap e-(l.length+x.length))=arr at hrun
  have hsz:arr.size=grownCap w (l.length+x.length) cap e*1:=by
   rw [<- hA]; simp only [Array.size_append,List.size_toArray,size_zeroCells,hol,hsl,hz1]; omega
  have hrow:vW arr (l++kz x):=by
   refine Tc (vs:=olds.toArray) (fun i hi=>?_) (fun i hi=>?_) (fun i hi=>?_)
   ·rw [<- hA]; exact abL (by simp [hol,hi])
   ·have:=hold i hi
    simpa [Array.getD_eq_getD_getElem?,List.getD] using this
   ·rw [<- hA]
    have h9:=abM (A:=olds.toArray) (B:=(Lib.strCells (bytes x)).toArray) (C:=Builtin.zeroCells ze.cells (grownCap w (l.length+x.length) cap e-(l.length+x.length))) (i:=i) (by simp [hsl,hi])
    rw [List.size_toArray,hol] at h9
    rw [h9]
    simp [Array.getD_eq_getD_getElem?,List.getD]
  have hbel:bX base.Z w (w.drew.alloc (.cells arr e)):=((bX.refl base.Z w).drew).alloc hM.fu _
  obtain ⟨ht,hm⟩:=hM.move b ol h0 (some ⟨w.heap.size,grownCap w (l.length+x.length) cap e,1,l.length+x.length,false,[]⟩) (.bC e (.int .u8) (l++kz x)) hcB hbel (fun y hy _=>Below.heap_alloc w.drew _ y hy)
   (fun l₂ h=>by injection h with h; subst h; exact ⟨.inr (Nat.le_refl _),by simp⟩)
   ⟨rfl,hlen.symm,by rw [hlen]; exact hge,hgm,arr,Go.heap_alloc_new w.drew _,hsz,hrow.rows _ _⟩
  refine ⟨_,_,_,_,hrun,ht,hm,?_⟩
  have:=Rel.bz (w:=w.drew.alloc (.cells arr e)) (S:=S) (m.set b (some ⟨w.heap.size,grownCap w (l.length+x.length) cap e,1,l.length+x.length,false,[]⟩)) b ⟨w.heap.size,grownCap w (l.length+x.length) cap e,1,l.length+x.length,false,[]⟩ (hself _) ⟨hge,hgm⟩
  exact this
 by_cases hx0:x.length=0
 ·have hx:x=[]:=List.eq_nil_of_length_eq_zero hx0
  subst hx
  have hz:(ByteArray.mk (#[]:Array UInt8)).size=0:=rfl
  have emp:∀ (a:Option Addr) (n c:Nat),n<=c->(Builtin.append_ #[t,u] ty #[.slice a n c,.string (bytes [])]).run P w = .ok (.slice a n c) w:=fun a n c hn=>by
   cases a <;> simp [Builtin.append_,run_underlying g.und,run_underlying gu.und,sizeOf,typeInfo,ge.info,Builtin.lenOf,hn,Builtin.firstCells,storeCells,bytes,hz]
  have hB0:kz []=[]:=rfl
  rw [hB0,List.append_nil]
  cases hs with
  | fD _ a0 _ h0 =>
   have hB:=hM.bk _ _ h0
   rw [hb] at hB
   obtain ⟨ht,hm⟩:=hM.move b none h0 none (.bC e (.int .u8) l) hcB (bX.refl _ _) (fun _ _ _=>rfl) (fun l₂ h=>by cases h) hB
   exact ⟨_,_,_,_,emp a0 0 0 (Nat.le_refl _),ht,hm,.fD _ _ _ (hself _)⟩
  | bz _ _ l0 h0 hc0 =>
   have hB:=eX hM h0
   rw [hb] at hB
   obtain ⟨ht,hm⟩:=hM.move b (some l0) h0 (some l0) (.bC e (.int .u8) l) hcB (bX.refl _ _) (fun _ _ _=>rfl) (fun l₂ h=>by injection h with h; subst h; exact ⟨.inl ⟨l0,rfl,rfl⟩,(hM.lt _ _ h0).2.1⟩) hB
   exact ⟨_,_,_,_,emp _ _ _ hc0.1,ht,hm,.bz _ _ l0 (hself _) hc0⟩
 cases hs with
 | fD _ a0 _ h0 =>
  have hB:=hM.bk _ _ h0
  rw [hb] at hB
  have hB:l.length=0:=hB
  have hl:l=[]:=List.eq_nil_of_length_eq_zero hB
  have hsx:0<(bytes x).size:=by rw [gT]; omega
  cases a0 with
  | none =>
   have hrun:=run_append_nil_string (P:=P) w t u ty e ie ze g.und gu.und ge.info ge.zero (bytes x) hsx (by rw [gT]; omega) (by rw [gT,hb1]; omega)
   refine grown [] 0 hB.symm (fun i hi=>absurd hi (by omega)) none h0 (by omega) (by omega) _ ?_
   rw [hrun,gT,hB,Nat.zero_add]
   congr 3
   apply Array.ext'
   simp [Lib.strCells]
  | some a1 =>
   have hrun:=Lib.run_append_grow_string (P:=P) w t u ty e ie ze g.und gu.und ge.info ge.zero a1 0 0 [] (by simp) (by simp) (bytes x) (by omega) (by rw [gT]; omega) (growslice_fits (by omega) (by rw [gT,hb1]; omega))
   refine grown [] 0 hB.symm (fun i hi=>absurd hi (by omega)) none h0 (by omega) (by omega) _ ?_
   rw [hrun,gT,hB]
 | bz _ _ l0 h0 hc0 =>
  have hB:=eX hM h0
  rw [hb] at hB
  obtain ⟨q1,q2,q3,q4,vs0,q5,q6,q7⟩:=hB
  have hrow:=abF q7
  have hl:=hM.lt _ _ h0
  have q1:l0.sz=1:=q1
  have q6:vs0.size=l0.cap:=by rw [q6]; simp [aW]
  rw [q2] at hc0 ⊢
  by_cases hrm:l.length+x.length<=l0.cap
  ·have hfz:tH l0.fz vs0.size:=Loc.F3 (by rw [q6,q1]; omega)
   have hrun:=abE (P:=P) (ty:=ty) g.und gu.und ge.info hs1 hfz q5 (s:=bytes x) (n:=l.length) (cap:=l0.cap) (by rw [gT]; exact hrm) (by rw [gT]; omega)
   rw [gT] at hrun
   have hsl:(Lib.strCells (bytes x)).length=x.length:=by rw [Lib.strCells_length,gT]
   have hseg:l.length+(Lib.strCells (bytes x)).length<=vs0.size:=by omega
   have hrow':vW (gN vs0 l.length (Lib.strCells (bytes x))) (l++kz x):=by
    refine Tc (vs:=vs0) (fun i hi=>?_) hrow (fun i hi=>?_)
    ·rw [tF _ _ _ hseg,if_neg (by omega)]
    ·rw [tF _ _ _ hseg,if_pos (by omega),show l.length+i-l.length=i from by omega]
   obtain ⟨ht,hm⟩:=hM.move b (some l0) h0 (some ⟨l0.g,l0.cap,l0.sz,l.length+x.length,l0.st,[]⟩) (.bC e (.int .u8) (l++kz x)) hcB (yK l0.g _ hl.1) (fun y hy hne=>setRow_other w l0.g y _ (hne l0 rfl))
    (fun l₂ h=>by injection h with h; subst h; exact ⟨.inl ⟨l0,rfl,rfl⟩,by simpa using hl.2.1⟩)
    ⟨q1,by rw [List.length_append,Ck],by rw [List.length_append,Ck]; exact hrm,q4,_,setRow_heap w l0.g vs0 _ e _ q5,by rw [yJ _ _ _ hseg,q6]; exact (Nat.mul_one _).symm,hrow'.rows _ _⟩
   refine ⟨_,_,_,_,hrun,ht,hm,?_⟩
   have:=Rel.bz (w:=w.setRow l0.g (gN vs0 l.length (Lib.strCells (bytes x)))) (S:=S) (m.set b (some ⟨l0.g,l0.cap,l0.sz,l.length+x.length,l0.st,[]⟩)) b ⟨l0.g,l0.cap,l0.sz,l.length+x.length,l0.st,[]⟩ (hself _) ⟨hrm,q4⟩
   exact this
  ·have hrun:=Lib.run_append_grow_string (P:=P) w t u ty e ie ze g.und gu.und ge.info ge.zero ⟨l0.g,0,none⟩ l.length l0.cap (l.map (Value.int .u8)) (by rw [List.length_map,hs1,Nat.mul_one]) (fun j v hj=>by
    have hj':j<l.length:=by have:=(List.getElem?_eq_some_iff.1 hj).1; simpa using this
    simp [hj'] at hj
    subst hj
    have:=(hrow j hj').1
    have h8:j<vs0.size:=by omega
    have hcell:=iB q5 h8
    rw [this] at hcell
    have e1:((⟨l0.g,0,none⟩:Addr).add j)=⟨l0.g,j,none⟩:=abK _ _
    rw [e1,hcell]
    simp [List.getD,hj']) (bytes x) (by rw [gT]; omega) (by rw [gT]; omega) (growslice_fits (by rw [gT]; omega) (by rw [gT,hb1]; omega))
   rw [gT] at hrun
   refine grown (l.map (Value.int .u8)) l0.cap (by simp) (fun i hi=>⟨by simp [List.getD,hi],(hrow i hi).2⟩) (some l0) h0 (by omega) (by omega) _ hrun
theorem abO (hT:bG P T) (hM:aV base w S m M) (t u ty:TypeId) {vs vx:Value} {s x:AV} (hs:Rel w S m vs s) (hx:Rel w S m vx x) (hk:aG (FD ae T M t u s x).ks) :
  cB base w S m P (FD ae T M t u s x) (Builtin.append_ #[t,u] ty #[vs,vx]):=by
 unfold FD at hk ⊢
 split at hk
 ·cases hx; exact abN hT hM t u ty hs hk
 ·exact aby hT hM t u ty hs hx hk
end Go.aT
