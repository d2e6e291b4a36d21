/- The operations of the abstract machine are sound: memory. -/
import Derived.Test.YtjkhncojgilbaaaGreatDoorEngCa
namespace Go.aT
open Go Go.RowKit
variable {P:Program} {T:aX} {base:Env} {w:World} {S:Nat->Prop} {m:aY} {M:Mem}
theorem Rel.one {v:Value} {a:AV} (h:Rel w S m v a) (hc:xZ a=true):v.oneCell'=true:=by
 cases h with
 | bF _ t l f _ h=>obtain ⟨a,cap,rfl,_⟩:=h.yw; rfl
 | _=>first | rfl | (simp [xZ] at hc)
theorem yH {cs:List AV} (h:iH cs=true) {i:Nat} (hi:i<au cs):xZ (nth cs i)=true:=by
 induction cs generalizing i with
 | nil=>simp [au] at hi
 | cons a l ih =>
  simp only [iH] at h
  split at h
  ·cases i with
   | zero=>assumption
   | succ i=>exact ih h (by simp [au] at hi; omega)
  ·simp at h
theorem Rel.cells {v:Value} {a:AV} (h:Rel w S m v a) (hc:iH (cellsOf a)=true) :
  v.cells.size=au (cellsOf a)/\(∀ i,i<au (cellsOf a)->(v.cells.getD i Go.undef).oneCell'=true)/\∀ i,i<au (cellsOf a)->Rel w S m (v.cells.getD i Go.undef) (nth (cellsOf a) i):=by
 by_cases ha:∃ cs,a = .agg cs
 ·obtain ⟨cs,rfl⟩:=ha
  cases h with
  | agg _ vs _ hl h1 h=>exact ⟨hl,h1,h⟩
 ·have e:cellsOf a=[a]:=by cases a <;> first | rfl | exact absurd ⟨_,rfl⟩ ha
  rw [e] at hc ⊢
  have hcell:xZ a=true:=yH hc (i:=0) (by simp [au])
  have h1:=h.one hcell
  have e2:v.cells = #[v]:=by cases v <;> first | rfl | (simp [Value.oneCell'] at h1)
  rw [e2]
  refine ⟨rfl,fun i hi=>?_,fun i hi=>?_⟩
  ·have:i=0:=by simp [au] at hi; omega
   subst this; exact h1
  ·have:i=0:=by simp [au] at hi; omega
   subst this; exact h
theorem Sz (hM:aV base w S m M) {t:TypeId} {vs:Array Value} {cs:List AV} (hl:vs.size=au cs) (h1:∀ i,i<au cs->(vs.getD i Go.undef).oneCell'=true)
  (h:∀ i,i<au cs->Rel w S m (vs.getD i Go.undef) (nth cs i)) {x:Sem Value} (hx:x.run P w = .ok (.pointer (some ⟨w.heap.size,0,none⟩)) (w.alloc (.cells vs t))) :
  cB base w S m P (Ff M (.cells t cs)) x:=by
 let l:Loc:=⟨w.heap.size,0,0,0,false,[]⟩
 have hst:∀ b,S b->(w.alloc (.cells vs t)).heap[b]? = w.heap[b]?:=fun b hb=>Below.heap_alloc w _ b (hM.sb b hb)
 have hlm:∀ (i:Nat) (l':Option Loc),m[i]? = some l'->(m++[some l])[i]? = some l':=fun i l' hi=>by
  rw [List.getElem?_append_left (by exact (List.getElem?_eq_some_iff.1 hi).1)]; exact hi
 obtain ⟨ht,hm⟩:=hM.alloc (.cells vs t) l (.cells t cs) rfl
  ⟨vs,Go.heap_alloc_new w _,hl,h1,fun i hi=>(h i hi).mono (fun _ h=>h) hst _ hlm⟩
 exact ⟨_,_,_,_,hx,ht,hm,.ref _ _ _ l (by rw [<- hM.len]; simp)⟩
theorem aaP (hM:aV base w S m M) (t:TypeId) {v:Value} {a:AV} (ha:Rel w S m v a) (hk:aG (Fg T M t a).ks):cB base w S m P (Fg T M t a) (Instr.box t v):=by
 unfold Fg at hk ⊢
 simp only [] at hk ⊢
 split at hk
 case h_2=>exact (aH hk).elim
 rename_i hc
 obtain ⟨hl,h1,h2⟩:=ha.cells hc
 exact Sz hM hl h1 h2 (by simp [Instr.box,newVar,newRow])
theorem aaQ (l:List UInt8):Fb l=l.length:=by induction l with | nil=>rfl | cons a l ih=>simp [Fb,ih]
theorem SA (s:ByteArray):bytes s.data.toList=s:=by simp [bytes]
theorem SB (v:Value):Rel w S m v (x8 v):=by
 unfold x8
 split
 ·split
  ·rename_i h; exact .int _ _ _ h
  ·exact .undef _ _
 ·exact .bool _ _
 ·rename_i s
  split
  ·rename_i h
   have h:=Nat.le_of_ble_eq_true h
   rw [aaQ] at h
   have:=Rel.str (w:=w) (S:=S) m s.data.toList (by unfold maxLen; omega)
   rw [SA] at this; exact this
  ·exact .undef _ _
 ·exact .dG _
 ·exact .bR _
 ·exact .bu _
 ·exact .dZ _
 ·exact .gM _
 ·exact .undef _ _
theorem aaR (l:List Value) (i:Nat) (hi:i<l.length):nth (kR l) i=x8 (l.getD i Go.undef):=by
 induction l generalizing i with
 | nil=>simp at hi
 | cons a l ih=>cases i with
  | zero=>rfl
  | succ i=>simpa [kR,nth] using ih i (by simpa using hi)
theorem KM (l:List Value):au (kR l)=l.length:=by induction l with | nil=>rfl | cons a l ih=>simp [kR,au,ih]
theorem Cg (vs:Array Value) (i:Nat) (hi:i<vs.size):Rel w S m (vs.getD i Go.undef) (nth (kR vs.toList) i):=by
 rw [aaR _ _ (by simpa using hi)]
 have:vs.toList.getD i Go.undef=vs.getD i Go.undef:=by simp [List.getD]
 rw [this]; exact SB _
theorem tC {ti:pE} {t:Nat} {d:TypeDesc} {i:TypeInfo} {z:Value} (f:yC P ti t d i z) (hc:iH ti.z=true) :
  z.cells.size=au ti.z/\(∀ j,j<au ti.z->(z.cells.getD j Go.undef).oneCell'=true)/\∀ j,j<au ti.z->Rel w S m (z.cells.getD j Go.undef) (nth ti.z j):=by
 rw [f.z] at hc ⊢
 have hl:au (kR z.cells.toList)=z.cells.size:=by rw [KM]; simp
 have hr:∀ j,j<au (kR z.cells.toList)->Rel w S m (z.cells.getD j Go.undef) (nth (kR z.cells.toList) j):=fun j hj=>Cg _ _ (by omega)
 exact ⟨hl.symm,fun j hj=>(hr j hj).one (yH hc hj),hr⟩
theorem aaS (hT:bG P T) (hM:aV base w S m M) (t:TypeId) (hk:aG (Fh T M t).ks):cB base w S m P (Fh T M t) (Instr.alloc t true (.tuple #[])):=by
 unfold Fh at hk ⊢
 split at hk
 case h_2=>exact (aH hk).elim
 rename_i h1 hc
 have h1:=Nat.le_of_ble_eq_true h1
 obtain ⟨d,i,z,f⟩:=hT.eO h1
 obtain ⟨hl,h1,h2⟩:=tC (w:=w) (S:=S) (m:=m) f hc
 exact Sz hM hl h1 h2 (by simp [Instr.alloc,zeroValue,typeInfo,f.info,f.zero,newVar,newRow])
theorem addr_add (g o n:Nat):(⟨g,o,none⟩:Addr).add n=⟨g,o+n,none⟩:=by unfold Addr.add; split <;> simp_all
theorem aaT (hT:bG P T) {t:Nat} (h:gp T t=true):∃ d i z,yC P (ag T t) t d i z/\(isAgg t).run P w = .ok true w:=by
 unfold gp at h
 cases hd:(ag T t).d with
 | struct fs =>
  obtain ⟨d,i,z,f⟩:=hT.bJ hd (by simp)
  refine ⟨d,i,z,f,?_⟩
  have:=f.d; rw [hd] at this
  obtain ⟨l,rfl,_⟩:=rq this.symm
  simp [isAgg,run_underlying f.und]
 | array n e =>
  obtain ⟨d,i,z,f⟩:=hT.bJ hd (by simp)
  refine ⟨d,i,z,f,?_⟩
  have:=f.d; rw [hd] at this
  have:=ou this.symm; subst this
  simp [isAgg,run_underlying f.und]
 | _=>simp [hd] at h
theorem aaU (hT:bG P T) {t:Nat} (h:gp T t=false) (hd:(ag T t).d≠.other):(isAgg t).run P w = .ok false w:=by
 obtain ⟨d,i,z,f⟩:=hT.bJ rfl hd
 unfold gp at h
 rw [f.d] at h hd
 cases d with
 | struct l=>exfalso; revert h hd; simp only [fO]; split <;> simp
 | array n e=>simp [fO] at h
 | _=>simp [isAgg,run_underlying f.und]
theorem yI (hT:bG P T) {t:Nat} (h:gp T t=true) {b o:Nat} (f:Nat->Value) (hc:∀ j,j<(ag T t).sz->w.cell? ⟨b,o+j,none⟩=some (f j)) :
  (Instr.loadAt t (.pointer (some ⟨b,o,none⟩))).run P w = .ok (.agg ((List.range (ag T t).sz).map f).toArray) w:=by
 obtain ⟨d,i,z,ff,ha⟩:=aaT (w:=w) hT h
 rw [ff.sz] at hc ⊢
 have hl:=run_loadCells (P:=P) w ⟨b,o,none⟩ i.size f (fun j hj=>by rw [addr_add]; exact hc j hj)
 simp [Instr.loadAt,Instr.sureAddr,loadVar,ha,sizeOf,typeInfo,ff.info,hl]
theorem vS (hT:bG P T) {t:Nat} (h:gp T t=false) (hd:(ag T t).d≠.other) {b o:Nat} {v:Value} (hc:w.cell? ⟨b,o,none⟩=some v) :
  (Instr.loadAt t (.pointer (some ⟨b,o,none⟩))).run P w = .ok v w:=by
 simp [Instr.loadAt,Instr.sureAddr,loadVar,aaU hT h hd,run_load,hc]
theorem qf (n:Nat) (f:Nat->Value) (i:Nat) (hi:i<n):(((List.range n).map f).toArray).getD i Go.undef=f i:=by
 simp [hi]
theorem iB {g:Nat} {vs:Array Value} {e:TypeId} {fr:Nat×Nat} (h:w.heap[g]? = some (.cells vs e fr)) {o:Nat} (ho:o<vs.size):w.cell? ⟨g,o,none⟩=some (vs.getD o Go.undef):=by
 rw [cell_of_row w g o vs e fr h]; simp [ho]
theorem eX (hM:aV base w S m M) {i:Nat} {l:Loc} (h:m[i]? = some (some l)):bZ w S m (some l) (blk M i):=hM.bk i _ h
theorem qg {t:Nat} (h:yc (ag T t).d=false):(ag T t).d≠.other:=by intro e; rw [e] at h; simp [yc] at h
theorem fP {r n sz off k:Nat} (hr:r<n) (hk:off+k<=sz):r*sz+off+k<=n*sz:=by
 have:(r+1)*sz<=n*sz:=Nat.mul_le_mul_right _ hr
 rw [Nat.add_mul] at this
 omega
theorem mkV {x:Sem Value} {v:Value} {a:AV} (hx:x.run P w = .ok v w) (hr:Rel w S m v a):∃ v,x.run P w = .ok v w/\Rel w S m v a:=⟨v,hx,hr⟩
theorem SC (hT:bG P T) (hM:aV base w S m M) (t:TypeId) {v:Value} {a:AV} (ha:Rel w S m v a) (hk:aG (pF T M t a).ks):∃ u,(Instr.loadAt t v).run P w = .ok u w/\Rel w S m u (pF T M t a).v:=by
 unfold pF at hk ⊢
 split at hk
 ·
  rename_i n c hag
  split at hk
  case h_2=>exact (aH hk).elim
  rename_i hn
  have hn:=Nat.le_of_ble_eq_true hn
  cases ha with
  | bS _ b o _ _ f hs hc h =>
   exact mkV (yI hT hag f fun j hj=>(hc j (by omega)).1) (.agg _ _ _ (by rw [kV]; simp) (fun i hi=>by rw [kV] at hi; rw [qf _ _ _ hi]; exact (hc i (by omega)).2)
    fun i hi=>by rw [kV] at hi; rw [qf _ _ _ hi,sU _ _ _ _ hi,Nat.zero_add]; exact (h i (by omega)).weak)
 ·rename_i b off hag
  split at hk
  case h_3=>exact (aH hk).elim
  case h_2 =>
   rename_i e u x hb
   split at hk
   case h_2=>exact (aH hk).elim
   have hn:off+(ag T t).sz<=x.length:=Nat.le_of_ble_eq_true (aG.cons.1 hk).1
   cases ha with
   | ref _ _ _ l h =>
    have hB:=eX hM h
    rw [hb] at hB
    obtain ⟨vs,h1,h2,h3⟩:=hB
    exact mkV (yI hT hag (fun j=>vs.getD (off+j) Go.undef) fun j hj=>iB h1 (by omega)) (.agg _ _ _ (by rw [kV]; simp) (fun i hi=>by rw [kV] at hi; rw [qf _ _ _ hi]; exact (h3 _ (by omega)).1)
     fun i hi=>by rw [kV] at hi; rw [qf _ _ _ hi,sU _ _ _ _ hi,Nat.zero_add]; exact (h3 _ (by omega)).2.weak)
  rename_i e cs hb
  split at hk
  case h_2=>exact (aH hk).elim
  rename_i hn
  have hn:=Nat.le_of_ble_eq_true hn
  cases ha with
  | ref _ _ _ l h =>
   have hB:=eX hM h
   rw [hb] at hB
   obtain ⟨vs,h1,h2,h3,h4⟩:=hB
   have e:au (takeN (ag T t).sz (jP off cs))=(ag T t).sz:=Kq _ _ (by rw [Kr]; omega)
   exact mkV (yI hT hag (fun j=>vs.getD (off+j) Go.undef) fun j hj=>iB h1 (by omega)) (.agg _ _ _ (by rw [e]; simp) (fun i hi=>by rw [e] at hi; rw [qf _ _ _ hi]; exact h3 _ (by omega))
    fun i hi=>by rw [e] at hi; rw [qf _ _ _ hi,Kt _ _ _ _ hi]; exact h4 _ (by omega))
 ·rename_i b i off hag
  split at hk
  case h_3=>exact (aH hk).elim
  case h_2 =>
   rename_i e u x hb
   split at hk
   case h_2=>exact (aH hk).elim
   rename_i hn
   have hn:=Nat.le_of_ble_eq_true hn
   cases ha with
   | bY _ _ _ _ l h hr =>
    have hB:=eX hM h
    rw [hb] at hB
    obtain ⟨k0,k1,h2,h3,vs,h4,h5,h6⟩:=hB
    have e:au (takeN (ag T t).sz (jP off (jk u x i)))=(ag T t).sz:=Kq _ _ (by rw [Kr,Su]; omega)
    rw [<- k0] at hn h5 h6; rw [<- k1] at h2 h6
    have hlim:∀ j,j<(ag T t).sz->i*l.sz+off+j<vs.size:=fun j hj=>by
     have:=fP (off:=off) (k:=j+1) hr (show off+(j+1)<=l.sz by omega)
     have h8:l.n*l.sz<=l.cap*l.sz:=Nat.mul_le_mul_right _ h2
     omega
    exact mkV (yI hT hag (fun j=>vs.getD (i*l.sz+off+j) Go.undef) fun j hj=>iB h4 (hlim j hj)) (.agg _ _ _ (by rw [e]; simp)
     (fun j hj=>by rw [e] at hj; rw [qf _ _ _ hj,Nat.add_assoc]; exact (h6 i hr (off+j) (by omega)).1)
     fun j hj=>by rw [e] at hj; rw [qf _ _ _ hj,Kt _ _ _ _ hj,Nat.add_assoc]; exact (h6 i hr (off+j) (by omega)).2.weak)
  rename_i e sz n c hb
  split at hk
  case h_2=>exact (aH hk).elim
  rename_i hn
  have hn:=Nat.le_of_ble_eq_true hn
  cases ha with
  | bY _ _ _ _ l h hr =>
   have hB:=eX hM h
   rw [hb] at hB
   obtain ⟨rfl,rfl,h2,h3,vs,h4,h5,h6⟩:=hB
   have hlim:∀ j,j<(ag T t).sz->i*l.sz+off+j<vs.size:=fun j hj=>by
    have:=fP (off:=off) (k:=j+1) hr (show off+(j+1)<=l.sz by omega)
    have h8:l.n*l.sz<=l.cap*l.sz:=Nat.mul_le_mul_right _ h2
    omega
   exact mkV (yI hT hag (fun j=>vs.getD (i*l.sz+off+j) Go.undef) fun j hj=>iB h4 (hlim j hj)) (.agg _ _ _ (by rw [kV]; simp)
    (fun j hj=>by rw [kV] at hj; rw [qf _ _ _ hj,Nat.add_assoc]; exact (h6 i hr (off+j) (by omega)).1)
    fun j hj=>by rw [kV] at hj; rw [qf _ _ _ hj,sU _ _ _ _ hj,Nat.add_assoc]; exact (h6 i hr (off+j) (by omega)).2.weak)
 ·rename_i hag
  split at hk
  ·rename_i n c hd
   split at hk
   case h_2=>exact (aH hk).elim
   rename_i hn
   have hn:=Nat.le_of_ble_eq_true hn
   cases ha with
   | bS _ b o _ _ f hs hc h =>
    exact mkV (vS hT hag (qg hd) (by simpa using (hc 0 (by omega)).1)) (h 0 (by omega)).weak
  ·rename_i k cs hd
   split at hk
   case h_2=>exact (aH hk).elim
   cases ha with
   | iM _ b o _ _ f hs hi hc h =>
    exact mkV (vS hT hag (qg hd) (hc k hi).1) (h k hi)
  ·rename_i b off hd
   split at hk
   case h_3=>exact (aH hk).elim
   case h_2 =>
    rename_i e u x hb
    split at hk
    case h_2=>exact (aH hk).elim
    have hn:off+1<=x.length:=Nat.le_of_ble_eq_true (aG.cons.1 hk).1
    cases ha with
    | ref _ _ _ l h =>
     have hB:=eX hM h
     rw [hb] at hB
     obtain ⟨vs,h1,h2,h3⟩:=hB
     exact mkV (vS hT hag (qg hd) (iB h1 (by omega))) (h3 _ (by omega)).2.weak
   rename_i e cs hb
   split at hk
   case h_2=>exact (aH hk).elim
   rename_i hn
   have hn:=Nat.le_of_ble_eq_true hn
   cases ha with
   | ref _ _ _ l h =>
    have hB:=eX hM h
    rw [hb] at hB
    obtain ⟨vs,h1,h2,h3,h4⟩:=hB
    exact mkV (vS hT hag (qg hd) (iB h1 (by omega))) (h4 _ (by omega))
  ·rename_i b i off hd
   split at hk
   case h_3=>exact (aH hk).elim
   case h_2 =>
    rename_i e u x hb
    split at hk
    case h_2=>exact (aH hk).elim
    rename_i hn
    have hn:=Nat.le_of_ble_eq_true hn
    cases ha with
    | bY _ _ _ _ l h hr =>
     have hB:=eX hM h
     rw [hb] at hB
     obtain ⟨k0,k1,h2,h3,vs,h4,h5,h6⟩:=hB
     rw [<- k0] at hn h5 h6; rw [<- k1] at h2 h6
     have hlim:i*l.sz+off<vs.size:=by
      have:=fP (off:=off) (k:=1) hr hn
      have h8:l.n*l.sz<=l.cap*l.sz:=Nat.mul_le_mul_right _ h2
      omega
     exact mkV (vS hT hag (qg hd) (iB h4 hlim)) (h6 i hr off (by omega)).2.weak
   rename_i e sz n c hb
   split at hk
   case h_2=>exact (aH hk).elim
   rename_i hn
   have hn:=Nat.le_of_ble_eq_true hn
   cases ha with
   | bY _ _ _ _ l h hr =>
    have hB:=eX hM h
    rw [hb] at hB
    obtain ⟨rfl,rfl,h2,h3,vs,h4,h5,h6⟩:=hB
    have hlim:i*l.sz+off<vs.size:=by
     have:=fP (off:=off) (k:=1) hr hn
     have h8:l.n*l.sz<=l.cap*l.sz:=Nat.mul_le_mul_right _ h2
     omega
    exact mkV (vS hT hag (qg hd) (iB h4 hlim)) (h6 i hr off (by omega)).2.weak
  ·exact (aH hk).elim
 ·exact (aH hk).elim
theorem SE (t:Nat) (x:AV):(pF T M t x).m=M/\(pF T M t x).inv=none:=by
 unfold pF
 repeat' split
 all_goals exact ⟨rfl,rfl⟩
theorem aaV (hT:bG P T) (hM:aV base w S m M) (t:TypeId) {v:Value} {a:AV} (ha:Rel w S m v a) (hk:aG (pF T M t a).ks):cB base w S m P (pF T M t a) (Instr.loadAt t v):=by
 obtain ⟨u,h1,h2⟩:=SC hT hM t ha hk
 obtain ⟨e1,e2⟩:=SE (T:=T) (M:=M) t a
 exact ⟨u,w,S,m,h1,by rw [e2]; exact .refl _ _ _ _,by rw [e1]; exact hM,h2⟩
theorem vT (cs:List AV) (off:Nat) (l:List AV):au (nV cs off l)=au cs:=by
 induction l generalizing cs off with
 | nil=>rfl
 | cons v l ih=>simp only [nV]; rw [ih,lQ]
theorem FZ (v:AV) (l:List AV):au (v::l)=au l+1:=rfl
theorem KO (cs:List AV) (off:Nat) (l:List AV) (i:Nat) (h:off+au l<=au cs):nth (nV cs off l) i=if off<=i/\i<off+au l then nth l (i-off) else nth cs i:=by
 induction l generalizing cs off with
 | nil=>rw [if_neg (by simp [au])]; rfl
 | cons v l ih =>
  rw [FZ] at h
  show nth (nV (put cs off v) (off+1) l) i=_
  rw [ih _ _ (by rw [lQ]; omega),jS]
  by_cases h1:off=i
  ·subst h1
   rw [if_neg (by omega),if_pos ⟨rfl,by omega⟩,if_pos (by rw [FZ]; omega)]
   simp [nth]
  ·by_cases h2:off+1<=i/\i<off+1+au l
   ·rw [if_pos h2,if_pos (by rw [FZ]; omega)]
    obtain ⟨j,rfl⟩:∃ j,i=off+1+j:=⟨i-(off+1),by omega⟩
    rw [show off+1+j-(off+1)=j from by omega,show off+1+j-off=j+1 from by omega]
    rfl
   ·rw [if_neg h2,if_neg (fun x=>h1 x.1),if_neg (by rw [FZ]; omega)]
def gN (vs:Array Value) (off:Nat) (cs:List Value):Array Value:=(vs.toList.take off++cs++vs.toList.drop (off+cs.length)).toArray
theorem yJ (vs:Array Value) (off:Nat) (cs:List Value) (h:off+cs.length<=vs.size):(gN vs off cs).size=vs.size:=by
 simp [gN]; omega
theorem tF (vs:Array Value) (off:Nat) (cs:List Value) (h:off+cs.length<=vs.size) (i:Nat) :
  (gN vs off cs).getD i Go.undef=if off<=i/\i<off+cs.length then cs.getD (i-off) Go.undef else vs.getD i Go.undef:=by
 have h0:(vs.toList.take off).length=off:=by simp; omega
 simp only [gN,Array.getD_eq_getD_getElem?,List.getElem?_toArray,List.getD]
 rw [List.append_assoc,List.getElem?_append]
 rw [h0]
 by_cases h1:i<off
 ·rw [if_pos h1,if_neg (by omega)]
  rw [List.getElem?_take_of_lt h1]; simp
 ·rw [if_neg h1,List.getElem?_append]
  by_cases h2:i-off<cs.length
  ·rw [if_pos h2,if_pos (by omega)]
  ·rw [if_neg h2,if_neg (by omega),List.getElem?_drop]
   rw [show off+cs.length+(i-off-cs.length)=i from by omega]
   simp
theorem yK (g:Nat) (cs:Array Value) (hg:¬ base.Z g):bX base.Z w (w.setRow g cs) :=
 ⟨rfl,rfl,rfl,by simp,fun k hk=>setRow_other w g k _ (fun e=>hg (e▸hk))⟩
theorem yL (vs:Array Value) (i:Nat):vs.toList.getD i Go.undef=vs.getD i Go.undef:=by simp [List.getD]
theorem aaW {vs:Array Value} {v:Value} (h:v∈vs.toList):∃ i,i<vs.size/\vs.getD i Go.undef=v:=by
 obtain ⟨i,hi,rfl⟩:=List.getElem_of_mem h
 have hi':i<vs.size:=by simpa using hi
 exact ⟨i,hi',by simp [hi']⟩
def vU (base:Env) (w:World) (S:Nat->Prop) (m:aY) (P:Program) (r:R) (x:Sem Unit):Prop :=
 ∃ w' S' m',x.run P w = .ok () w'/\Trans base w S m w' S' m' r.inv/\aV base w' S' m' (r.m)/\r.v = .undef
def tH (fz:Nat×Nat) (n:Nat):Prop:=fz=(0,0)\/n<=fz.1
theorem Loc.F3 {l:Loc} {n:Nat} (h:n=l.cap*l.sz):tH l.fz n:=by
 unfold Loc.fz
 cases l.st
 ·exact .inl rfl
 ·exact .inr (by rw [h]; exact Nat.le_refl _)
theorem tH.free {fz:Nat×Nat} {n k:Nat} (h:tH fz n) (hk:k<n) {g:Nat} {cur:Array Value} {t:TypeId} (hg:w.heap[g]? = some (.cells cur t fz)):w.frozen? ⟨g,k,none⟩=false:=by
 obtain ⟨lo,hi⟩:=fz
 rcases h with h | h
 ·cases h; simp [World.frozen?,hg]
 ·have h:n<=lo:=h
  have:¬ lo<=k:=by omega
  simp [World.frozen?,hg,this]
theorem F4 (P:Program) (g o:Nat) (t:TypeId) {fz:Nat×Nat}:∀ (l:List Value) (i:Nat) (cur:Array Value) (w:World),tH fz cur.size->w.heap[g]? = some (.cells cur t fz)->o+i+l.length<=cur.size->(∀ v∈l,v.oneCell'=true) ->
  (storeCells ⟨g,o,none⟩ l i).run P w = .ok () (w.setRow g (cur.toList.take (o+i)++l++cur.toList.drop (o+i+l.length)).toArray):=by
 intro l
 induction l with
 | nil =>
  intro i cur w _ hg _ _
  simp only [storeCells,List.append_nil,List.length_nil,Nat.add_zero,List.take_append_drop,Array.toArray_toList,setRow_self w g cur t fz hg]
  rfl
 | cons v rest ih =>
  intro i cur w hf hg hl h1
  have hi:o+i<cur.size:=by simp at hl; omega
  have hadd:(⟨g,o,none⟩:Addr).add i=⟨g,o+i,none⟩:=by unfold Addr.add; split <;> simp_all
  have hcell:w.cell? ⟨g,o+i,none⟩=some cur[o+i]:=by simp [World.cell?,hg,hi]
  have hst:(store ((⟨g,o,none⟩:Addr).add i) v).run P w = .ok () (w.setRow g (cur.setIfInBounds (o+i) v)):=by
   rw [hadd,run_store P w _ v _ (h1 v (by simp)),hcell]
   simp [hf.free hi hg,setCell_eq_setRow w g (o+i) cur t fz v hg]
  have h:=ih (i+1) (cur.setIfInBounds (o+i) v) (w.setRow g (cur.setIfInBounds (o+i) v)) (by simpa using hf) (setRow_heap w g cur _ t _ hg) (by simp at hl ⊢; omega) fun x hx=>h1 x (by simp [hx])
  simp only [storeCells,Sem.run_bind,hst,Result.andThen_ok,h,setRow_setRow]
  congr 3
  simpa [Array.toList_setIfInBounds,Nat.add_assoc] using list_seg_step cur.toList (o+i) v rest (by simp at hl ⊢; omega)
theorem KP (hT:bG P T) {t:Nat} (hsz:1<=(ag T t).sz) {g o:Nat} {vs:Array Value} {e:TypeId} {fz:Nat×Nat} (hfz:tH fz vs.size) (hg:w.heap[g]? = some (.cells vs e fz)) {v:Value} (hv:v.cells.size=(ag T t).sz)
  (hone:∀ i,i<v.cells.size->(v.cells.getD i Go.undef).oneCell'=true) (hfit:o+(ag T t).sz<=vs.size) :
  (Instr.storeAt t (.pointer (some ⟨g,o,none⟩)) v).run P w = .ok () (w.setRow g (gN vs o v.cells.toList)):=by
 obtain ⟨d,i,z,f⟩:=hT.eO hsz
 have hst:=F4 P g o e v.cells.toList 0 vs w hfz hg (by simp; omega) (fun u hu=>by obtain ⟨i,hi,rfl⟩:=aaW hu; exact hone i hi)
 simp only [Nat.add_zero] at hst
 rw [f.sz] at hv
 simp [Instr.storeAt,Instr.sureAddr,storeVar,sizeOf,typeInfo,f.info,hv,hst,gN]
theorem ow {cs:List AV} (h:jl cs=true) {i:Nat} (hi:i<au cs):outside (nth cs i)=true:=by
 induction cs generalizing i with
 | nil=>simp [au] at hi
 | cons a l ih =>
  simp only [jl] at h
  split at h
  ·cases i with
   | zero=>assumption
   | succ i=>exact ih h (by simp [au] at hi; omega)
  ·simp at h
theorem Rel.out {v:Value} {a:AV} (h:Rel w S m v a) (ho:outside a=true) (m':aY):Rel w S m' v a:=by
 cases h with
 | undef=>exact .undef _ _
 | int _ k n h=>exact .int _ _ _ h
 | bool=>exact .bool _ _
 | str _ s h=>exact .str _ _ h
 | dG=>exact .dG _
 | bS _ b o n c f hs hc h=>exact .bS _ _ _ _ _ _ hs hc h
 | slice _ b o sz n cap full c f hs hn hcap hf hc h=>exact .slice _ _ _ _ _ _ _ _ _ hs hn hcap hf hc h
 | dL _ a cap sz full c hcap hf=>exact .dL _ _ _ _ _ _ hcap hf
 | bF _ t l f _ h=>exact .bF _ _ _ _ _ (h.yu _)
 | bR=>exact .bR _
 | emp _ a=>exact .emp _ _
 | eU _ id fs cs as0 bs hl0 hl h0 h=>exact .eU _ _ _ _ _ _ hl0 hl h0 h
 | bu=>exact .bu _
 | mv _ b es ck t u x hs hg hl h1 h2 hok=>exact .mv _ _ _ _ _ _ _ hs hg hl h1 h2 hok
 | iL=>exact .iL _
 | dZ=>exact .dZ _
 | gM=>exact .gM _
 | _=>simp [outside] at ho
theorem Rel.ng {v:Value} {a:AV} (h:Rel w S m v a) (ho:aT.ng a=true) (m':aY):Rel w S m' v a:=by
 cases a with
 | agg cs =>
  cases h with
  | agg _ vs _ hl h1 h=>exact .agg _ _ _ hl h1 fun i hi=>(h i hi).out (ow ho hi) _
 | _=>exact h.out ho _
theorem SF {cs:List AV} (h:BD cs=true) {i:Nat} (hi:i<au cs):aT.ng (nth cs i)=true:=by
 induction cs generalizing i with
 | nil=>simp [au] at hi
 | cons a l ih =>
  simp only [BD] at h
  split at h
  ·cases i with
   | zero=>assumption
   | succ i=>exact ih h (by simp [au] at hi; omega)
  ·simp at h
theorem SH (hT:bG P T) (hM:aV base w S m M) (t:TypeId) {va vv:Value} {a v:AV} (ha:Rel w S m va a) (hv:Rel w S m vv v) (hk:aG (u7 T M t a v).ks)
  (hty:∀ b i off e u x,a = .bY b i off->blk M b = .bC e u x->False) :
  vU base w S m P (u7 T M t a v) (Instr.storeAt t va vv):=by
 unfold u7 at hk ⊢
 split at hk
 ·rename_i b off h1 h2 h3
  have h1:=Nat.le_of_ble_eq_true h1
  have h2:=Nat.eq_of_beq_eq_true h2
  obtain ⟨c1,c2,c3⟩:=hv.cells h3
  split at hk
  case h_3=>exact (aH hk).elim
  case h_2 =>
   rename_i e u x hb
   split at hk
   case h_2=>exact (aH hk).elim
   rename_i y g1 g2 g3 g4
   have g1:=Nat.eq_of_beq_eq_true g1
   have g2:=Nat.eq_of_beq_eq_true g2
   have hn:off+1<=x.length:=Nat.le_of_ble_eq_true (aG.cons.1 hk).1
   obtain ⟨r1,r2⟩:=qc g4
   cases ha with
   | ref _ _ _ l h =>
    have hB:=eX hM h
    rw [hb] at hB
    obtain ⟨vs,e1,e2,e3⟩:=hB
    have hlen:vv.cells.toList.length=au (cellsOf v):=by simpa using c1
    have hseg:off+vv.cells.toList.length<=vs.size:=by omega
    have hl:=hM.lt _ _ h
    have hst:∀ b,b<w.heap.size->b≠l.g->(w.setRow l.g (gN vs off vv.cells.toList)).heap[b]? = w.heap[b]?:=fun b _ hne=>setRow_other w l.g b _ hne
    have hS:∀ b,S b->(w.setRow l.g (gN vs off vv.cells.toList)).heap[b]? = w.heap[b]?:=fun b hb=>hst b (hM.sb b hb) (fun e=>hl.2.2 (e▸hb))
    obtain ⟨ht,hm'⟩:=hM.turn b l h (.arr e u (x.set off y)) (fun h=>by rw [hb] at h; cases h) (yK l.g _ hl.1) hst
     ⟨gN vs off vv.cells.toList,setRow_heap w l.g vs _ e _ e1,by rw [yJ _ _ _ hseg,List.length_set]; exact e2,
      fun i hi=>by
       rw [List.length_set] at hi
       rw [tF _ _ _ hseg,hlen]
       by_cases hin:off<=i/\i<off+au (cellsOf v)
       ·rw [if_pos hin]
        obtain rfl:i=off:=by omega
        rw [Nat.sub_self,yL]
        have ev:vw u (x.set i y) i 0=nth (dB u y) 0:=by
         show nth (dB u ((x.set i y).getD i (aS u))) 0=_
         rw [List.getD,List.getElem?_set_self hi]; rfl
        refine ⟨c2 _ (by omega),?_⟩
        rw [ev]
        exact r2 0 (by omega) _ _ _ _ (((c3 _ (by omega)).out (ow g3 (by omega)) []).mono (fun _ h=>h) hS _ (fun _ _ h=>h))
       ·rw [if_neg hin]
        have hne:i≠off:=fun e=>hin (by omega)
        have ev:vw u (x.set off y) i 0=vw u x i 0:=by
         show nth (dB u ((x.set off y).getD i (aS u))) 0=nth (dB u (x.getD i (aS u))) 0
         rw [List.getD,List.getElem?_set_ne (Ne.symm hne)]; rfl
        rw [ev]
        exact ⟨(e3 i hi).1,(e3 i hi).2.mono (fun _ h=>h) hS _ (fun _ _ h=>h)⟩⟩
    exact ⟨_,_,_,KP hT h1 (.inl rfl) e1 (by omega) (fun i hi=>c2 i (by omega)) (by omega),ht,hm',rfl⟩
  rename_i e old hb
  split at hk
  case h_2=>exact (aH hk).elim
  rename_i hn
  have hn:=Nat.le_of_ble_eq_true hn
  cases ha with
  | ref _ _ _ l h =>
   have hB:=eX hM h
   rw [hb] at hB
   obtain ⟨vs,e1,e2,e3,e4⟩:=hB
   have hlen:vv.cells.toList.length=au (cellsOf v):=by simpa using c1
   have hseg:off+vv.cells.toList.length<=vs.size:=by omega
   have hl:=hM.lt _ _ h
   have hst:∀ b,b<w.heap.size->b≠l.g->(w.setRow l.g (gN vs off vv.cells.toList)).heap[b]? = w.heap[b]?:=fun b _ hne=>setRow_other w l.g b _ hne
   have hS:∀ b,S b->(w.setRow l.g (gN vs off vv.cells.toList)).heap[b]? = w.heap[b]?:=fun b hb=>hst b (hM.sb b hb) (fun e=>hl.2.2 (e▸hb))
   obtain ⟨ht,hm'⟩:=hM.turn b l h (.cells e (nV old off (cellsOf v))) (fun _=>rfl) (yK l.g _ hl.1) hst
    ⟨gN vs off vv.cells.toList,setRow_heap w l.g vs _ e _ e1,by rw [yJ _ _ _ hseg,vT]; exact e2,
     fun i hi=>by
      rw [vT] at hi
      rw [tF _ _ _ hseg,hlen]
      split
      ·rw [yL]; exact c2 _ (by omega)
      ·exact e3 _ hi,
     fun i hi=>by
      rw [vT] at hi
      rw [tF _ _ _ hseg,hlen,KO _ _ _ _ (by omega)]
      split
      ·rw [yL]; exact (c3 _ (by omega)).mono (fun _ h=>h) hS _ (fun _ _ h=>h)
      ·exact (e4 _ hi).mono (fun _ h=>h) hS _ (fun _ _ h=>h)⟩
   exact ⟨_,_,_,KP hT h1 (.inl rfl) e1 (by omega) (fun i hi=>c2 i (by omega)) (by omega),ht,hm',rfl⟩
 ·rename_i b i off h1 h2 h3
  have h1:=Nat.le_of_ble_eq_true h1
  have h2:=Nat.eq_of_beq_eq_true h2
  obtain ⟨c1,c2,c3⟩:=hv.cells h3
  split at hk
  case h_3=>exact (aH hk).elim
  case h_2 =>
   rename_i e u x hb hout
   split at hk
   case h_2=>exact (aH hk).elim
   rename_i y hn hrd
   exact (hty b i off e u x rfl hb).elim
  rename_i e sz n c hb hout
  split at hk
  case h_2=>exact (aH hk).elim
  rename_i hn
  have hn:=Nat.le_of_ble_eq_true hn
  cases ha with
  | bY _ _ _ _ l h hr =>
   have hB:=eX hM h
   rw [hb] at hB
   obtain ⟨rfl,rfl,k2,k3,vs,e1,e2,e3⟩:=hB
   have hlen:vv.cells.toList.length=au (cellsOf v):=by simpa using c1
   have hlim:=fP (off:=off) (k:=(ag T t).sz) hr hn
   have h8:l.n*l.sz<=l.cap*l.sz:=Nat.mul_le_mul_right _ k2
   have hseg:(i*l.sz+off)+vv.cells.toList.length<=vs.size:=by omega
   have hl:=hM.lt _ _ h
   have hst:∀ b,b<w.heap.size->b≠l.g->(w.setRow l.g (gN vs (i*l.sz+off) vv.cells.toList)).heap[b]? = w.heap[b]?:=fun b _ hne=>setRow_other w l.g b _ hne
   have hS:∀ b,S b->(w.setRow l.g (gN vs (i*l.sz+off) vv.cells.toList)).heap[b]? = w.heap[b]?:=fun b hb=>hst b (hM.sb b hb) (fun e=>hl.2.2 (e▸hb))
   have hpos:∀ r j,j<l.sz->((i*l.sz+off<=r*l.sz+j/\r*l.sz+j<i*l.sz+off+au (cellsOf v))↔(r=i/\off<=j/\j<off+(ag T t).sz)):=fun r j hj=>by
    constructor
    ·rintro ⟨a1,a2⟩
     have hri:r=i:=by
      rcases Nat.lt_trichotomy r i with hlt | heq | hgt
      ·have:(r+1)*l.sz<=i*l.sz:=Nat.mul_le_mul_right _ hlt
       rw [Nat.add_mul] at this; omega
      ·exact heq
      ·have:(i+1)*l.sz<=r*l.sz:=Nat.mul_le_mul_right _ hgt
       rw [Nat.add_mul] at this; omega
     subst hri
     exact ⟨rfl,by omega,by omega⟩
    ·rintro ⟨rfl,a1,a2⟩; omega
   obtain ⟨ht,hm'⟩:=hM.turn b l h (.rows e l.sz l.n (Fe c i off (ag T t).sz (cellsOf v))) (fun h=>by rw [hb] at h; cases h) (yK l.g _ hl.1) hst
    ⟨rfl,rfl,k2,k3,gN vs (i*l.sz+off) vv.cells.toList,setRow_heap w l.g vs _ e _ e1,by rw [yJ _ _ _ hseg]; exact e2,
     fun r hr' j hj=>by
      rw [tF _ _ _ hseg,hlen]
      simp only [Fe]
      by_cases hin:r=i/\off<=j/\j<off+(ag T t).sz
      ·rw [if_pos ((hpos r j hj).2 hin),if_pos hin.1,if_pos hin.2,yL]
       obtain ⟨rfl,a1,a2⟩:=hin
       rw [show r*l.sz+j-(r*l.sz+off)=j-off from by omega]
       exact ⟨c2 _ (by omega),((c3 _ (by omega)).out (ow hout (by omega)) []).mono (fun _ h=>h) hS _ (fun _ _ h=>h)⟩
      ·rw [if_neg (fun x=>hin ((hpos r j hj).1 x))]
       have e4:=e3 r hr' j hj
       have e5:(if r=i then (if off<=j/\j<off+(ag T t).sz then nth (cellsOf v) (j-off) else c r j) else c r j)=c r j:=by
        split
        ·rename_i hri; rw [if_neg (fun x=>hin ⟨hri,x⟩)]
        ·rfl
       rw [e5]
       exact ⟨e4.1,e4.2.mono (fun _ h=>h) hS _ (fun _ _ h=>h)⟩⟩
   exact ⟨_,_,_,KP hT h1 (Loc.F3 e2) e1 (by omega) (fun i hi=>c2 i (by omega)) (by omega),ht,hm',rfl⟩
 ·exact (aH hk).elim
theorem aaX (hT:bG P T) (hM:aV base w S m M) (t:TypeId) {va vv:Value} {a v:AV} (ha:Rel w S m va a) (hv:Rel w S m vv v) (hk:aG (u7 T M t a v).ks) :
  vU base w S m P (u7 T M t a v) (Instr.storeAt t va vv):=by
 by_cases hty:∃ b i off e u x,a = .bY b i off/\blk M b = .bC e u x
 ·obtain ⟨b,i,off,e,u,x,rfl,hb⟩:=hty
  have h0:=SH (M:=iy M) hT hM.un t ha hv
  have hbu:blk (iy M) b = .rows e (aW u) x.length (vw u x):=by rw [gB,hb]; rfl
  unfold u7 at h0 hk ⊢
  split at hk
  ·cases ‹AV.bY _ _ _=AV.ref _ _›
  ·rename_i b' i' off' h1 h2 h3 heq
   injection heq with e1 e2 e3; subst e1 e2 e3
   simp only [h1,h2,h3,hb,hbu] at h0 hk ⊢
   cases hout:jl (cellsOf v) with
   | false=>simp only [hout] at hk; exact (aH hk).elim
   | true =>
    simp only [hout] at h0 hk ⊢
    cases hn:Nat.ble (off+(ag T t).sz) (aW u) with
    | false=>simp only [hn] at hk; exact (aH hk).elim
    | true =>
     cases hrd:ic u (nV (jk u x i) off (cellsOf v)) with
     | none=>simp only [hn,hrd] at hk; exact (aH hk).elim
     | some y =>
      simp only [hn] at h0 ⊢
      obtain ⟨w',S',m',q1,q2,q3,q4⟩:=h0 trivial (fun b i off e u x h1 h2=>by rw [gB] at h2; cases hB:blk M b <;> rw [hB] at h2 <;> cases h2)
      obtain ⟨r1,r2⟩:=qc hrd
      have hn':=Nat.le_of_ble_eq_true hn
      have hlen:=Nat.eq_of_beq_eq_true h2
      refine ⟨w',S',m',q1,q2,?_,rfl⟩
      rw [aaO _ _ _ rfl] at q3
      refine q3.to ?_ (fun j l _ hB=>?_) (fun j hc=>?_)
      ·simp only [iA,kG]
      ·simp only [gB,gF] at hB ⊢
       split
       ·rename_i hj
        rw [if_pos hj] at hB
        refine bZ.typed hB rfl (by simp) (fun r hr j hj=>?_)
        rw [aaM _ _ _ _ _ _ hr]
        unfold Fe
        split
        ·rename_i hri
         subst hri
         rw [if_pos rfl]
         have:=r2 j hj
         rw [KO _ _ _ _ (by rw [Su]; omega),hlen] at this
         exact this
        ·rename_i hri
         rw [if_neg (fun e=>hri e.symm)]
         exact Le.refl _
       ·rename_i hj
        rw [if_neg hj] at hB
        exact bZ.un.1 hB
      ·simp only [gB,gF] at hc ⊢
       split
       ·rename_i hj; rw [if_pos hj] at hc; cases hc
       ·rename_i hj; rw [if_neg hj,tu] at hc; exact hc
  ·exact (aH hk).elim
 ·exact SH hT hM t ha hv hk fun b i off e u x h1 h2=>hty ⟨b,i,off,e,u,x,h1,h2⟩
end Go.aT
