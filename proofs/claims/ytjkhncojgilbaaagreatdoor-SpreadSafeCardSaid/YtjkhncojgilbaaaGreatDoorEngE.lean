/- The operations of the abstract machine are sound: slices, strings, the builtins. -/
import Derived.Test.YtjkhncojgilbaaaGreatDoorEngD
namespace Go.aT
open Go Go.RowKit
variable {P:Program} {T:aX} {base:Env} {w:World} {S:Nat->Prop} {m:aY} {M:Mem}
theorem aaY (hM:aV base w S m M) (op:UnOp) {v:Value} {a:AV} (ha:Rel w S m v a) (hk:aG (uZ ae M op a).ks):cB base w S m P (uZ ae M op a) (Op.unary op v):=by
 unfold uZ at hk ⊢
 split at hk
 ·cases ha; exact .val hM (v:=.bool _) rfl (.bool _ _)
 ·cases ha; exact .val hM (v:=.int _ _) rfl (.int _ _ _ (wf_wrap _ _))
 ·rename_i k n
  cases ha
  refine .val hM (v:=.int k (Kh .xor k (match k.signed with | true => -1 | false=>k.max) n)) ?_ (.int _ _ _ (wf_wrap _ _))
  cases k <;> rfl
 ·exact (aH hk).elim
theorem aaZ (hT:bG P T) (hM:aV base w S m M) (s d:TypeId) {v:Value} {a:AV} (ha:Rel w S m v a) (hk:aG (u6 ae T M s d a).ks):cB base w S m P (u6 ae T M s d a) (convert s d v):=by
 unfold u6 at hk ⊢
 split at hk
 ·rename_i hs hd
  obtain ⟨_,_,_,f⟩:=hT.bJ hs (by simp)
  obtain ⟨_,_,_,g⟩:=hT.bJ hd (by simp)
  have:=f.d; rw [hs] at this; have:=vQ this.symm; subst this
  have:=g.d; rw [hd] at this; have:=vQ this.symm; subst this
  cases ha
  exact .val hM (v:=.int _ _) (by simp [convert,run_underlying f.und,run_underlying g.und,Conv.intToInt]; rfl) (.int _ _ _ (wf_wrap _ _))
 ·rename_i hs hd
  obtain ⟨_,_,_,f⟩:=hT.bJ hs (by simp)
  obtain ⟨_,_,_,g⟩:=hT.bJ hd (by simp)
  have:=f.d; rw [hs] at this; have:=oq this.symm; subst this
  have:=g.d; rw [hd] at this; have:=oq this.symm; subst this
  cases ha with
  | str _ _ h=>exact .val hM (by simp [convert,run_underlying f.und,run_underlying g.und]) (.str _ _ h)
 ·exact (aH hk).elim
theorem KQ (l:List Field) (f:Nat) {t off:Nat} (h:pJ (l.map fun f=>(f.type,f.offset)) f=some (t,off)):∃ fd,l[f]? = some fd/\fd.type=t/\fd.offset=off:=by
 induction l generalizing f with
 | nil=>simp [pJ] at h
 | cons a l ih=>cases f with
  | zero=>simp [pJ] at h; exact ⟨a,rfl,h.1,h.2⟩
  | succ f=>simpa using ih f (by simpa [pJ] using h)
theorem aa0 (hT:bG P T) (hM:aV base w S m M) (t f:Nat) {v:Value} {a:AV} (ha:Rel w S m v a) (hk:aG (vo T M t a f).ks) :
  cB base w S m P (vo T M t a f) (Instr.fieldAt t v f):=by
 unfold vo at hk ⊢
 split at hk
 case h_2=>exact (aH hk).elim
 rename_i fs htd
 obtain ⟨_,_,_,g⟩:=hT.bJ htd (by simp)
 have hd:=g.d; rw [htd] at hd
 obtain ⟨l,rfl,rfl,_⟩:=rq hd.symm
 split at hk
 case h_2=>exact (aH hk).elim
 rename_i ft off hf
 obtain ⟨fd,hfd,rfl,rfl⟩:=KQ l.toList f hf
 have run:∀ (b o:Nat),1<=(ag T fd.type).sz->(Instr.fieldAt t (.pointer (some ⟨b,o,none⟩)) f).run P w = .ok (.pointer (some ⟨b,o+fd.offset,none⟩)) w:=fun b o hsz=>by
  obtain ⟨_,i,z,g'⟩:=hT.eO hsz
  have hne:¬ i.size=0:=by have:=g'.sz; omega
  have hfd':l[f]? = some fd:=by simpa using hfd
  simp [Instr.fieldAt,run_underlying g.und,hfd',Instr.sureAddr,fieldPlace,sizeOf,typeInfo,g'.info,hne,addr_add]
 split at hk
 ·rename_i b o hsz
  cases ha with
  | ref _ _ _ lc h=>exact .val hM (run _ _ (Nat.le_of_ble_eq_true hsz)) (.ref _ _ _ lc h)
 ·rename_i b i o hsz
  cases ha with
  | bY _ _ _ _ lc h hr=>exact .val hM (by rw [run _ _ (Nat.le_of_ble_eq_true hsz),Nat.add_assoc]) (.bY _ _ _ _ lc h hr)
 ·rename_i n c hsz
  split at hk
  case h_2=>exact (aH hk).elim
  rename_i hoff
  have hoff:=Nat.le_of_ble_eq_true hoff
  cases ha with
  | bS _ b o _ _ g hs hc h =>
   exact .val hM (run _ _ (Nat.le_of_ble_eq_true hsz)) (.bS _ _ _ _ _ (fun j=>g (fd.offset+j)) hs (fun j hj=>by rw [Nat.add_assoc]; exact hc _ (by omega)) (fun j hj=>h _ (by omega)))
 ·exact (aH hk).elim
theorem aa1 (hT:bG P T) (hM:aV base w S m M) (t f:Nat) {v:Value} {a:AV} (ha:Rel w S m v a) (hk:aG (vz T M t a f).ks) :
  cB base w S m P (vz T M t a f) (Instr.field t v f):=by
 unfold vz at hk ⊢
 split at hk
 case h_2=>exact (aH hk).elim
 rename_i fs cs htd
 obtain ⟨_,_,_,g⟩:=hT.bJ htd (by simp)
 have hd:=g.d; rw [htd] at hd
 obtain ⟨l,rfl,rfl,_⟩:=rq hd.symm
 split at hk
 case h_2=>exact (aH hk).elim
 rename_i ft off hf
 obtain ⟨fd,hfd,rfl,rfl⟩:=KQ l.toList f hf
 have hfd':l[f]? = some fd:=by simpa using hfd
 have hcell:∃ vs,v = .agg vs:=by cases ha; exact ⟨_,rfl⟩
 obtain ⟨vs,rfl⟩:=hcell
 split at hk
 ·rename_i hag
  split at hk
  case h_2=>exact (aH hk).elim
  rename_i hsz hn
  obtain ⟨u,hu,hr⟩:=FY hT ha hag (Nat.le_of_ble_eq_true hsz) (Nat.le_of_ble_eq_true hn)
  exact .val hM (by simp [Instr.field,run_underlying g.und,hfd',asAgg,hu]) hr
 ·rename_i hag
  split at hk
  case h_2=>exact (aH hk).elim
  rename_i hd hn
  obtain ⟨hu,hr⟩:=p9 hT ha hag (qg hd) (Nat.le_of_ble_eq_true hn)
  exact .val hM (by simp [Instr.field,run_underlying g.und,hfd',asAgg,hu]) hr
theorem KR {lit:Option Nat} {i:AV} (hlit:∀ k kk n,lit=some k->i = .int kk n->n=(k:Int)) {k:IntKind} {r:Nat} (h:i = .int k (r:Int)):BI ae lit (r:Int)=r:=by
 cases lit with
 | none=>rfl
 | some k'=>have:=hlit k' k r rfl h; simp only [BI]; omega
theorem aa2 (hT:bG P T) (hM:aV base w S m M) (t:TypeId) {lit:Option Nat} {vx vi:Value} {x i:AV} (hlit:∀ k kk n,lit=some k->i = .int kk n->n=(k:Int)) (hx:Rel w S m vx x) (hi:Rel w S m vi i) (hk:aG (vB ae T M t lit x i).ks) :
  cB base w S m P (vB ae T M t lit x i) (Instr.indexAt t vx vi):=by
 unfold vB at hk ⊢
 split at hk
 ·rename_i e sz n full c k i htd
  obtain ⟨_,_,_,g⟩:=hT.bJ htd (by simp)
  have hd:=g.d; rw [htd] at hd
  have:=fF hd.symm; subst this
  split at hk
  case h_2=>exact (aH hk).elim
  rename_i hsz hpos
  have hsz:=Nat.eq_of_beq_eq_true hsz
  have hpos:=Nat.le_of_ble_eq_true hpos
  obtain ⟨_,ie,ze,ge⟩:=hT.eO hpos
  have hin:0<=i/\i<n:=by simpa [cz,aG,ae] using hk
  obtain ⟨r,rfl⟩:=Int.eq_ofNat_of_zero_le hin.1
  cases hi
  have hr:r<n:=by omega
  cases hx with
  | slice _ b o _ _ cap _ _ f hs hn hcap hf hc h =>
   refine .val hM (v:=.pointer (some ⟨b,o+r*sz,none⟩)) ?_ (.bS _ _ _ _ _ (f r) hs (fun j hj=>hc r hr j hj) (fun j hj=>h r hr j hj))
   simp [Instr.indexAt,run_underlying g.und,asIntOf,hr,sizeOf,typeInfo,ge.info,addr_add,<- ge.sz,hsz]
  | dL=>omega
 ·rename_i e u x full k i htd
  obtain ⟨_,_,_,g⟩:=hT.bJ htd (by simp)
  have hd:=g.d; rw [htd] at hd
  have:=fF hd.symm; subst this
  split at hk
  case h_2=>exact (aH hk).elim
  rename_i hsz hpos
  have hsz:=Nat.eq_of_beq_eq_true hsz
  have hpos:=Nat.le_of_ble_eq_true hpos
  obtain ⟨_,ie,ze,ge⟩:=hT.eO hpos
  have hin:0<=i/\i<x.length:=by simpa [cz,aG,ae] using hk
  obtain ⟨r,rfl⟩:=Int.eq_ofNat_of_zero_le hin.1
  cases hi
  have hr:r<x.length:=by omega
  obtain ⟨a,cap,rfl,hn,hcap,hf,h | ⟨b,o,f,rfl,hs,hc,h⟩⟩:=(Le.un _ _ _ _ hx).yw
  ·omega
  ·refine .val hM (v:=.pointer (some ⟨b,o+r*aW u,none⟩)) ?_ (.bS _ _ _ _ _ (f r) hs (fun j hj=>hc r hr j hj) (fun j hj=>h r hr j hj))
   simp [Instr.indexAt,run_underlying g.und,asIntOf,hr,sizeOf,typeInfo,ge.info,addr_add,<- ge.sz,hsz]
 ·rename_i e b n k i htd
  obtain ⟨_,_,_,g⟩:=hT.bJ htd (by simp)
  have hd:=g.d; rw [htd] at hd
  have:=fF hd.symm; subst this
  split at hk
  case h_2=>exact (aH hk).elim
  rename_i e' sz n' c hb
  split at hk
  case h_2=>exact (aH hk).elim
  rename_i hsz hpos
  have hsz:=Nat.eq_of_beq_eq_true hsz
  have hpos:=Nat.le_of_ble_eq_true hpos
  obtain ⟨_,ie,ze,ge⟩:=hT.eO hpos
  have hin:0<=i/\i<n:=by simpa [cz,aG,ae] using hk
  obtain ⟨r,rfl⟩:=Int.eq_ofNat_of_zero_le hin.1
  cases hi
  have hr:r<n:=by omega
  cases hx with
  | eZ=>omega
  | own _ _ _ l h hn hc =>
   have hB:=eX hM h
   rw [hb] at hB
   obtain ⟨hlsz,hln,_⟩:=hB
   refine .val hM (v:=.pointer (some ⟨l.g,r*l.sz+0,none⟩)) ?_ (.bY _ _ _ _ l h (by omega))
   simp [Instr.indexAt,run_underlying g.und,asIntOf,hr,sizeOf,typeInfo,ge.info,addr_add,<- ge.sz,hlsz,hsz]
 ·rename_i e b k i htd
  obtain ⟨_,_,_,g⟩:=hT.bJ htd (by simp)
  have hd:=g.d; rw [htd] at hd
  have:=fF hd.symm; subst this
  split at hk
  case h_2=>exact (aH hk).elim
  rename_i e' u x hb
  split at hk
  case h_2=>exact (aH hk).elim
  rename_i hsz hpos
  have hsz:=Nat.eq_of_beq_eq_true hsz
  have hpos:=Nat.le_of_ble_eq_true hpos
  obtain ⟨_,ie,ze,ge⟩:=hT.eO hpos
  have hin:0<=i/\i<x.length:=by simpa [cz,aG,ae] using hk
  obtain ⟨r,rfl⟩:=Int.eq_ofNat_of_zero_le hin.1
  cases hi
  have hr:r<x.length:=by omega
  cases hx with
  | fD _ a _ h =>
   have hB:=hM.bk _ _ h
   rw [hb] at hB
   have hB:x.length=0:=hB
   omega
  | bz _ _ l h hc =>
   have hB:=eX hM h
   rw [hb] at hB
   obtain ⟨hlsz,hln,_⟩:=hB
   have hr':r<l.n:=by omega
   refine .val hM (v:=.pointer (some ⟨l.g,r*l.sz+0,none⟩)) ?_ (.bY _ _ _ _ l h hr')
   simp [Instr.indexAt,run_underlying g.und,asIntOf,hr',sizeOf,typeInfo,ge.info,addr_add,<- ge.sz,hlsz,hsz]
 ·rename_i e b lo n k i htd
  obtain ⟨_,_,_,g⟩:=hT.bJ htd (by simp)
  have hd:=g.d; rw [htd] at hd
  have:=fF hd.symm; subst this
  split at hk
  case h_3=>exact (aH hk).elim
  ·rename_i e' u x hb
   split at hk
   case h_2=>exact (aH hk).elim
   rename_i hsz hpos
   have hsz:=Nat.eq_of_beq_eq_true hsz
   have hpos:=Nat.le_of_ble_eq_true hpos
   obtain ⟨_,ie,ze,ge⟩:=hT.eO hpos
   have hin:0<=i/\i<n:=by simpa [cz,aG,ae] using hk
   obtain ⟨r,rfl⟩:=Int.eq_ofNat_of_zero_le hin.1
   cases hi
   have hr:r<n:=by omega
   cases hx with
   | tail _ a _ _ _ cp hn h =>
    obtain ⟨l,h1,rfl,h2⟩:=h (by omega)
    have hB:=eX hM h1
    rw [hb] at hB
    obtain ⟨hlsz,hln,_⟩:=hB
    refine .val hM (v:=.pointer (some ⟨l.g,(lo+r)*l.sz+0,none⟩)) ?_ (.bY _ _ _ _ l h1 (show lo+r<l.n by omega))
    simp [Instr.indexAt,run_underlying g.und,asIntOf,hr,sizeOf,typeInfo,ge.info,addr_add,<- ge.sz,hlsz,hsz,Nat.add_mul]
  rename_i e' sz n' c hb
  split at hk
  case h_2=>exact (aH hk).elim
  rename_i hsz hpos
  have hsz:=Nat.eq_of_beq_eq_true hsz
  have hpos:=Nat.le_of_ble_eq_true hpos
  obtain ⟨_,ie,ze,ge⟩:=hT.eO hpos
  have hin:0<=i/\i<n:=by simpa [cz,aG,ae] using hk
  obtain ⟨r,rfl⟩:=Int.eq_ofNat_of_zero_le hin.1
  cases hi
  have hr:r<n:=by omega
  cases hx with
  | tail _ a _ _ _ cp hn h =>
   obtain ⟨l,h1,rfl,h2⟩:=h (by omega)
   have hB:=eX hM h1
   rw [hb] at hB
   obtain ⟨hlsz,hln,_⟩:=hB
   refine .val hM (v:=.pointer (some ⟨l.g,(lo+r)*l.sz+0,none⟩)) ?_ (.bY _ _ _ _ l h1 (show lo+r<l.n by omega))
   simp [Instr.indexAt,run_underlying g.und,asIntOf,hr,sizeOf,typeInfo,ge.info,addr_add,<- ge.sz,hlsz,hsz,Nat.add_mul]
 ·rename_i e cs k i htd
  obtain ⟨_,_,_,g⟩:=hT.bJ htd (by simp)
  have hd:=g.d; rw [htd] at hd
  have:=fF hd.symm; subst this
  split at hk
  case h_2=>exact (aH hk).elim
  rename_i q hsz hq0
  have hsz:=Nat.eq_of_beq_eq_true hsz
  have hq1:i=(q:Int):=by
   cases lit with
   | some k'=>simp only [yg] at hq0; injection hq0 with hq0; subst hq0; exact hlit _ k i rfl rfl
   | none=>cases i with
    | ofNat k'=>simp only [yg] at hq0; injection hq0 with hq0; subst hq0; rfl
    | negSucc k'=>cases hq0
  subst hq1
  split at hk
  case h_2=>exact (aH hk).elim
  rename_i hq
  have hq:q<au cs:=Nat.blt_eq▸hq
  obtain ⟨_,ie,ze,ge⟩:=hT.eO (t:=e) (by omega)
  cases hi
  cases hx with
  | iq _ b o n _ f hs hn hl hc h =>
   refine .val hM (v:=.pointer (some ⟨b,o+q,none⟩)) ?_ (.iM _ _ _ _ _ f hs hq hc h)
   simp [Instr.indexAt,run_underlying g.und,asIntOf,hl,hq,sizeOf,typeInfo,ge.info,addr_add,<- ge.sz,hsz]
 ·rename_i n e b o k i htd
  obtain ⟨_,_,_,g⟩:=hT.bJ htd (by simp)
  have hd:=g.d; rw [htd] at hd
  have:=ou hd.symm; subst this
  split at hk
  case h_2=>exact (aH hk).elim
  rename_i hpos
  have hpos:=Nat.le_of_ble_eq_true hpos
  obtain ⟨_,ie,ze,ge⟩:=hT.eO hpos
  have hin:0<=i/\i<n:=by simpa [cz,aG,ae] using hk
  obtain ⟨r,rfl⟩:=Int.eq_ofNat_of_zero_le hin.1
  have hl:=KR hlit (k:=k) (r:=r) rfl
  simp only [hl,aan]
  cases hi
  have hr:r<n:=by omega
  cases hx with
  | ref _ _ _ l h =>
   refine .val hM (v:=.pointer (some ⟨l.g,o+r*(ag T e).sz,none⟩)) ?_ (.ref _ _ _ l h)
   simp [Instr.indexAt,run_underlying g.und,asIntOf,hr,sizeOf,typeInfo,ge.info,addr_add,ge.sz,Instr.sureAddr]
 ·rename_i n e b r0 o k i htd
  obtain ⟨_,_,_,g⟩:=hT.bJ htd (by simp)
  have hd:=g.d; rw [htd] at hd
  have:=ou hd.symm; subst this
  split at hk
  case h_2=>exact (aH hk).elim
  rename_i hpos
  have hpos:=Nat.le_of_ble_eq_true hpos
  obtain ⟨_,ie,ze,ge⟩:=hT.eO hpos
  have hin:0<=i/\i<n:=by simpa [cz,aG,ae] using hk
  obtain ⟨r,rfl⟩:=Int.eq_ofNat_of_zero_le hin.1
  have hl:=KR hlit (k:=k) (r:=r) rfl
  simp only [hl]
  cases hi
  have hr:r<n:=by omega
  cases hx with
  | bY _ _ _ _ l h hr0 =>
   refine .val hM (v:=.pointer (some ⟨l.g,r0*l.sz+(o+r*(ag T e).sz),none⟩)) ?_ (.bY _ _ _ _ l h hr0)
   simp [Instr.indexAt,run_underlying g.und,asIntOf,hr,sizeOf,typeInfo,ge.info,addr_add,ge.sz,Instr.sureAddr,Nat.add_assoc]
 ·rename_i n e kk c k i htd
  obtain ⟨_,_,_,g⟩:=hT.bJ htd (by simp)
  have hd:=g.d; rw [htd] at hd
  have:=ou hd.symm; subst this
  split at hk
  case h_2=>exact (aH hk).elim
  rename_i hpos hkk
  have hpos:=Nat.le_of_ble_eq_true hpos
  have hkk:=Nat.le_of_ble_eq_true hkk
  obtain ⟨_,ie,ze,ge⟩:=hT.eO hpos
  have hin:0<=i/\i<n:=by simpa [cz,aG,ae] using hk
  obtain ⟨r,rfl⟩:=Int.eq_ofNat_of_zero_le hin.1
  have hl:=KR hlit (k:=k) (r:=r) rfl
  simp only [hl]
  cases hi
  have hr:r<n:=by omega
  have hle:∀ j,j<(ag T e).sz->r*(ag T e).sz+j<kk:=fun j hj=>by
   have:=fP (off:=j) (k:=1) hr (show j+1<=(ag T e).sz by omega)
   omega
  cases hx with
  | bS _ b o _ _ f hs hc h =>
   refine .val hM (v:=.pointer (some ⟨b,o+r*(ag T e).sz,none⟩)) ?_ (.bS _ _ _ _ _ (fun j=>f (r*(ag T e).sz+j)) hs (fun j hj=>?_) (fun j hj=>h _ (hle j hj)))
   ·simp [Instr.indexAt,run_underlying g.und,asIntOf,hr,sizeOf,typeInfo,ge.info,addr_add,ge.sz,Instr.sureAddr]
   ·have:=hc _ (hle j hj); rw [Nat.add_assoc]; exact this
 ·exact (aH hk).elim
theorem aa3 (hT:bG P T) (hM:aV base w S m M) (t:TypeId) {lit:Option Nat} {vx vi:Value} {x i:AV} (hlit:∀ k kk n,lit=some k->i = .int kk n->n=(k:Int)) (hx:Rel w S m vx x) (hi:Rel w S m vi i) (hk:aG (vC ae T M t lit x i).ks) :
  cB base w S m P (vC ae T M t lit x i) (Instr.index t vx vi):=by
 unfold vC at hk ⊢
 split at hk
 case h_3=>exact (aH hk).elim
 case h_2 =>
  rename_i n e cs k i htd
  obtain ⟨_,_,_,g⟩:=hT.bJ htd (by simp)
  have hd:=g.d; rw [htd] at hd
  have:=ou hd.symm; subst this
  split at hk
  case h_2=>exact (aH hk).elim
  rename_i q hq0
  have hq1:i=(q:Int):=by
   cases lit with
   | some k'=>simp only [yg] at hq0; injection hq0 with hq0; subst hq0; exact hlit _ k i rfl rfl
   | none=>cases i with
    | ofNat k'=>simp only [yg] at hq0; injection hq0 with hq0; subst hq0; rfl
    | negSucc k'=>cases hq0
  subst hq1
  cases hi
  have hcell:∃ vs,vx = .agg vs:=by cases hx; exact ⟨_,rfl⟩
  obtain ⟨vs,rfl⟩:=hcell
  split at hk
  ·rename_i hag
   split at hk
   case h_2=>exact (aH hk).elim
   rename_i hsz hn
   obtain ⟨_,ie,ze,ge⟩:=hT.eO (Nat.le_of_ble_eq_true hsz)
   have hin:(q:Int)<n:=by
    have:0<=(q:Int)/\(q:Int)<n:=by simpa [cz,aG,ae] using hk
    exact this.2
   obtain ⟨u,hu,hr⟩:=FY hT hx hag (Nat.le_of_ble_eq_true hsz) (Nat.le_of_ble_eq_true hn)
   refine .val hM ?_ hr
   rw [ge.sz] at hu
   have hq:q<n:=by omega
   simp [Instr.index,run_underlying g.und,asIntOf,hq,sizeOf,typeInfo,ge.info,hu]
  ·rename_i hag
   split at hk
   case h_2=>exact (aH hk).elim
   rename_i hdd hn
   obtain ⟨_,ie,ze,ge⟩:=hT.bJ rfl (qg hdd)
   have hin:(q:Int)<n:=by
    have:0<=(q:Int)/\(q:Int)<n:=by simpa [cz,aG,ae] using hk
    exact this.2
   obtain ⟨hu,hr⟩:=p9 hT hx hag (qg hdd) (Nat.le_of_ble_eq_true hn)
   refine .val hM ?_ hr
   rw [ge.sz] at hu
   have hq:q<n:=by omega
   simp [Instr.index,run_underlying g.und,asIntOf,hq,sizeOf,typeInfo,ge.info,hu,ge.sz]
 rename_i s k i htd
 obtain ⟨_,_,_,g⟩:=hT.bJ htd (by simp)
 have hd:=g.d; rw [htd] at hd
 have:=oq hd.symm; subst this
 have hin:0<=i/\i<s.length:=by simpa [cz,aG,ae] using hk
 obtain ⟨r,rfl⟩:=Int.eq_ofNat_of_zero_le hin.1
 cases hi
 have hr:r<s.length:=by omega
 cases hx
 have hget:(bytes s)[r]? = some s[r]:=by
  have:r<(bytes s).size:=by rw [gT]; exact hr
  rw [getElem?_pos (bytes s) r this]
  rfl
 refine .val hM (v:=.int .u8 (s[r].toNat:Int)) ?_ ?_
 ·simp [Instr.index,run_underlying g.und,asIntOf,hget]
 ·have e:ae.E9 s (ae.toNat (r:Int))=(s[r].toNat:Int):=by simp [ae,List.getD,hr]
  rw [e]
  exact .int _ _ _ (by rw [tq]; have:=s[r].toNat_lt; simp [IntKind.min,IntKind.max,IntKind.signed,IntKind.bits]; omega)
theorem KS (vs:Array Value) (i:Nat) (h:i<vs.size):(Instr.extract (.tuple vs) i).run P w = .ok (vs.getD i Go.undef) w:=by simp [Instr.extract,h]
theorem aa4 (hM:aV base w S m M) (i:Nat) {v:Value} {a:AV} (ha:Rel w S m v a) (hk:aG (vE M a i).ks):cB base w S m P (vE M a i) (Instr.extract v i):=by
 unfold vE at hk ⊢
 split at hk
 ·split at hk
  case h_2=>exact (aH hk).elim
  rename_i hi
  have hi:=Nat.le_of_ble_eq_true hi
  cases ha with
  | bN _ vs _ hl h=>exact .val hM (KS vs i (by omega)) (h i (by omega))
 ·rename_i b cs
  split at hk
  ·cases ha with
   | iw _ vs _ hl h0 h =>
    have:=KS (P:=P) (w:=w) vs 0 (by omega)
    rw [h0] at this
    exact .val hM this (.bool _ _)
   | iN=>exact .val hM (v:=.bool false) rfl (.bool _ _)
  ·rename_i i
   split at hk
   case h_2=>exact (aH hk).elim
   rename_i hi
   have hi:=Nat.le_of_ble_eq_true hi
   have hb:b=true:=by simpa [cz,aG] using hk
   subst hb
   cases ha with
   | iw _ vs _ hl h0 h=>exact .val hM (KS vs (i+1) (by omega)) (h i (by omega)).weak
 ·exact (aH hk).elim
theorem aa5 (hT:bG P T) (hM:aV base w S m M) (t:TypeId) {v:Value} {a:AV} (ha:Rel w S m v a) (hk:aG (Fu T M t a).ks):cB base w S m P (Fu T M t a) (Instr.range t v):=by
 unfold Fu at hk ⊢
 split at hk
 case h_2=>exact (aH hk).elim
 rename_i s htd
 obtain ⟨_,_,_,g⟩:=hT.bJ htd (by simp)
 have hd:=g.d; rw [htd] at hd
 have:=oq hd.symm; subst this
 cases ha with
 | str _ _ hs =>
  let l:Loc:=⟨w.heap.size,0,0,0,false,[]⟩
  obtain ⟨ht,hm⟩:=hM.alloc (.stringIter (bytes s) 0) l (.dW s 0) rfl ⟨Go.heap_alloc_new w _,hs⟩
  exact ⟨_,_,_,_,by simp [Instr.range,run_underlying g.und]; rfl,ht,hm,.ref _ _ _ l (by rw [<- hM.len]; simp)⟩
theorem aa6 (hT:bG P T) (hM:aV base w S m M) (t ty:TypeId) {v:Value} {a:AV} (ha:Rel w S m v a) (hk:aG (vF ae T M t a).ks):cB base w S m P (vF ae T M t a) (Builtin.len_ #[t] ty #[v]):=by
 have wf:∀ n:Nat,n<=maxLen->(Lit.int .i64 (ae.ofNat n)).wf=true:=fun n hn=>by
  rw [tq]; unfold maxLen at hn; simp [IntKind.min,IntKind.max,IntKind.signed,IntKind.bits,ae]; omega
 unfold vF at hk ⊢
 split at hk
 ·rename_i s htd
  obtain ⟨_,_,_,g⟩:=hT.bJ htd (by simp)
  have hd:=g.d; rw [htd] at hd
  have:=oq hd.symm; subst this
  cases ha with
  | str _ _ hs=>exact .val hM (v:=.int .i64 (ae.ofNat s.length)) (by simp [Builtin.len_,run_underlying g.und,gT,goInt,ae]) (.int _ _ _ (wf _ hs))
 ·rename_i e sz n f c htd
  obtain ⟨_,_,_,g⟩:=hT.bJ htd (by simp)
  have hd:=g.d; rw [htd] at hd
  have:=fF hd.symm; subst this
  cases ha with
  | slice _ b o _ _ cap _ _ f hs hn hcap hf hc h=>exact .val hM (v:=.int .i64 (ae.ofNat _)) (by simp [Builtin.len_,run_underlying g.und,goInt,ae]) (.int _ _ _ (wf _ (by omega)))
  | dL=>exact .val hM (v:=.int .i64 (ae.ofNat _)) (by simp [Builtin.len_,run_underlying g.und,goInt,ae]) (.int _ _ _ (wf _ (by omega)))
 ·rename_i e u x full htd
  obtain ⟨_,_,_,g⟩:=hT.bJ htd (by simp)
  have hd:=g.d; rw [htd] at hd
  have:=fF hd.symm; subst this
  obtain ⟨a,cap,rfl,hn,hcap,_⟩:=(Le.un _ _ _ _ ha).yw
  exact .val hM (v:=.int .i64 (ae.ofNat _)) (by simp [Builtin.len_,run_underlying g.und,goInt,ae]) (.int _ _ _ (wf _ (by omega)))
 ·rename_i e b htd
  obtain ⟨_,_,_,g⟩:=hT.bJ htd (by simp)
  have hd:=g.d; rw [htd] at hd
  have:=fF hd.symm; subst this
  split at hk
  case h_2=>exact (aH hk).elim
  rename_i e' u x hb
  have ha:=ha.Ce hM hb
  generalize x.length=n at ha
  cases ha with
  | own _ _ _ l h hn hc=>exact .val hM (v:=.int .i64 (ae.ofNat _)) (by simp [Builtin.len_,run_underlying g.und,goInt,ae]) (.int _ _ _ (wf _ (by omega)))
  | eZ=>exact .val hM (v:=.int .i64 (ae.ofNat _)) (by simp [Builtin.len_,run_underlying g.und,goInt,ae]) (.int _ _ _ (wf _ (by omega)))
 ·rename_i e b n htd
  obtain ⟨_,_,_,g⟩:=hT.bJ htd (by simp)
  have hd:=g.d; rw [htd] at hd
  have:=fF hd.symm; subst this
  cases ha with
  | own _ _ _ l h hn hc=>exact .val hM (v:=.int .i64 (ae.ofNat _)) (by simp [Builtin.len_,run_underlying g.und,goInt,ae]) (.int _ _ _ (wf _ (by omega)))
  | eZ=>exact .val hM (v:=.int .i64 (ae.ofNat _)) (by simp [Builtin.len_,run_underlying g.und,goInt,ae]) (.int _ _ _ (wf _ (by omega)))
 ·rename_i e b lo n htd
  obtain ⟨_,_,_,g⟩:=hT.bJ htd (by simp)
  have hd:=g.d; rw [htd] at hd
  have:=fF hd.symm; subst this
  cases ha with
  | tail _ a _ _ _ cp hn h=>exact .val hM (v:=.int .i64 (ae.ofNat _)) (by simp [Builtin.len_,run_underlying g.und,goInt,ae]) (.int _ _ _ (wf _ (by omega)))
 ·rename_i e htd
  obtain ⟨_,_,_,g⟩:=hT.bJ htd (by simp)
  have hd:=g.d; rw [htd] at hd
  have:=fF hd.symm; subst this
  cases ha
  exact .val hM (by simp [Builtin.len_,run_underlying g.und,goInt]) (.int _ _ _ (by decide))
 ·rename_i e htd
  obtain ⟨_,_,_,g⟩:=hT.bJ htd (by simp)
  have hd:=g.d; rw [htd] at hd
  have:=fF hd.symm; subst this
  cases ha
  exact .val hM (by simp [Builtin.len_,run_underlying g.und,goInt]) (.int _ _ _ (by decide))
 ·rename_i e cs htd
  obtain ⟨_,_,_,g⟩:=hT.bJ htd (by simp)
  have hd:=g.d; rw [htd] at hd
  have:=fF hd.symm; subst this
  cases ha with
  | iq _ b o n _ f hs hn hl hc h=>exact .val hM (v:=.int .i64 (ae.ofNat _)) (by simp [Builtin.len_,run_underlying g.und,goInt,ae,hl]) (.int _ _ _ (wf _ (by omega)))
 ·rename_i n e htd
  obtain ⟨_,_,_,g⟩:=hT.bJ htd (by simp)
  have hd:=g.d; rw [htd] at hd
  have:=ou hd.symm; subst this
  have hn:n<=maxLen:=by simp [cz,aG,ae] at hk; unfold maxLen; omega
  exact .val hM (v:=.int .i64 (ae.ofNat _)) (by simp [Builtin.len_,run_underlying g.und,goInt,ae]) (.int _ _ _ (wf _ hn))
 ·rename_i k e htd
  obtain ⟨_,_,_,g⟩:=hT.bJ htd (by simp)
  have hd:=g.d; rw [htd] at hd
  have:=p8 hd.symm; subst this
  cases ha
  exact .val hM (by simp [Builtin.len_,run_underlying g.und,goInt]) (.int _ _ _ (by decide))
 ·rename_i k e t' u' l' htd
  obtain ⟨_,_,_,g⟩:=hT.bJ htd (by simp)
  have hd:=g.d; rw [htd] at hd
  have:=p8 hd.symm; subst this
  cases ha with
  | iL=>exact .val hM (v:=.int .i64 0) (by simp [Builtin.len_,run_underlying g.und,goInt]) (.int _ _ _ (by decide))
  | mv _ b es ck _ _ _ hs hg h2 _ _ h4 =>
   refine .val hM (v:=.int .i64 (ae.ofNat l'.length)) ?_ (.int _ _ _ (wf _ h4.few))
   simp [Builtin.len_,run_underlying g.und,getObj,Sem.run,hg,goInt,h2,ae]
 ·rename_i k e b htd
  obtain ⟨_,_,_,g⟩:=hT.bJ htd (by simp)
  have hd:=g.d; rw [htd] at hd
  have:=p8 hd.symm; subst this
  split at hk
  ·rename_i t' u' l' hb
   cases ha with
   | mp _ _ l h =>
    have hB:=eX hM h
    rw [hb] at hB
    obtain ⟨es,ck,h1,h2,_,h4⟩:=hB
    refine .val hM (v:=.int .i64 (ae.ofNat l'.length)) ?_ (.int _ _ _ (wf _ h4.few))
    simp [Builtin.len_,run_underlying g.und,getObj,Sem.run,h1,goInt,h2,ae]
   | gy _ _ h =>
    have hB:=hM.bk _ _ h
    rw [hb] at hB
    exact hB.elim
  ·exact (aH hk).elim
 ·exact (aH hk).elim
theorem aa7 (hT:bG P T) (hM:aV base w S m M) (t ty:TypeId) {v:Value} {a:AV} (ha:Rel w S m v a) (hk:aG (vG ae T M t a).ks):cB base w S m P (vG ae T M t a) (Builtin.cap_ #[t] ty #[v]):=by
 unfold vG at hk
 exact (aH hk).elim
end Go.aT
