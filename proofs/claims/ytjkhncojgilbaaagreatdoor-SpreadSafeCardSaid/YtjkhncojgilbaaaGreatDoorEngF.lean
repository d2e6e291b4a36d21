/- The operations of the abstract machine are sound: slicing, making, appending. -/
import Derived.Test.YtjkhncojgilbaaaGreatDoorEngE
namespace Go.aT
open Go Go.RowKit
variable {P:Program} {T:aX} {base:Env} {w:World} {S:Nat->Prop} {m:aY} {M:Mem}
theorem SK (ty:Option Ty) (sz n:Nat) (cs:List AV):Le (.slice sz n true (Fp sz cs)) (Fq ty sz n cs):=by
 unfold Fq
 split
 ·exact Le.refl _
 ·split
  ·rename_i hsz hr
   have hsz:=Nat.eq_of_beq_eq_true hsz
   obtain ⟨q1,q2,q3⟩:=Sv hr
   subst hsz
   exact Le.bF id rfl q1.symm fun i hi j hj=>q3 i hi j hj
  ·exact Le.refl _
theorem SL {r:Nat} {s:ByteArray} {pos:Nat} (h:w.heap[r]? = some (.stringIter s pos)):(getObj r).run P w = .ok (.stringIter s pos) w:=by
 simp [getObj,Sem.run,h]
theorem aa8 {r:Nat} {s:ByteArray} {pos:Nat} (h:w.heap[r]? = some (.stringIter s pos)) (o:Obj):(setObj r o).run P w = .ok () { w with heap:=w.heap.setIfInBounds r o }:=by
 simp [setObj,Sem.run,h]
theorem aa9 (hM:aV base w S m M) (ty:TypeId) (isS:Bool) {v:Value} {a:AV} (ha:Rel w S m v a) (hk:aG (Fv ae M a isS).ks):cB base w S m P (Fv ae M a isS) (Instr.next v isS ty):=by
 unfold Fv at hk ⊢
 split at hk
 case h_2=>exact (aH hk).elim
 rename_i b
 split at hk
 case h_2=>exact (aH hk).elim
 rename_i s pos hb
 cases ha with
 | ref _ _ _ l h =>
  have hB:=eX hM h
  rw [hb] at hB
  obtain ⟨hg,hs⟩:=hB
  have hl:=hM.lt _ _ h
  by_cases hp:pos<s.length
  ·have hp':pos<(bytes s).size:=by rw [gT]; exact hp
   have e1:ae.lt (ae.ofNat pos) (ae.ofNat (ae.mZ s))=true:=by simp [ae,hp]
   have e2:ae.sG s pos=pos+(Utf8.decode (bytes s) pos).2:=by simp [ae,hp]
   rw [e1,e2]
   let w':World:={ w with heap:=w.heap.setIfInBounds l.g (.stringIter (bytes s) (pos+(Utf8.decode (bytes s) pos).2)) }
   have hst:∀ b,b<w.heap.size->b≠l.g->w'.heap[b]? = w.heap[b]?:=fun b _ hne=>by
    show (w.heap.setIfInBounds _ _)[b]? = _
    rw [Array.getElem?_setIfInBounds_ne (Ne.symm hne)]
   have hbel:bX base.Z w w':=⟨rfl,rfl,rfl,by show _<=(w.heap.setIfInBounds _ _).size; simp,fun k hk=>by
    show (w.heap.setIfInBounds _ _)[k]? = _
    rw [Array.getElem?_setIfInBounds_ne (fun e=>hl.1 (by rw [e]; exact hk))]⟩
   obtain ⟨ht,hm'⟩:=hM.turn b l h (.dW s (pos+(Utf8.decode (bytes s) pos).2)) (fun h=>by rw [hb] at h; cases h) hbel hst ⟨by
    show (w.heap.setIfInBounds _ _)[l.g]? = _
    rw [Array.getElem?_setIfInBounds_self_of_lt hl.2.1],hs⟩
   refine ⟨.tuple #[.bool true,goInt pos,.int .i32 (Utf8.decode (bytes s) pos).1],w',S,m,?_,ht,hm',.iw _ _ _ rfl rfl fun i hi=>?_⟩
   ·simp only [Instr.next,Sem.run_bind,SL hg,Result.andThen_ok,if_pos hp',aa8 hg]
    rfl
   ·have hi2:i<2:=hi
    have hle:=decode_le (bytes s) pos
    match i,hi2 with
    | 0,_=>exact .int _ _ _ (by rw [tq]; unfold maxLen at hs; simp [IntKind.min,IntKind.max,IntKind.signed,IntKind.bits]; omega)
    | 1,_=>exact .int _ _ _ (by rw [tq]; simp [IntKind.min,IntKind.max,IntKind.signed,IntKind.bits]; omega)
  ·have hp':¬ pos<(bytes s).size:=by rw [gT]; exact hp
   have e1:ae.lt (ae.ofNat pos) (ae.ofNat (ae.mZ s))=false:=by simp [ae]; omega
   have e2:ae.sG s pos=pos:=by simp [ae,hp]
   rw [e1,e2]
   obtain ⟨ht,hm'⟩:=hM.turn b l h (.dW s pos) (fun h=>by rw [hb] at h; cases h) (bX.refl _ _) (fun _ _ _=>rfl) ⟨hg,hs⟩
   exact ⟨_,w,S,m,by simp only [Instr.next,Sem.run_bind,SL hg,Result.andThen_ok,if_neg hp']; rfl,ht,hm',.iN _ _⟩
theorem KT (s:List UInt8) (l h:Nat):(bytes s).extract l h=bytes ((s.drop l).take (h-l)):=by
 apply ByteArray.ext
 simp [bytes,ByteArray.data_extract,List.extract_eq_take_drop]
theorem KU (hT:bG P T) (hM:aV base w S m M) (t:TypeId) {vx:Value} {x:AV} (hnt:(∀ u l f,x≠.bF u l f)/\∀ b,x≠.bz b) (hx:Rel w S m vx x) {lo hi:Option Value} {alo ahi:Option AV}
  (hlo:(lo=none/\alo=none)\/∃ v a,lo=some v/\alo=some a/\Rel w S m v a) (hhi:(hi=none/\ahi=none)\/∃ v a,hi=some v/\ahi=some a/\Rel w S m v a)
  (hk:aG (ni ae T M t x alo ahi).ks):cB base w S m P (ni ae T M t x alo ahi) (Instr.sliceAt t vx lo hi none):=by
 have intOf:∀ {o:Option Value} {k:IntKind} {n:Int},((o=none/\some (AV.int k n)=none)\/∃ v a,o=some v/\some (AV.int k n)=some a/\Rel w S m v a)->o=some (.int k n):=by
  rintro o k n (⟨_,h⟩ | ⟨v,a,rfl,h,hr⟩)
  ·simp at h
  ·injection h with h; subst h; cases hr; rfl
 have noneOf:∀ {o:Option Value},((o=none/\(none:Option AV)=none)\/∃ v a,o=some v/\(none:Option AV)=some a/\Rel w S m v a)->o=none:=by
  rintro o (⟨h,_⟩ | ⟨v,a,_,h,_⟩)
  ·exact h
  ·simp at h
 unfold ni at hk ⊢
 split at hk
 ·rename_i s htd
  obtain ⟨_,_,_,g⟩:=hT.bJ htd (by simp)
  have hd:=g.d; rw [htd] at hd
  have:=oq hd.symm; subst this
  cases hx with
  | str _ _ hs =>
  have sub:∀ (l h:Nat),((s.drop l).take (h-l)).length<=maxLen:=fun l h=>by simp; omega
  have run:∀ lo hi,(Instr.sliceAt t (.string (bytes s)) lo hi none).run P w=(Instr.slice t (.string (bytes s)) lo hi none).run P w:=fun lo hi=>run_sliceAt_string w t _ lo hi none g.und
  split at hk
  ·obtain rfl:=noneOf hlo
   obtain rfl:=noneOf hhi
   refine .val hM (v:=.string (bytes s)) ?_ (.str _ _ hs)
   rw [run,run_slice_string_all w t _ g.und]
   congr 2
   apply ByteArray.ext; simp [bytes,ByteArray.size]
  ·obtain rfl:=intOf hlo
   obtain rfl:=noneOf hhi
   rename_i k l
   have hin:0<=l/\l<=s.length:=by simpa [cz,aG,ae] using hk
   refine .val hM (v:=.string (bytes ((s.drop l.toNat).take (s.length-l.toNat)))) ?_ (.str _ _ (sub _ _))
   rw [run,run_slice_string_from_if w t _ _ _ g.und,gT,if_pos hin,KT]
  ·obtain rfl:=noneOf hlo
   obtain rfl:=intOf hhi
   rename_i k h
   have hin:0<=h/\h<=s.length:=by simpa [cz,aG,ae] using hk
   refine .val hM (v:=.string (bytes ((s.drop 0).take (h.toNat-0)))) ?_ (.str _ _ (sub _ _))
   rw [run,run_slice_string_to_if w t _ _ _ g.und,gT,if_pos hin,KT]
  ·obtain rfl:=intOf hlo
   obtain rfl:=intOf hhi
   rename_i k l k' h
   have hin:(0<=h/\h<=s.length)/\(0<=l/\l<=(h.toNat:Int)):=by simpa [aG,ae] using hk
   refine .val hM (v:=.string (bytes ((s.drop l.toNat).take (h.toNat-l.toNat)))) ?_ (.str _ _ (sub _ _))
   rw [run,run_slice_string w t _ _ _ _ _ g.und hin.2.1 (by omega) (by rw [gT]; omega),KT]
  ·exact (aH hk).elim
 ·rename_i e sz n full c htd
  obtain ⟨_,_,_,g⟩:=hT.bJ htd (by simp)
  have hd:=g.d; rw [htd] at hd
  have:=fF hd.symm; subst this
  have hel:P.elem t=e:=by simp [Program.elem,g.und]
  have ht':P.underlying t=some (.slice (P.elem t)):=by rw [hel]; exact g.und
  have run:∀ x lo hi,(Instr.sliceAt t x lo hi none).run P w=(Instr.slice t x lo hi none).run P w:=fun x lo hi=>run_sliceAt_slice w t x lo hi none ht'
  split at hk
  case h_2=>exact (aH hk).elim
  rename_i hsz hpos
  have hsz:=Nat.eq_of_beq_eq_true hsz
  obtain ⟨_,ie,ze,ge⟩:=hT.eO (Nat.le_of_ble_eq_true hpos)
  have hsize:(sizeOf (P.elem t)).run P w = .ok sz w:=by simp [sizeOf,typeInfo,hel,ge.info,hsz,ge.sz]
  have key:∀ {vx:Value},Rel w S m vx (.slice sz n full c)->∃ a cap,vx = .slice a n cap/\n<=cap/\(full=true->cap=n)/\∀ l h,l<=h->h<=n->∀ f',(f'=true->full=true/\h=n) ->
    Rel w S m (sliced a l h cap sz) (.slice sz (h-l) f' fun i j=>c (l+i) j):=by
   intro vx hx
   cases hx with
   | slice _ b o _ _ cap _ _ f hs hn hcap hf hc hr =>
    refine ⟨_,cap,rfl,hn,hf,fun l h hl hh f' hf'=>?_⟩
    unfold sliced
    by_cases hc0:cap=l
    ·rw [if_pos hc0]
     have:h-l=0:=by omega
     rw [this]
     exact .dL _ _ _ _ _ _ (by omega) (fun e=>by omega)
    ·rw [if_neg hc0]
     simp only [Option.map_some,addr_add]
     refine .slice _ _ _ _ _ _ _ _ (fun i j=>f (l+i) j) hs (by omega) (by omega) (fun e=>by have:=hf' e; have:=hf this.1; omega) (fun i hi j hj=>?_) (fun i hi j hj=>hr (l+i) (by omega) j hj)
     have:=hc (l+i) (by omega) j hj
     rw [Nat.add_mul,<- Nat.add_assoc] at this
     exact this
   | dL _ a cap _ _ _ hcap hf =>
    refine ⟨a,cap,rfl,by omega,hf,fun l h hl hh f' hf'=>?_⟩
    obtain rfl:h=0:=by omega
    obtain rfl:l=0:=by omega
    unfold sliced
    simp only [Nat.zero_mul,Nat.sub_zero]
    exact .dL _ _ _ _ _ _ (by omega) (fun e=>hf (hf' e).1)
  obtain ⟨a,cap,rfl,hncap,hfull,hrel⟩:=key hx
  split at hk
  ·obtain rfl:=noneOf hlo
   obtain rfl:=noneOf hhi
   have:=hrel 0 n (Nat.zero_le _) (Nat.le_refl _) full (fun e=>⟨e,rfl⟩)
   simp only [Nat.sub_zero,Nat.zero_add] at this
   exact .val hM (by rw [run,run_slice_all w t a n cap ht',hsize]; rfl) this
  ·obtain rfl:=intOf hlo
   obtain rfl:=noneOf hhi
   rename_i k l
   have hin:0<=l/\l<=n:=by simpa [cz,aG,ae] using hk
   exact .val hM (by rw [run,run_slice_l w t a n cap ht' _ _ hin.1 hin.2,hsize]; rfl) (hrel l.toNat n (by omega) (Nat.le_refl _) full (fun e=>⟨e,rfl⟩))
  ·obtain rfl:=noneOf hlo
   obtain rfl:=intOf hhi
   rename_i k h
   have hin:0<=h/\h<=n:=by simpa [cz,aG,ae] using hk
   have:=hrel 0 h.toNat (Nat.zero_le _) (by omega) false (fun e=>by simp at e)
   simp only [Nat.sub_zero,Nat.zero_add] at this
   exact .val hM (by rw [run,run_slice_h w t a n cap ht' _ _ hin.1 (by omega),hsize]; rfl) this
  ·obtain rfl:=intOf hlo
   obtain rfl:=intOf hhi
   rename_i k l k' h
   have hin:(0<=h/\h<=n)/\(0<=l/\l<=(h.toNat:Int)):=by simpa [aG,ae] using hk
   exact .val hM (by rw [run,run_slice_lh w t a n cap ht' _ _ _ _ hin.2.1 (by omega) (by omega),hsize]; rfl) (hrel l.toNat h.toNat (by omega) (by omega) false (fun e=>by simp at e))
  ·exact (aH hk).elim
 ·exact absurd rfl (hnt.1 _ _ _)
 ·exact absurd rfl (hnt.2 _)
 ·rename_i e b n htd
  obtain ⟨_,_,_,g⟩:=hT.bJ htd (by simp)
  have hd:=g.d; rw [htd] at hd
  have:=fF hd.symm; subst this
  have hel:P.elem t=e:=by simp [Program.elem,g.und]
  have ht':P.underlying t=some (.slice (P.elem t)):=by rw [hel]; exact g.und
  have run:∀ x lo hi,(Instr.sliceAt t x lo hi none).run P w=(Instr.slice t x lo hi none).run P w:=fun x lo hi=>run_sliceAt_slice w t x lo hi none ht'
  have key:∀ {vx:Value},Rel w S m vx (.own b n)->∃ a cap,vx = .slice a n cap/\n<=cap/\∀ sz h,h<=n->Rel w S m (sliced a 0 h cap sz) (.own b h):=by
   intro vx hx
   cases hx with
   | eZ _ a _ h0 =>
    refine ⟨a,0,rfl,Nat.le_refl _,fun sz h hh=>?_⟩
    obtain rfl:h=0:=by omega
    unfold sliced
    exact .eZ _ _ _ h0
   | own _ _ _ l h0 hn hc =>
    refine ⟨_,l.cap,rfl,by omega,fun sz h hh=>?_⟩
    unfold sliced
    have e:(if l.cap=0 then some (⟨l.g,0,none⟩:Addr) else (some (⟨l.g,0,none⟩:Addr)).map fun x=>x.add (0*sz))=some ⟨l.g,0,none⟩:=by
     split
     ·rfl
     ·simp [Addr.add]
    rw [e]
    exact .own _ _ _ l h0 (by omega) hc
  have keyT:∀ {vx:Value} {e' sz n':Nat} {c:Nat->Nat->AV},blk M b = .rows e' sz n' c->Rel w S m vx (.own b n)->∃ a cap,vx = .slice a n cap/\n<=cap/\∀ l h,l<=h->h<=n->Rel w S m (sliced a l h cap sz) (.tail b l (h-l)):=by
   intro vx e' sz n' c hb hx
   cases hx with
   | eZ _ a _ h0 =>
    refine ⟨a,0,rfl,Nat.le_refl _,fun l h hl hh=>?_⟩
    obtain rfl:h=0:=by omega
    obtain rfl:l=0:=by omega
    unfold sliced
    exact .tail _ _ _ _ _ _ ⟨by omega,by unfold maxLen; omega⟩ (fun h=>by omega)
   | own _ _ _ l0 h0 hn hc =>
    have hB:=eX hM h0
    rw [hb] at hB
    have hsz:=hB.1
    refine ⟨_,l0.cap,rfl,by omega,fun l h hl hh=>?_⟩
    unfold sliced
    refine .tail _ _ _ _ _ _ ⟨by omega,by omega⟩ (fun h1=>⟨l0,h0,?_,by omega⟩)
    rw [if_neg (by omega),hsz]
    simp [Addr.add]
    omega
  obtain ⟨a,cap,rfl,hncap,hrel⟩:=key hx
  split at hk
  ·rename_i hpos
   obtain ⟨_,ie,ze,ge⟩:=hT.eO (Nat.le_of_ble_eq_true hpos)
   have hsize:(sizeOf (P.elem t)).run P w = .ok (ag T e).sz w:=by simp [sizeOf,typeInfo,hel,ge.info,ge.sz]
   obtain rfl:=noneOf hlo
   obtain rfl:=noneOf hhi
   exact .val hM (by rw [run,run_slice_all w t a n cap ht',hsize]; rfl) (hrel _ n (Nat.le_refl _))
  ·rename_i k h hpos
   obtain ⟨_,ie,ze,ge⟩:=hT.eO (Nat.le_of_ble_eq_true hpos)
   have hsize:(sizeOf (P.elem t)).run P w = .ok (ag T e).sz w:=by simp [sizeOf,typeInfo,hel,ge.info,ge.sz]
   obtain rfl:=noneOf hlo
   obtain rfl:=intOf hhi
   have hin:0<=h/\h<=n:=by simpa [cz,aG,ae] using hk
   exact .val hM (by rw [run,run_slice_h w t a n cap ht' _ _ hin.1 (by omega),hsize]; rfl) (hrel _ h.toNat (by omega))
  ·rename_i e' sz n' c k l hpos hb
   obtain ⟨_,ie,ze,ge⟩:=hT.eO (Nat.le_of_ble_eq_true hpos)
   split at hk
   case h_2=>exact (aH hk).elim
   rename_i hsz
   have hsz:=Nat.eq_of_beq_eq_true hsz
   have hsize:(sizeOf (P.elem t)).run P w = .ok sz w:=by simp [sizeOf,typeInfo,hel,ge.info,ge.sz,hsz]
   obtain rfl:=intOf hlo
   obtain rfl:=noneOf hhi
   have hin:0<=l/\l<=n:=by simpa [cz,aG,ae] using hk
   obtain ⟨a',cap',e1,_,hrelT⟩:=keyT hb hx
   injection e1 with e1 _ e2; subst e1 e2
   exact .val hM (by rw [run,run_slice_l w t a n cap ht' _ _ hin.1 hin.2,hsize]; rfl) (hrelT l.toNat n (by omega) (Nat.le_refl _))
  ·rename_i e' sz n' c k l k' h hpos hb
   obtain ⟨_,ie,ze,ge⟩:=hT.eO (Nat.le_of_ble_eq_true hpos)
   split at hk
   case h_2=>exact (aH hk).elim
   rename_i hsz
   have hsz:=Nat.eq_of_beq_eq_true hsz
   have hsize:(sizeOf (P.elem t)).run P w = .ok sz w:=by simp [sizeOf,typeInfo,hel,ge.info,ge.sz,hsz]
   obtain rfl:=intOf hlo
   obtain rfl:=intOf hhi
   have hin:(0<=h/\h<=n)/\(0<=l/\l<=(h.toNat:Int)):=by simpa [aG,ae] using hk
   obtain ⟨a',cap',e1,_,hrelT⟩:=keyT hb hx
   injection e1 with e1 _ e2; subst e1 e2
   exact .val hM (by rw [run,run_slice_lh w t a n cap ht' _ _ _ _ hin.2.1 (by omega) (by omega),hsize]; rfl) (hrelT l.toNat h.toNat (by omega) (by omega))
  ·exact (aH hk).elim
 ·rename_i e htd
  obtain ⟨_,_,_,g⟩:=hT.bJ htd (by simp)
  have hd:=g.d; rw [htd] at hd
  have:=fF hd.symm; subst this
  have hel:P.elem t=e:=by simp [Program.elem,g.und]
  have ht':P.underlying t=some (.slice (P.elem t)):=by rw [hel]; exact g.und
  have run:∀ x lo hi,(Instr.sliceAt t x lo hi none).run P w=(Instr.slice t x lo hi none).run P w:=fun x lo hi=>run_sliceAt_slice w t x lo hi none ht'
  cases hx
  split at hk
  ·rename_i hpos
   obtain ⟨_,ie,ze,ge⟩:=hT.eO (Nat.le_of_ble_eq_true hpos)
   have hsize:(sizeOf (P.elem t)).run P w = .ok (ag T e).sz w:=by simp [sizeOf,typeInfo,hel,ge.info,ge.sz]
   obtain rfl:=noneOf hlo
   obtain rfl:=noneOf hhi
   exact .val hM (v:=.slice none 0 0) (by rw [run,run_slice_all w t none 0 0 ht',hsize]; rfl) (.bR _)
  ·rename_i k h hpos
   obtain ⟨_,ie,ze,ge⟩:=hT.eO (Nat.le_of_ble_eq_true hpos)
   have hsize:(sizeOf (P.elem t)).run P w = .ok (ag T e).sz w:=by simp [sizeOf,typeInfo,hel,ge.info,ge.sz]
   obtain rfl:=noneOf hlo
   obtain rfl:=intOf hhi
   have hin:0<=h/\h<=0:=by simpa [cz,aG,ae] using hk
   obtain rfl:h=0:=by omega
   exact .val hM (v:=.slice none 0 0) (by rw [run,run_slice_h w t none 0 0 ht' _ _ hin.1 (by simp),hsize]; rfl) (.bR _)
  ·exact (aH hk).elim
 ·rename_i n e b htd
  obtain ⟨_,_,_,g⟩:=hT.bJ htd (by simp)
  have hd:=g.d; rw [htd] at hd
  have:=ou hd.symm; subst this
  split at hk
  case h_2=>exact (aH hk).elim
  rename_i hpos
  obtain ⟨_,ie,ze,ge⟩:=hT.eO (Nat.le_of_ble_eq_true hpos)
  obtain rfl:=noneOf hlo
  obtain rfl:=noneOf hhi
  have hn:n<=maxLen:=by simp [cz,aG,ae] at hk; unfold maxLen; omega
  cases hx with
  | ref _ _ _ l h =>
   exact .val hM (v:=.slice (some ⟨l.g,0,none⟩) n n) (by simp [Instr.sliceAt,run_underlying g.und,Instr.sureAddr,Instr.sliceBounds,sizeOf,typeInfo,ge.info,addr_add]) (.fA _ _ _ l h hn)
 ·rename_i n e k c htd
  obtain ⟨_,_,_,g⟩:=hT.bJ htd (by simp)
  have hd:=g.d; rw [htd] at hd
  have:=ou hd.symm; subst this
  split at hk
  case h_2=>exact (aH hk).elim
  rename_i hsz hnk
  have hsz:=Nat.eq_of_beq_eq_true hsz
  have hnk:=Nat.le_of_ble_eq_true hnk
  obtain ⟨_,ie,ze,ge⟩:=hT.eO (t:=e) (by omega)
  obtain rfl:=noneOf hlo
  obtain rfl:=noneOf hhi
  have hn:n<=maxLen:=by simp [cz,aG,ae] at hk; unfold maxLen; omega
  cases hx with
  | bS _ b o _ _ f hs hc h =>
   refine .val hM (v:=.slice (some ⟨b,o,none⟩) n n) (by simp [Instr.sliceAt,run_underlying g.und,Instr.sureAddr,Instr.sliceBounds,sizeOf,typeInfo,ge.info,addr_add]) (SK _ _ _ _ _ _ _ _ ?_)
   refine .slice _ _ _ _ _ _ _ _ (fun i j=>f (i+j)) hs (Nat.le_refl _) hn (fun _=>rfl) (fun i hi j hj=>?_) (fun i hi j hj=>?_)
   ·obtain rfl:j=0:=by omega
    have:=hc i (by omega)
    simpa using this
   ·obtain rfl:j=0:=by omega
    have:=h i (by omega)
    simpa [Fp,sU,hi] using this
 ·exact (aH hk).elim
theorem aba (hT:bG P T) (hM:aV base w S m M) (t:TypeId) {vx:Value} {x:AV} (hx:Rel w S m vx x) {lo hi:Option Value} {alo ahi:Option AV}
  (hlo:(lo=none/\alo=none)\/∃ v a,lo=some v/\alo=some a/\Rel w S m v a) (hhi:(hi=none/\ahi=none)\/∃ v a,hi=some v/\ahi=some a/\Rel w S m v a)
  (hk:aG (ni ae T M t x alo ahi).ks):cB base w S m P (ni ae T M t x alo ahi) (Instr.sliceAt t vx lo hi none):=by
 by_cases h1:∃ u l f,x = .bF u l f
 ·obtain ⟨u,l,f,rfl⟩:=h1
  have h0:=KU hT hM t ⟨(fun _ _ _ e=>by cases e),fun _ e=>by cases e⟩ (Le.un _ _ _ _ hx) hlo hhi
  unfold ni at h0 hk ⊢
  cases hd:(ag T t).d <;> simp only [hd] at h0 hk ⊢ <;> try exact (aH hk).elim
  rename_i e
  cases hsz:Nat.beq (aW u) (ag T e).sz <;> cases hpos:Nat.ble 1 (ag T e).sz <;> simp only [hsz,hpos] at h0 hk ⊢ <;> try exact (aH hk).elim
  split at hk
  ·exact (h0 hk).le rfl rfl (Le.bF id rfl rfl fun _ _ _ _=>Le.refl _)
  ·refine (h0 hk).le rfl rfl (Le.bF id rfl ?_ fun i hi j hj=>?_)
   ·simp [ae]
   ·rw [Cf]; exact Le.refl _
  ·rename_i k1 h1
   refine (h0 hk).le rfl rfl (Le.bF id rfl ?_ fun i hi j hj=>?_)
   ·have:0<=h1/\h1<=(l.length:Int):=by simpa [cz,aG,ae] using hk
    simp [ae]; omega
   ·rw [qd _ _ _ _ _ hi]; exact Le.refl _
  ·rename_i k1 i1 k2 h1
   have hin:(0<=h1/\h1<=(l.length:Int))/\(0<=i1/\i1<=(h1.toNat:Int)):=by simpa [aG,ae] using hk
   refine (h0 hk).le rfl rfl (Le.bF id rfl ?_ fun i hi j hj=>?_)
   ·simp [ae]; omega
   ·have hi':i<h1.toNat-i1.toNat:=hi
    rw [Cf,qd _ _ _ _ _ (by show i1.toNat+i<h1.toNat; omega)]; exact Le.refl _
  ·exact (aH hk).elim
 by_cases h2:∃ b,x = .bz b
 ·obtain ⟨b,rfl⟩:=h2
  unfold ni at hk ⊢
  cases hd:(ag T t).d <;> simp only [hd] at hk ⊢ <;> try exact (aH hk).elim
  rename_i e
  cases hpos:Nat.ble 1 (ag T e).sz <;> simp only [hpos] at hk ⊢ <;> try exact (aH hk).elim
  cases hb:blk M b <;> simp only [hb] at hk ⊢ <;> try exact (aH hk).elim
  rename_i e' u l
  cases hsz:Nat.beq (aW u) (ag T e).sz <;> simp only [hsz] at hk ⊢ <;> try exact (aH hk).elim
  have hbu:blk (iy M) b = .rows e' (aW u) l.length (vw u l):=by rw [gB,hb]; rfl
  have h0:=KU (x:=.own b l.length) hT hM.un t ⟨(fun _ _ _ e=>by cases e),fun _ e=>by cases e⟩ (hx.Ce hM hb) hlo hhi
  unfold ni at h0
  simp only [hd,hpos,hbu] at h0
  have fin:∀ {r r':R} {x:Sem Value},cB base w S m P r x->r'.inv=r.inv->r.m=iy M->r'.m=M->(∀ w' S' m' v,aV base w' S' m' (iy M)->Rel w' S' m' v r.v->Rel w' S' m' v r'.v)->cB base w S m P r' x:=by
   intro r r' x h1 h2 h3 h4 h5
   refine h1.to h2 (by rw [h3,h4,iA]) (fun w' S' m' i l hB=>?_) (fun i hc=>?_) (fun w' S' m' v hm hv=>h5 w' S' m' v (by rw [<- h3]; exact hm) hv)
   ·rw [h3,gB] at hB; rw [h4]; exact bZ.un.1 hB
   ·rw [h3,gB,tu] at hc; rw [h4]; exact hc
  split at hk
  ·exact fin (h0 hk) rfl rfl rfl fun _ _ _ _ hm hv=>hv.Cc hm hbu
  ·exact fin (h0 hk) rfl rfl rfl fun _ _ _ _ hm hv=>hv
  ·simp only [hsz] at h0
   exact fin (h0 hk) rfl rfl rfl fun _ _ _ _ hm hv=>hv
  ·simp only [hsz] at h0
   exact fin (h0 hk) rfl rfl rfl fun _ _ _ _ hm hv=>hv
  ·exact (aH hk).elim
 ·exact KU hT hM t ⟨fun u l f e=>h1 ⟨u,l,f,e⟩,fun b e=>h2 ⟨b,e⟩⟩ hx hlo hhi hk
theorem KV (hT:bG P T) (hM:aV base w S m M) (t:TypeId) {vx vh vm:Value} {x h:AV} (hi mx:Operand) (hx:Rel w S m vx x) (hh:Rel w S m vh h)
  (hhi:∀ k n,hi = .const (.int k n)->vh = .int k n) (hmx:∀ k n,mx = .const (.int k n)->vm = .int k n) (hsame:∀ i,hi = .tmp i->mx = .tmp i->vm=vh)
  (hk:aG (pK ae T M t x hi mx h).ks):cB base w S m P (pK ae T M t x hi mx h) (Instr.sliceAt t vx none (some vh) (some vm)):=by
 unfold pK at hk ⊢
 split at hk
 case h_2=>exact (aH hk).elim
 rename_i e htd
 obtain ⟨_,_,_,g⟩:=hT.bJ htd (by simp)
 have hd:=g.d; rw [htd] at hd
 have:=fF hd.symm; subst this
 have hel:P.elem t=e:=by simp [Program.elem,g.und]
 have ht':P.underlying t=some (.slice (P.elem t)):=by rw [hel]; exact g.und
 have run:∀ x hi mx,(Instr.sliceAt t x none (some hi) (some mx)).run P w=(Instr.slice t x none (some hi) (some mx)).run P w:=fun x hi mx=>run_sliceAt_slice w t x none (some hi) (some mx) ht'
 split at hk
 ·rename_i k1 k2 hpos
  obtain ⟨_,ie,ze,ge⟩:=hT.eO (Nat.le_of_ble_eq_true hpos)
  have hsize:(sizeOf (P.elem t)).run P w = .ok (ag T e).sz w:=by simp [sizeOf,typeInfo,hel,ge.info,ge.sz]
  obtain rfl:=hhi k1 0 rfl
  obtain rfl:=hmx k2 0 rfl
  have fin:∀ a n cap,(Instr.sliceAt t (.slice a n cap) none (some (.int k1 0)) (some (.int k2 0))).run P w = .ok (.slice a 0 0) w:=fun a n cap=>by
   rw [run,run_slice_hm w t a n cap ht' _ _ _ _ (by omega) (by omega) (by omega),hsize]
   simp [Result.andThen_ok,sliced]
  split at hk
  ·cases hx with
   | slice=>exact .val hM (fin _ _ _) (.emp _ _)
   | dL=>exact .val hM (fin _ _ _) (.emp _ _)
  ·obtain ⟨a,cap,rfl,_⟩:=(Le.un _ _ _ _ hx).yw
   exact .val hM (fin _ _ _) (.emp _ _)
  ·cases hx; exact .val hM (fin _ _ _) (.emp _ _)
  ·cases hx; exact .val hM (fin _ _ _) (.emp _ _)
  ·cases hx with
   | eZ=>exact .val hM (fin _ _ _) (.emp _ _)
   | own=>exact .val hM (fin _ _ _) (.emp _ _)
  ·cases hx with
   | fD=>exact .val hM (fin _ _ _) (.emp _ _)
   | bz=>exact .val hM (fin _ _ _) (.emp _ _)
  ·cases hx; exact .val hM (fin _ _ _) (.emp _ _)
  ·exact (aH hk).elim
 ·rename_i i j hpos
  obtain ⟨_,ie,ze,ge⟩:=hT.eO (Nat.le_of_ble_eq_true hpos)
  split at hk
  case h_3=>exact (aH hk).elim
  case h_2 =>
   rename_i u l f kk k hij
   have hij:=Nat.eq_of_beq_eq_true hij; subst hij
   obtain rfl:=hsame i rfl rfl
   split at hk
   case h_2=>exact (aH hk).elim
   rename_i hsz
   have hsz:=Nat.eq_of_beq_eq_true hsz
   have hsize:(sizeOf (P.elem t)).run P w = .ok (aW u) w:=by simp [sizeOf,typeInfo,hel,ge.info,ge.sz,hsz]
   have hin:0<=k/\k<=(l.length:Int):=by simpa [cz,aG,ae] using hk
   cases hh
   have hkn:k.toNat<=l.length:=by omega
   have hle:Le (.slice (aW u) k.toNat true (vw u l)) (.bF u (l.take k.toNat) true):=Le.bF id rfl (by simp; omega) fun i hi j hj=>by rw [qd _ _ _ _ _ hi]; exact Le.refl _
   obtain ⟨a,cap,rfl,hn,hcap,hf,h0 | ⟨b,o,f',rfl,hs,hc,hr⟩⟩:=(Le.un _ _ _ _ hx).yw
   ·obtain rfl:k=0:=by omega
    refine .val hM (v:=.slice a 0 0) ?_ (hle _ _ _ _ (.dL _ _ _ _ _ _ (by omega) (fun _=>rfl)))
    rw [run,run_slice_hm w t a _ cap ht' _ _ _ _ (by omega) (by omega) (by omega),hsize]
    simp [Result.andThen_ok,sliced]
   ·refine .val hM (v:=.slice (some ⟨b,o,none⟩) k.toNat k.toNat) ?_ (hle _ _ _ _ (.slice _ _ _ _ _ _ _ _ f' hs (Nat.le_refl _) (by omega) (fun _=>rfl) (fun i hi j hj=>hc i (by omega) j hj) (fun i hi j hj=>hr i (by omega) j hj)))
    rw [run,run_slice_hm w t _ _ cap ht' _ _ _ _ (by omega) (by omega) (by omega),hsize]
    simp only [Result.andThen_ok,sliced]
    congr 2
    split <;> simp [Addr.add]
  rename_i sz n f c kk k hij
  have hij:=Nat.eq_of_beq_eq_true hij; subst hij
  obtain rfl:=hsame i rfl rfl
  split at hk
  case h_2=>exact (aH hk).elim
  rename_i hsz
  have hsz:=Nat.eq_of_beq_eq_true hsz
  have hsize:(sizeOf (P.elem t)).run P w = .ok sz w:=by simp [sizeOf,typeInfo,hel,ge.info,ge.sz,hsz]
  have hin:0<=k/\k<=n:=by simpa [cz,aG,ae] using hk
  cases hh
  have hkn:k.toNat<=n:=by omega
  cases hx with
  | slice _ b o _ _ cap _ _ f hs hn hcap hf hc hr =>
   refine .val hM (v:=.slice (some ⟨b,o,none⟩) k.toNat k.toNat) ?_ (.slice _ _ _ _ _ _ _ _ f hs (Nat.le_refl _) (by omega) (fun _=>rfl) (fun i hi j hj=>hc i (by omega) j hj) (fun i hi j hj=>hr i (by omega) j hj))
   rw [run,run_slice_hm w t _ n cap ht' _ _ _ _ (by omega) (by omega) (by omega),hsize]
   simp only [Result.andThen_ok,sliced]
   congr 2
   split <;> simp [Addr.add]
  | dL _ a cap _ _ _ hcap hf =>
   obtain rfl:k=0:=by omega
   refine .val hM (v:=.slice a 0 0) ?_ (.dL _ _ _ _ _ _ (by omega) (fun _=>rfl))
   rw [run,run_slice_hm w t _ 0 cap ht' _ _ _ _ (by omega) (by omega) (by omega),hsize]
   simp [Result.andThen_ok,sliced]
 ·exact (aH hk).elim
end Go.aT
