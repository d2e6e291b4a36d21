/- Every operation of the abstract machine is sound. One operation; then a region, guards and all. -/
import Derived.Test.YtjkhncojgilbaaaGreatDoorEngI
import Derived.Test.YtjkhncojgilbaaaGreatDoorEngMf
namespace Go.aT
open Go Go.RowKit
variable {P:Program} {T:aX} {base:Env} {w:World} {S:Nat->Prop} {m:aY} {M:Mem}
def Then (base:Env) (w:World) (S:Nat->Prop) (m:aY) (r:R) (a:Act) (dst:Option Tmp) (K:Act->World->Prop):Prop :=
 ∀ v w' S' m',Trans base w S m w' S' m' r.inv->aV base w' S' m' (r.m)->Rel w' S' m' v r.v->K (a.put dst v) w'
theorem fo {o:Oper} {a:Act} {K:Act->World->Prop} {Q:Exit->Act->World->Prop} {r:R} {x:Sem Value} (he:execOp a.eval o=(do pure (.value (<- x)))) (h:cB base w S m P r x)
  (hK:Then base w S m r a o.dst K):o.wp P a w K Q:=by
 obtain ⟨v,w',S',m',h1,h2,h3,h4⟩:=h
 unfold Oper.wp
 rw [he]
 simp only [Sem.run_bind,h1,Result.andThen_ok,Sem.run_pure]
 exact hK v w' S' m' h2 h3 h4
theorem K4 {o:Oper} {a:Act} {K:Act->World->Prop} {Q:Exit->Act->World->Prop} {r:R} {x:Sem Unit} (he:execOp a.eval o=(do x; pure .skip)) (h:vU base w S m P r x)
  (hK:Then base w S m r a o.dst K):o.wp P a w K Q:=by
 obtain ⟨w',S',m',h1,h2,h3,h4⟩:=h
 unfold Oper.wp
 rw [he]
 simp only [Sem.run_bind,h1,Result.andThen_ok,Sem.run_pure]
 exact hK Go.undef w' S' m' h2 h3 (by rw [h4]; exact .undef _ _)
theorem abR {l:List AV} (h:FH l=true) {i:Nat} (hi:i<au l):flat (nth l i)=true:=by
 induction l generalizing i with
 | nil=>simp [au] at hi
 | cons a l ih =>
  simp only [FH] at h
  split at h
  ·cases i with
   | zero=>assumption
   | succ i=>exact ih h (by simp [au] at hi; omega)
  ·simp at h
theorem Rel.pR {v:Value} {a:AV} (h:Rel w S [] v a) (hf:pR a=true) (S':Nat->Prop):Rel w S' [] v a:=by
 cases a with
 | bN vs =>
  cases h with
  | bN _ _ _ hl h=>exact .bN _ _ _ hl fun i hi=>(h i hi).flat (abR (by simpa [aT.pR] using hf) hi) _ _
 | _=>exact h.flat (by simpa [aT.pR] using hf) _ _
theorem aV.called {w':World} {S':Nat->Prop} (hM:aV base w S m M) (hb:Below w.heap.size w w') (hS:∀ b,S b->S' b) (hS':∀ b,S' b->b<w'.heap.size) (hnew:∀ b,S' b->b<w.heap.size->S b) :
  Trans base w S m w' S' m none/\aV base w' S' m M:=by
 have hheap:∀ b,b<w.heap.size->w'.heap[b]? = w.heap[b]?:=fun b h=>hb.block b h
 refine ⟨⟨aat hb hM.fu,hS,fun b h=>(Nat.lt_or_ge b w.heap.size).elim (fun hlt=>.inl (hnew b h hlt)) (fun hge=>.inr (hM.new hge)),fun b h=>hheap b (hM.sb b h),sW fun _ _ _ h=>h⟩,?_⟩
 refine ⟨hM.len,hS',?_,fun i l hi=>⟨(hM.lt i l hi).1,Nat.lt_of_lt_of_le (hM.lt i l hi).2.1 hb.size,fun hs=>(hM.lt i l hi).2.2 (hnew _ hs (hM.lt i l hi).2.1)⟩,hM.inj,fun b h=>Nat.lt_of_lt_of_le (hM.fu b h) hb.size,hM.gl fun k hk=>hheap k (hM.fu k hk),hM.pin,fun i l hi=>(hM.ext i l hi).to (fun b _ h=>h) hb.size (fun b hx h=>.inl (hnew b h ((hM.ext i l hi).out b hx).2.1)) fun j l' hj=>.inl ⟨l',hj,rfl,.inl rfl⟩⟩
 intro i l hi
 have hbk:=hM.bk i l hi
 have hrel:∀ m v a,Rel w S m v a->Rel w' S' m v a:=fun m v a hr=>hr.mono hS (fun b h=>hheap b (hM.sb b h)) _ (fun _ _ h=>h)
 cases l with
 | none=>revert hbk; cases blk M i <;> exact fun h=>h
 | some l₀ =>
  have hlt:=(hM.lt i l₀ hi).2.1
  revert hbk
  cases blk M i with
  | dead=>exact fun h=>h
  | cells e cs=>rintro ⟨vs,h1,h2,h3,h4⟩; exact ⟨vs,(hheap _ hlt).trans h1,h2,h3,fun i hi=>hrel _ _ _ (h4 i hi)⟩
  | rows e sz n c=>rintro ⟨h0,h1,h2,h3,vs,h4,h5,h6⟩; exact ⟨h0,h1,h2,h3,vs,(hheap _ hlt).trans h4,h5,fun i hi j hj=>⟨(h6 i hi j hj).1,hrel _ _ _ (h6 i hi j hj).2⟩⟩
  | bC e ty x=>rintro ⟨h0,h1,h2,h3,vs,h4,h5,h6⟩; exact ⟨h0,h1,h2,h3,vs,(hheap _ hlt).trans h4,h5,fun i hi j hj=>⟨(h6 i hi j hj).1,hrel _ _ _ (h6 i hi j hj).2⟩⟩
  | dV e ty x=>rintro ⟨h0,h1,h2,h3,vs,fz,h4,h5,h6⟩; exact ⟨h0,h1,h2,h3,vs,fz,(hheap _ hlt).trans h4,h5,fun i hi j hj=>⟨(h6 i hi j hj).1,hrel _ _ _ (h6 i hi j hj).2⟩⟩
  | arr e ty x=>rintro ⟨vs,h4,h5,h6⟩; exact ⟨vs,(hheap _ hlt).trans h4,h5,fun i hi=>⟨(h6 i hi).1,hrel _ _ _ (h6 i hi).2⟩⟩
  | map ty uy x=>rintro ⟨es,ck,h4,h5,h6,h7⟩; exact ⟨es,ck,(hheap _ hlt).trans h4,h5,fun i hi=>⟨hrel _ _ _ (h6 i hi).1,hrel _ _ _ (h6 i hi).2⟩,h7⟩
  | dW s pos=>rintro ⟨h1,h2⟩; exact ⟨(hheap _ hlt).trans h1,h2⟩
  | dz x y=>exact fun hf=>hf.keep hS (fun b h=>hheap b (hM.sb b h)) (hheap _ hlt) fun b hx=>hheap b ((hM.ext i l₀ hi).out b hx).2.1
theorem aV.Gc (hM:aV base w S m M) (l:Option Loc) (B:bT) (hl:∀ l₁,l=some l₁->¬ base.Z l₁.g/\l₁.g<w.heap.size/\¬ S l₁.g/\∀ (i:Nat) (l₂:Loc),m[i]? = some (some l₂)->l₂.g≠l₁.g)
  (hB:bZ w S (m++[l]) l B) (hx:∀ l₁,l=some l₁->l₁.ext=[]/\∀ (i:Nat) (l₂:Loc),m[i]? = some (some l₂)->l₁.g ∉ l₂.ext):Trans base w S m w S (m++[l]) none/\aV base w S (m++[l]) (fI M B):=by
 have hlm:∀ (i:Nat) (l':Option Loc),m[i]? = some l'->(m++[l])[i]? = some l':=fun i l' hi=>by
  rw [List.getElem?_append_left (by exact (List.getElem?_eq_some_iff.1 hi).1)]; exact hi
 have hsplit:∀ (i:Nat) (l':Option Loc),(m++[l])[i]? = some l'->m[i]? = some l'\/(i=m.length/\l'=l):=fun i l' hi=>by
  by_cases hlt:i<m.length
  ·rw [List.getElem?_append_left hlt] at hi; exact .inl hi
  ·have:i=m.length:=by
    have:=(List.getElem?_eq_some_iff.1 hi).1
    simp at this; omega
   subst this
   simp at hi
   exact .inr ⟨rfl,hi.symm⟩
 refine ⟨⟨bX.refl _ _,fun _ h=>h,fun _ h=>.inl h,fun _ _=>rfl,sW fun i l' _ hi=>hlm i l' hi⟩,?_⟩
 refine ⟨by simp [vN,hM.len],hM.sb,?_,?_,?_,hM.fu,hM.iO,hM.KC _ _,fun i l' hi=>?_⟩
 rotate_right
 ·rcases hsplit i _ hi with hi' | ⟨rfl,e⟩
  ·have q:=hM.ext i l' hi'
   refine ⟨q.nd,q.out,fun b hb j l'' hj=>?_⟩
   rcases hsplit j _ hj with hj' | ⟨rfl,e⟩
   ·exact q.far b hb j l'' hj'
   ·obtain ⟨x1,x2⟩:=hx l'' e.symm
    exact ⟨fun e=>x2 i l' hi' (e▸hb),fun _=>by rw [x1]; exact fun h=>by cases h⟩
  ·exact .nil (hx l' e.symm).1
 ·intro i l' hi
  rcases hsplit i l' hi with hi' | ⟨rfl,rfl⟩
  ·have hlt:i<m.length:=(List.getElem?_eq_some_iff.1 hi').1
   rw [jy,if_neg (by rw [<- hM.len]; omega)]
   have hb:=hM.bk i l' hi'
   have hrel:∀ v a,Rel w S m v a->Rel w S (m++[l]) v a:=fun v a hr=>hr.mono (fun _ h=>h) (fun _ _=>rfl) _ hlm
   cases l' with
   | none=>revert hb; cases blk M i <;> exact fun h=>h
   | some l₀ =>
    revert hb
    cases blk M i with
    | dead=>exact fun h=>h
    | cells e cs=>rintro ⟨vs,h1,h2,h3,h4⟩; exact ⟨vs,h1,h2,h3,fun i hi=>hrel _ _ (h4 i hi)⟩
    | rows e sz n c=>exact fun h=>h
    | bC e ty x=>exact fun h=>h
    | dV e ty x=>exact fun h=>h
    | arr e ty x=>exact fun h=>h
    | map ty uy x=>exact fun h=>h
    | dW s pos=>exact fun h=>h
    | dz x y=>exact fun h=>h
  ·rw [jy,if_pos hM.len]; exact hB
 ·intro i l' hi
  rcases hsplit i (some l') hi with hi' | ⟨rfl,e⟩
  ·exact hM.lt i l' hi'
  ·have:=hl l' e.symm; exact ⟨this.1,this.2.1,this.2.2.1⟩
 ·intro i j l1 l2 hi hj e
  rcases hsplit i _ hi with hi' | ⟨rfl,e1⟩ <;> rcases hsplit j _ hj with hj' | ⟨rfl,e2⟩
  ·exact hM.inj i j _ _ hi' hj' e
  ·exact absurd e ((hl l2 e2.symm).2.2.2 i l1 hi')
  ·exact absurd e.symm ((hl l1 e1.symm).2.2.2 j l2 hj')
  ·rfl
theorem Tp {u:Ty} (h:lL u=true) (x:El u) {j:Nat} (hj:j<aW u):flat (nth (dB u x) j)=true:=by
 induction u generalizing j with
 | list e=>cases h
 | smap=>cases h
 | dm k =>
  have:j=0:=by simp only [aW] at hj; omega
  subst this; rfl
 | pair a b iha ihb =>
  simp only [lL] at h
  split at h
  ·rename_i ha
   simp only [dB,lS,ny]
   simp only [aW] at hj
   split
   ·exact iha ha _ (by assumption)
   ·exact ihb h _ (by omega)
  ·cases h
 | _ =>
  have:j=0:=by simp only [aW] at hj; omega
  subst this; rfl
theorem Tq {call:dD} (hcall:Sound P call) (hM:aV base w S m M) {o:Oper} {a:Act} {K:Act->World->Prop} {Q:Exit->Act->World->Prop} {id:Nat} {bargs:List AV} {oo:Bool} {vs:Array Value}
  (hexec:execOp a.eval o=callFunc id vs) (hall:lh w (kH base S w) [] vs bargs) (houtr:oo=true->lh w S [] vs bargs)
  (hk:aG (lM ae call M id bargs oo).ks) (hK:Then base w S m (lM ae call M id bargs oo) a o.dst K):o.wp P a w K Q:=by
 unfold lM at hk hK
 have go:∀ {Sc:Nat->Prop} {r:CR},(∀ b,Sc b->b<w.heap.size)->lh w Sc [] vs (bargs)->iX P id (bargs) r ->
   (∀ v w',Below w.heap.size w w'->Ga w w' Sc v r->K (a.put o.dst v) w')->o.wp P a w K Q:=fun {Sc r} hSc hr hc hk'=>by
  unfold Oper.wp
  rw [hexec]
  rcases hc w Sc vs hM.iO hSc hr with ⟨hrun,hC⟩ | ⟨v,w',hrun,hp⟩
  ·rw [hrun]
   refine Calls.mono hC fun e w' ⟨v,he,hb,hres⟩=>?_
   subst he
   exact hk' v w' hb hres
  ·rw [hrun]
   obtain ⟨v',hv,hb,hres⟩:=hp
   injection hv with hv; subst hv
   exact hk' v w' hb hres
 split at hk
 ·rename_i v ks hc
  split at hk
  ·refine go hM.sb (houtr rfl) (hcall.pu _ _ _ _ hc hk) fun u w' hb hres=>?_
   obtain ⟨ht,hm⟩:=hM.called (S':=oD w w' S) hb (fun b h=>.inl h) (fun b h=>by rcases h with h | h; exact Nat.lt_of_lt_of_le (hM.sb b h) hb.size; exact h.2) (fun b h hlt=>by rcases h with h | h; exact h; omega)
   simp only [hc] at hK
   exact hK u w' _ _ ht hm (Rel.weak hres)
  ·split at hk
   case h_2=>exact (aH hk).elim
   rename_i hfl
   refine go (fun b h=>h.2) hall (hcall.pu _ _ _ _ hc hk) fun u w' hb hres=>?_
   obtain ⟨ht,hm⟩:=hM.called (S':=S) hb (fun b h=>h) (fun b h=>Nat.lt_of_lt_of_le (hM.sb b h) hb.size) (fun b h _=>h)
   simp only [hc,hfl] at hK
   exact hK u w' _ _ ht hm (Rel.weak (Rel.pR hres hfl S))
 ·rename_i e sz n c ks hc
  split at hk
  case h_2=>exact (aH hk).elim
  refine go hM.sb (houtr rfl) (hcall.pu _ _ _ _ hc hk) fun u w' hb hres=>?_
  simp only [hc] at hK
  rcases hres with ⟨⟨a0,rfl⟩,rfl⟩ | ⟨l,vs',rfl,g1,g2,rfl,rfl,g3,g4,g5,g6,g7⟩
  ·obtain ⟨ht,hm⟩:=hM.called (S':=S) hb (fun b h=>h) (fun b h=>Nat.lt_of_lt_of_le (hM.sb b h) hb.size) (fun b h _=>h)
   obtain ⟨ht',hm'⟩:=hm.Gc none (.rows e sz 0 c) (fun _ h=>by simp at h) rfl (fun _ h=>by cases h)
   exact hK _ w' _ _ ⟨ht.below.trans ht'.below,ht'.sub,ht.up,ht.st,FR ht.lm ht'.lm⟩ hm' (.eZ _ _ _ (by rw [<- hM.len]; simp))
  ·obtain ⟨ht,hm⟩:=hM.called (S':=fun b=>oD w w' S b/\b≠l.g) hb (fun b h=>⟨.inl h,fun e=>by have:=hM.sb b h; omega⟩) (fun b h=>by rcases h.1 with h | h; exact Nat.lt_of_lt_of_le (hM.sb b h) hb.size; exact h.2) (fun b h hlt=>by rcases h.1 with h | h; exact h; omega)
   obtain ⟨ht',hm'⟩:=hm.Gc (some { l with ext:=[] }) (.rows e l.sz l.n c) (fun l₁ h=>by
    injection h with h; subst h
    exact ⟨hM.new g1,g2,fun h=>h.2 rfl,fun i l₂ hi e=>by have:=(hM.lt i l₂ hi).2.1; have e:l₂.g=l.g:=e; omega⟩)
    ⟨rfl,rfl,g3,g4,vs',g5,g6,g7⟩ (fun l₁ h=>by injection h with h; subst h; exact ⟨rfl,fun i l₂ hi hq=>by have:=((hM.ext i l₂ hi).out _ hq).2.1; have h1:w.heap.size<=l.g:=g1; have:l.g<w.heap.size:=this; omega⟩)
   exact hK _ w' _ _ ⟨ht.below.trans ht'.below,fun b h=>ht.sub b h,ht.up,ht.st,FR ht.lm ht'.lm⟩ hm' (.own _ _ _ { l with ext:=[] } (by rw [<- hM.len]; simp) (Nat.le_refl _) ⟨g3,g4⟩)
 ·rename_i e u x ks hc
  split at hk
  case h_2=>exact (aH hk).elim
  rename_i hor
  simp only [hc,hor] at hK
  have main:∀ {Sc:Nat->Prop},(∀ b,Sc b->b<w.heap.size)->lh w Sc [] vs bargs->(∀ b,S b->Sc b) ->
    (∀ {w':World} {l:Loc} {v:Value} {i j:Nat},i<x.length->j<aW u->Rel w' (fun b=>oD w w' Sc b/\b≠l.g) [] v (vw u x i j)->Rel w' (fun b=>oD w w' S b/\b≠l.g) [] v (vw u x i j))->o.wp P a w K Q:=by
   intro Sc hsc hrel hsub hflat
   refine go hsc hrel (hcall.pu _ _ _ _ hc hk) fun u' w' hb hres=>?_
   rcases hres with ⟨⟨a0,rfl⟩,hx0⟩ | ⟨l,vs',rfl,g1,g2,gsz,gn,g3,g4,g5,g6,g7⟩
   ·obtain ⟨ht,hm⟩:=hM.called (S':=S) hb (fun b h=>h) (fun b h=>Nat.lt_of_lt_of_le (hM.sb b h) hb.size) (fun b h _=>h)
    obtain ⟨ht',hm'⟩:=hm.Gc none (.bC e u x) (fun _ h=>by simp at h) hx0 (fun _ h=>by cases h)
    exact hK _ w' _ _ ⟨ht.below.trans ht'.below,ht'.sub,ht.up,ht.st,FR ht.lm ht'.lm⟩ hm' (.fD _ _ _ (by rw [<- hM.len]; simp))
   ·obtain ⟨ht,hm⟩:=hM.called (S':=fun b=>oD w w' S b/\b≠l.g) hb (fun b h=>⟨.inl h,fun e=>by have:=hM.sb b h; omega⟩) (fun b h=>by rcases h.1 with h | h; exact Nat.lt_of_lt_of_le (hM.sb b h) hb.size; exact h.2) (fun b h hlt=>by rcases h.1 with h | h; exact h; omega)
    obtain ⟨ht',hm'⟩:=hm.Gc (some { l with ext:=[] }) (.bC e u x) (fun l₁ h=>by
     injection h with h; subst h
     exact ⟨hM.new g1,g2,fun h=>h.2 rfl,fun i l₂ hi e=>by have:=(hM.lt i l₂ hi).2.1; have e:l₂.g=l.g:=e; omega⟩)
     ⟨gsz,gn,g3,g4,vs',g5,g6,fun i hi j hj=>⟨(g7 i hi j hj).1,hflat hi hj (g7 i hi j hj).2⟩⟩ (fun l₁ h=>by injection h with h; subst h; exact ⟨rfl,fun i l₂ hi hq=>by have:=((hM.ext i l₂ hi).out _ hq).2.1; have h1:w.heap.size<=l.g:=g1; have:l.g<w.heap.size:=this; omega⟩)
    exact hK _ w' _ _ ⟨ht.below.trans ht'.below,fun b h=>ht.sub b h,ht.up,ht.st,FR ht.lm ht'.lm⟩ hm' (gn▸(show Rel _ _ _ (.slice (some ⟨l.g,0,none⟩) l.n l.cap) _ from .bz _ _ { l with ext:=[] } (by rw [<- hM.len]; simp) ⟨(show l.n<=l.cap from gn▸g3),g4⟩))
  cases oo with
  | true=>exact main hM.sb (houtr rfl) (fun _ h=>h) fun _ _ h=>h
  | false=>exact main (fun b h=>h.2) hall (fun b h=>⟨.inl h,hM.sb b h⟩) fun _ hj h=>h.flat (Tp hor _ hj) _ _
 ·rename_i e u x ks hc
  split at hk
  case h_2=>exact (aH hk).elim
  rename_i hor
  simp only [hc,hor] at hK
  refine go (fun b h=>h.2) hall (hcall.pu _ _ _ _ hc hk) fun u' w' hb hres=>?_
  rcases hres with ⟨⟨a0,rfl⟩,hx0⟩ | ⟨l,vs',rfl,g1,g2,gsz,gn,g3,g4,g5,g6,g7⟩
  ·obtain ⟨ht,hm⟩:=hM.called (S':=S) hb (fun b h=>h) (fun b h=>Nat.lt_of_lt_of_le (hM.sb b h) hb.size) (fun b h _=>h)
   exact hK _ w' _ _ ht hm (Le.bF (fun h=>h) rfl hx0.symm (fun _ _ _ _=>Le.refl _) _ _ _ _ (.dL _ _ _ _ _ _ (Nat.zero_le _) (fun h=>by simp at h)))
  ·obtain ⟨ht,hm⟩:=hM.called (S':=fun b=>S b\/b=l.g) hb (fun b h=>.inl h) (fun b h=>by rcases h with h | h; exact Nat.lt_of_lt_of_le (hM.sb b h) hb.size; exact h▸g2) (fun b h hlt=>by rcases h with h | h; exact h; omega)
   refine hK _ w' _ _ ht hm (Le.bF (fun h=>h) rfl rfl (fun _ _ _ _=>Le.refl _) _ _ _ _ ?_)
   refine .slice _ _ _ _ _ _ _ _ (fun i j=>vs'.getD (i*aW u+j) Go.undef) (.inr rfl) (by omega) g4 (fun h=>by simp at h) (fun i hi j hj=>⟨?_,(g7 i hi j hj).1⟩) (fun i hi j hj=>((g7 i hi j hj).2).flat (Tp hor _ hj) _ _)
   rw [Nat.zero_add]
   refine iB g5 ?_
   have:=fP (off:=j) (k:=1) (show i<x.length by omega) (show j+1<=aW u by omega)
   have h8:x.length*aW u<=l.cap*aW u:=Nat.mul_le_mul_right _ g3
   omega
 ·exact (aH hk).elim
theorem abS {call:dD} (hcall:Sound P call) (hM:aV base w S m M) {o:Oper} {a:Act} {K:Act->World->Prop} {Q:Exit->Act->World->Prop} {f:AV} {args:List AV} {vf:Value} {vargs:Array Value}
  (hf:Rel w S m vf f) (hargs:vargs.size=au args/\∀ i,i<au args->Rel w S m (vargs.getD i Go.undef) (nth args i))
  (he:execOp a.eval o=(do let d <- Deferred.ofValue vf vargs; invoke d.target d.args)) (hk:aG (kT ae call M f args).ks) (hK:Then base w S m (kT ae call M f args) a o.dst K):o.wp P a w K Q:=by
 unfold kT at hk hK
 split at hk
 case h_3=>exact (aH hk).elim
 case h_2 =>
  rename_i id first cap
  cases hf with
  | eU _ _ fs cs _ _ hl0 hl h0 h =>
  let vs:Array Value:=fs++vargs++cs
  have hexec:execOp a.eval o=callFunc id vs:=by rw [he]; rfl
  have hlenb:au (borrows M args)=au args:=cK _ _
  have hvs:vs.size=au (bK first (bK (borrows M args) cap)):=by simp [vs,kY,hl,hl0,hargs.1,hlenb]
  have key:∀ {Sc:Nat->Prop},(∀ i,i<au first->Rel w Sc [] (fs.getD i Go.undef) (nth first i))->(∀ i,i<au args->Rel w Sc [] (vargs.getD i Go.undef) (nth (borrows M args) i))->(∀ i,i<au cap->Rel w Sc [] (cs.getD i Go.undef) (nth cap i))->lh w Sc [] vs (bK first (bK (borrows M args) cap)):=fun {Sc} r0 r1 r2=>by
   refine ⟨hvs,fun i hi=>?_⟩
   rw [kY,kY,hlenb] at hi
   rw [lS,lS,hlenb]
   simp only [vs,Array.getD_eq_getD_getElem?]
   by_cases c1:i<au first
   ·rw [if_pos c1,Array.getElem?_append_left (by simp; omega),Array.getElem?_append_left (by omega)]
    simpa using r0 i c1
   ·rw [if_neg c1]
    by_cases c2:i-au first<au args
    ·rw [if_pos c2,Array.getElem?_append_left (by simp; omega),Array.getElem?_append_right (by omega),hl0]
     simpa using r1 _ c2
    ·rw [if_neg c2,Array.getElem?_append_right (by simp; omega)]
     rw [show i-(fs++vargs).size=i-au first-au args by simp; omega]
     simpa using r2 (i-au first-au args) (by omega)
  refine Tq hcall hM hexec (key (fun i hi=>(h0 i hi).all hM.sb) (fun i hi=>?_) (fun i hi=>(h i hi).all hM.sb)) (fun ho=>key h0 (fun i hi=>?_) h) hk hK
  ·rw [show nth (borrows M _) i=borrow M (nth _ i) from fG _ _ _ hi]
   exact KZ hM (hargs.2 i hi)
  ·rw [show nth (borrows M _) i=borrow M (nth _ i) from fG _ _ _ hi]
   exact Tm (hargs.2 i hi) (Tn ho hi)
 rename_i id first cap
 cases hf with
 | fn _ _ fs cs _ _ hl hl' h1 h1' h h' =>
 let vs:Array Value:=fs++vargs++cs
 have hvs:vs.size=au (bK first (bK args cap)):=by simp [vs,kY,hl,hl',hargs.1]
 have hrel:∀ i,i<au (bK first (bK args cap))->Rel w S m (vs.getD i Go.undef) (nth (bK first (bK args cap)) i):=fun i hi=>by
  rw [kY,kY] at hi
  rw [lS,lS]
  simp only [vs,Array.getD_eq_getD_getElem?]
  by_cases c1:i<au first
  ·rw [if_pos c1,Array.getElem?_append_left (by simp; omega),Array.getElem?_append_left (by omega)]
   simpa using h i c1
  ·rw [if_neg c1]
   by_cases c2:i-au first<au args
   ·rw [if_pos c2,Array.getElem?_append_left (by simp; omega),Array.getElem?_append_right (by omega),hl]
    simpa using hargs.2 _ c2
   ·rw [if_neg c2,Array.getElem?_append_right (by simp; omega)]
    rw [show i-(fs++vargs).size=i-au first-au args by simp; omega]
    simpa using h' (i-au first-au args) (by omega)
 have hexec:execOp a.eval o=callFunc id vs:=by rw [he]; rfl
 have hrelL:lh w S m vs (bK first (bK args cap)):=⟨hvs,hrel⟩
 split at hk
 ·rename_i r hme
  have hc:=hcall.me _ _ _ _ hme hk
  simp only [hme] at hK
  unfold Oper.wp
  rw [hexec]
  rcases hc base w S m vs hM hrelL with ⟨hrun,hC⟩ | ⟨v,w',hrun,hp⟩
  ·rw [hrun]
   refine Calls.mono hC fun e w' ⟨v,S',m',he,ht,hm,hr⟩=>?_
   subst he
   exact hK v w' S' m' ht hm hr
  ·rw [hrun]
   obtain ⟨v',S',m',hv,ht,hm,hr⟩:=hp
   injection hv with hv; subst hv
   exact hK v w' S' m' ht hm hr
 rename_i hme
 simp only [hme] at hK
 have hlenb:au (borrows M (bK first (bK args cap)))=au (bK first (bK args cap)):=cK _ _
 have hall:lh w (kH base S w) [] vs (borrows M (bK first (bK args cap))):=⟨hvs.trans hlenb.symm,fun i hi=>by
  rw [hlenb] at hi
  rw [show nth (borrows M _) i=borrow M (nth _ i) from fG _ _ _ hi]
  exact KZ hM (hrel i hi)⟩
 have houtr:pQ (bK first (bK args cap))=true->lh w S [] vs (borrows M (bK first (bK args cap))):=fun ho=>⟨hvs.trans hlenb.symm,fun i hi=>by
  rw [hlenb] at hi
  rw [show nth (borrows M _) i=borrow M (nth _ i) from fG _ _ _ hi]
  exact Tm (hrel i hi) (Tn ho hi)⟩
 exact Tq hcall hM hexec hall houtr hk hK
theorem abT (ts:List AV) (v:Value):Rel w S m v (bE ts (.const v)):=by
 cases v with
 | agg cs =>
  simp only [bE]
  split
  ·rename_i hc
   have hr:∀ i,i<au (kR cs.toList)->Rel w S m (cs.getD i Go.undef) (nth (kR cs.toList) i):=fun i hi=>Cg _ _ (by rw [KM] at hi; simpa using hi)
   exact .agg _ _ _ (by rw [KM]; simp) (fun i hi=>(hr i hi).one (yH hc hi)) hr
  ·exact .undef _ _
 | _=>exact SB _
theorem ru {a:Act} {ts:List AV} (x:Operand) (h:∀ t,x = .tmp t->Rel w S m (a.tmps.getD t Go.undef) (nth ts t)):Rel w S m (a.eval x) (bE ts x):=by
 cases x with
 | tmp t=>exact h t rfl
 | const v=>exact abT ts v
 | global g=>exact .undef _ _
 | func f=>exact .fn _ _ _ _ _ _ rfl rfl (fun i hi=>by simp [au] at hi) (fun i hi=>by simp [au] at hi) (fun i hi=>by simp [au] at hi) (fun i hi=>by simp [au] at hi)
theorem qh (ts:List AV) (l:List Operand):au (dC ts l)=l.length:=by induction l with | nil=>rfl | cons a l ih=>simp [dC,au,ih]
theorem K5 (ts:List AV) (l:List Operand) (i:Nat) (hi:i<l.length):nth (dC ts l) i=bE ts l[i]:=by
 induction l generalizing i with
 | nil=>simp at hi
 | cons a l ih=>cases i with
  | zero=>rfl
  | succ i=>simpa [dC,nth] using ih i (by simpa using hi)
theorem K6 {a:Act} {ts:List AV} {l:Array Operand} (h:∀ x∈l.toList,Rel w S m (a.eval x) (bE ts x)) :
  (l.map a.eval).size=au (dC ts l.toList)/\∀ i,i<au (dC ts l.toList)->Rel w S m ((l.map a.eval).getD i Go.undef) (nth (dC ts l.toList) i):=by
 refine ⟨by rw [qh]; simp,fun i hi=>?_⟩
 rw [qh] at hi
 rw [K5 _ _ _ hi]
 have hi':i<l.size:=by simpa using hi
 have e:(l.map a.eval).getD i Go.undef=a.eval l.toList[i]:=by simp [hi']
 rw [e]
 exact h _ (List.getElem_mem _)
theorem Tt (ts:List AV) (l:List (Nat×Operand)):(kS ts l).length=l.length:=by induction l with | nil=>rfl | cons a l ih=>obtain ⟨i,o⟩:=a; simp [kS,ih]
theorem abU (ts:List AV) (l:List (Nat×Operand)) (i:Nat) (hi:i<l.length) (hi':i<(kS ts l).length):(kS ts l)[i]=(l[i].1,bE ts l[i].2):=by
 induction l generalizing i with
 | nil=>simp at hi
 | cons a l ih =>
  obtain ⟨j,o⟩:=a
  cases i with
  | zero=>rfl
  | succ i=>simpa [kS] using ih i (by simpa using hi) (by simpa [kS] using hi')
theorem K7 {a:Act} {ts:List AV} {ps:Array (Nat×Operand)} (h:∀ x∈ps.toList.map (·.2),Rel w S m (a.eval x) (bE ts x)) :
  F6 w S m (ps.map fun (i,x)=>(i,a.eval x)) (kS ts ps.toList):=by
 refine ⟨by rw [Tt]; simp,fun j hj hj'=>?_⟩
 have hj2:j<ps.toList.length:=by rw [Tt] at hj; exact hj
 rw [abU _ _ _ hj2 hj]
 have e:(ps.map fun (i,x)=>(i,a.eval x)).toList[j]=(ps.toList[j].1,a.eval ps.toList[j].2):=by simp
 rw [e]
 exact ⟨rfl,h _ (List.mem_map.2 ⟨_,List.getElem_mem _,rfl⟩)⟩
theorem Tu {a:Act} {ts:List AV} (o:Option Operand) (h:∀ x,o=some x->Rel w S m (a.eval x) (bE ts x)) :
  (o.map a.eval=none/\pV ts o=none)\/∃ v b,o.map a.eval=some v/\pV ts o=some b/\Rel w S m v b:=by
 cases o with
 | none=>exact .inl ⟨rfl,rfl⟩
 | some x=>exact .inr ⟨_,_,rfl,rfl,h x rfl⟩
theorem abV (hT:bG P T) (hM:aV base w S m M) {o:Oper} {a:Act} {K:Act->World->Prop} {Q:Exit->Act->World->Prop} {ts:List AV} (b:Builtin) (args:Array Operand) (ats:Array TypeId)
  (ho:o.op = .call ⟨.builtin b,args,ats⟩) (hops:∀ x∈args.toList,Rel w S m (a.eval x) (bE ts x)) (hk:aG (BQ ae T M b ats.toList (dC ts args.toList)).ks)
  (hK:Then base w S m (BQ ae T M b ats.toList (dC ts args.toList)) a o.dst K):o.wp P a w K Q:=by
 obtain ⟨dst,op,type,pos,after,guard⟩:=o
 simp only at ho; subst ho
 have hexec:∀ cs:Array Bool,True:=fun _=>trivial
 unfold BQ at hk hK
 generalize hg:dC ts args.toList=as at hk hK
 split at hk
 ·
  rename_i x
  split at hk
  case h_2=>exact (aH hk).elim
  rename_i t hats
  have hargs:∃ y,args = #[y]/\x=bE ts y:=by
   have hl:=qh ts args.toList
   rw [hg] at hl
   match args,hl,hg with
   | ⟨[y]⟩,_,hg=>simp [dC] at hg; exact ⟨y,rfl,hg.symm⟩
   | ⟨[]⟩,hl,_=>simp [au] at hl
   | ⟨_::_::_⟩,hl,_=>simp [au] at hl
  obtain ⟨y,rfl,rfl⟩:=hargs
  have hats':ats = #[t]:=by apply Array.ext'; simpa using hats
  subst hats'
  simp only [hats] at hK
  exact fo (x:=Builtin.len_ #[t] type #[a.eval y]) (by simp [execOp,resolve,invoke,Go.builtin]) (aa6 hT hM t type (hops y (by simp)) hk) hK
 ·
  rename_i x
  split at hk
  case h_2=>exact (aH hk).elim
  rename_i t hats
  have hargs:∃ y,args = #[y]/\x=bE ts y:=by
   have hl:=qh ts args.toList
   rw [hg] at hl
   match args,hl,hg with
   | ⟨[y]⟩,_,hg=>simp [dC] at hg; exact ⟨y,rfl,hg.symm⟩
   | ⟨[]⟩,hl,_=>simp [au] at hl
   | ⟨_::_::_⟩,hl,_=>simp [au] at hl
  obtain ⟨y,rfl,rfl⟩:=hargs
  have hats':ats = #[t]:=by apply Array.ext'; simpa using hats
  subst hats'
  simp only [hats] at hK
  exact fo (x:=Builtin.cap_ #[t] type #[a.eval y]) (by simp [execOp,resolve,invoke,Go.builtin]) (aa7 hT hM t type (hops y (by simp)) hk) hK
 ·
  rename_i x
  split at hk
  case h_2=>exact (aH hk).elim
  rename_i t hats
  have hargs:∃ y,args = #[y]/\x=bE ts y:=by
   have hl:=qh ts args.toList
   rw [hg] at hl
   match args,hl,hg with
   | ⟨[y]⟩,_,hg=>simp [dC] at hg; exact ⟨y,rfl,hg.symm⟩
   | ⟨[]⟩,hl,_=>simp [au] at hl
   | ⟨_::_::_⟩,hl,_=>simp [au] at hl
  obtain ⟨y,rfl,rfl⟩:=hargs
  have hats':ats = #[t]:=by apply Array.ext'; simpa using hats
  subst hats'
  simp only [hats] at hK
  exact fo (x:=Builtin.clear_ #[t] type #[a.eval y]) (by simp [execOp,resolve,invoke,Go.builtin]) (abC hT hM t type (hops y (by simp)) hk) hK
 ·
  rename_i d s
  have hargs:∃ y z,args = #[y,z]/\d=bE ts y/\s=bE ts z:=by
   have hl:=qh ts args.toList
   rw [hg] at hl
   match args,hl,hg with
   | ⟨[y,z]⟩,_,hg=>simp [dC] at hg; exact ⟨y,z,rfl,hg.1.symm,hg.2.symm⟩
   | ⟨[]⟩,hl,_=>simp [au] at hl
   | ⟨[_]⟩,hl,_=>simp [au] at hl
   | ⟨_::_::_::_⟩,hl,_=>simp [au] at hl
  obtain ⟨y,z,rfl,rfl,rfl⟩:=hargs
  split at hk
  case h_2=>exact (aH hk).elim
  rename_i t u hats
  have hats':ats = #[t,u]:=by apply Array.ext'; simpa using hats
  subst hats'
  simp only [hats] at hK
  exact fo (x:=Builtin.delete_ #[t,u] type #[a.eval y,a.eval z]) (by simp [execOp,resolve,invoke,Go.builtin]) (abW hT hM t u type (hops y (by simp)) (hops z (by simp)) hk) hK
 ·
  rename_i d s
  have hargs:∃ y z,args = #[y,z]/\d=bE ts y/\s=bE ts z:=by
   have hl:=qh ts args.toList
   rw [hg] at hl
   match args,hl,hg with
   | ⟨[y,z]⟩,_,hg=>simp [dC] at hg; exact ⟨y,z,rfl,hg.1.symm,hg.2.symm⟩
   | ⟨[]⟩,hl,_=>simp [au] at hl
   | ⟨[_]⟩,hl,_=>simp [au] at hl
   | ⟨_::_::_::_⟩,hl,_=>simp [au] at hl
  obtain ⟨y,z,rfl,rfl,rfl⟩:=hargs
  split at hk
  case h_2=>exact (aH hk).elim
  rename_i t u hats
  have hats':ats = #[t,u]:=by apply Array.ext'; simpa using hats
  subst hats'
  simp only [hats] at hK
  exact fo (x:=Builtin.copy_ #[t,u] type #[a.eval y,a.eval z]) (by simp [execOp,resolve,invoke,Go.builtin]) (abJ hT hM t u type (hops y (by simp)) (hops z (by simp)) hk) hK
 ·
  rename_i s x
  have hargs:∃ y z,args = #[y,z]/\s=bE ts y/\x=bE ts z:=by
   have hl:=qh ts args.toList
   rw [hg] at hl
   match args,hl,hg with
   | ⟨[y,z]⟩,_,hg=>simp [dC] at hg; exact ⟨y,z,rfl,hg.1.symm,hg.2.symm⟩
   | ⟨[]⟩,hl,_=>simp [au] at hl
   | ⟨[_]⟩,hl,_=>simp [au] at hl
   | ⟨_::_::_::_⟩,hl,_=>simp [au] at hl
  obtain ⟨y,z,rfl,rfl,rfl⟩:=hargs
  split at hk
  ·rename_i t hats
   have hats':ats = #[t,t]:=by
    match ats,hats with
    | ⟨[u,v]⟩,hats =>
     simp only [BM] at hats
     split at hats
     ·rename_i huv
      have:=Nat.eq_of_beq_eq_true huv; subst this
      injection hats with hats; subst hats; rfl
     ·simp at hats
    | ⟨[]⟩,hats=>simp [BM] at hats
    | ⟨[_]⟩,hats=>simp [BM] at hats
    | ⟨_::_::_::_⟩,hats=>simp [BM] at hats
   subst hats'
   simp only [hats] at hK
   exact fo (x:=Builtin.append_ #[t,t] type #[a.eval y,a.eval z]) (by simp [execOp,resolve,invoke,Go.builtin]) (abx hT hM t type (hops y (by simp)) (hops z (by simp)) hk) hK
  ·rename_i hnone
   split at hk
   case h_2=>exact (aH hk).elim
   rename_i t u hats
   have hats':ats = #[t,u]:=by apply Array.ext'; simpa using hats
   subst hats'
   simp only [hnone,hats] at hK
   exact fo (x:=Builtin.append_ #[t,u] type #[a.eval y,a.eval z]) (by simp [execOp,resolve,invoke,Go.builtin]) (abO hT hM t u type (hops y (by simp)) (hops z (by simp)) hk) hK
 ·
  rename_i k n l
  have hargs:∃ y r,args.toList=y::r/\.int k n=bE ts y/\l=dC ts r:=by
   match args,hg with
   | ⟨y::r⟩,hg=>simp [dC] at hg; exact ⟨y,r,rfl,hg.1.symm,hg.2.symm⟩
   | ⟨[]⟩,hg=>simp [dC] at hg
  obtain ⟨y,r,hr,h1,rfl⟩:=hargs
  have hy:=hops y (by rw [hr]; simp)
  rw [<- h1] at hy
  generalize hvy:a.eval y=vy at hy
  cases hy with
  | int _ _ _ hwf =>
  have hres:=abp (P:=P) hM (dC ts r) (r.map a.eval) k n hwf (by have:=qh ts r; rw [og] at this; simp [this]) (fun i hi hi'=>by
   have hir:i<r.length:=by simpa using hi'
   have:=K5 ts r i hir
   rw [pY] at this
   simp only [List.getD,List.getElem?_eq_getElem hi,Option.getD_some] at this
   rw [this]
   simp only [List.getElem_map]
   exact hops _ (by rw [hr]; simp)) hk
  refine fo (x:=Builtin.max_ ats type (args.map a.eval)) (by simp [execOp,resolve,invoke,Go.builtin]) ?_ hK
  obtain ⟨v,w',S',m',q1,q2⟩:=hres
  refine ⟨v,w',S',m',?_,q2⟩
  have e:(args.map a.eval).toList = .int k n::r.map a.eval:=by simp [hr,hvy]
  simp only [Builtin.max_,e]
  exact q1
 ·
  rename_i k n l
  have hargs:∃ y r,args.toList=y::r/\.int k n=bE ts y/\l=dC ts r:=by
   match args,hg with
   | ⟨y::r⟩,hg=>simp [dC] at hg; exact ⟨y,r,rfl,hg.1.symm,hg.2.symm⟩
   | ⟨[]⟩,hg=>simp [dC] at hg
  obtain ⟨y,r,hr,h1,rfl⟩:=hargs
  have hy:=hops y (by rw [hr]; simp)
  rw [<- h1] at hy
  generalize hvy:a.eval y=vy at hy
  cases hy with
  | int _ _ _ hwf =>
  have hres:=abq (P:=P) hM (dC ts r) (r.map a.eval) k n hwf (by have:=qh ts r; rw [og] at this; simp [this]) (fun i hi hi'=>by
   have hir:i<r.length:=by simpa using hi'
   have:=K5 ts r i hir
   rw [pY] at this
   simp only [List.getD,List.getElem?_eq_getElem hi,Option.getD_some] at this
   rw [this]
   simp only [List.getElem_map]
   exact hops _ (by rw [hr]; simp)) hk
  refine fo (x:=Builtin.min_ ats type (args.map a.eval)) (by simp [execOp,resolve,invoke,Go.builtin]) ?_ hK
  obtain ⟨v,w',S',m',q1,q2⟩:=hres
  refine ⟨v,w',S',m',?_,q2⟩
  have e:(args.map a.eval).toList = .int k n::r.map a.eval:=by simp [hr,hvy]
  simp only [Builtin.min_,e]
  exact q1
 ·exact (aH hk).elim
end Go.aT
namespace Go.aT
open Go Go.RowKit
variable {P:Program} {T:aX} {base:Env} {w:World} {S:Nat->Prop} {m:aY} {M:Mem}
theorem Tv (ts:List AV) (i:Operand):∀ k kk n,FP i=some k->bE ts i = .int kk n->n=(k:Int):=by
 intro k kk n h1 h2
 unfold FP at h1
 split at h1
 ·injection h1 with h1; subst h1
  simp only [bE,x8] at h2
  split at h2
  ·injection h2 with _ h2; exact h2.symm
  ·simp at h2
 ·simp at h1
set_option maxHeartbeats 2000000 in
theorem Tw (hT:bG P T) {call:dD} (hcall:Sound P call) (hM:aV base w S m M) {o:Oper} {a:Act} {K:Act->World->Prop} {Q:Exit->Act->World->Prop} {ts:List AV}
  (hops:∀ x∈o.op.operands.toList,Rel w S m (a.eval x) (bE ts x)) (hk:aG (dw ae T call ts M o.op).ks) (hK:Then base w S m (dw ae T call ts M o.op) a o.dst K):o.wp P a w K Q:=by
 obtain ⟨dst,op,type,pos,after,guard⟩:=o
 simp only at hops hk hK
 cases op with
 | move x=>exact fo (x:=pure (a.eval x)) rfl (.val hM rfl (hops x (by simp [Op.operands]))) hK
 | assign x=>exact fo (x:=pure (a.eval x)) rfl (.val hM rfl (hops x (by simp [Op.operands]))) hK
 | alloc t=>exact fo (x:=Instr.alloc t true (.tuple #[])) rfl (aaS hT hM t hk) hK
 | box t x=>exact fo (x:=Instr.box t (a.eval x)) rfl (aaP (T:=T) hM t (hops x (by simp [Op.operands])) hk) hK
 | build t ps=>exact fo (x:=Instr.build t (ps.map fun (i,x)=>(i,a.eval x))) rfl (abg hT hM t (K7 (fun x hx=>hops x (by simpa [Op.operands] using hx))) hk) hK
 | buildSlice t n ps=>exact fo (x:=Instr.buildSlice t n (ps.map fun (i,x)=>(i,a.eval x))) rfl (abh hT hM t n (K7 (fun x hx=>hops x (by simpa [Op.operands] using hx))) hk) hK
 | load t x=>exact fo (x:=Instr.loadAt t (a.eval x)) rfl (aaV hT hM t (hops x (by simp [Op.operands])) hk) hK
 | store t x y=>exact K4 (x:=Instr.storeAt t (a.eval x) (a.eval y)) rfl (aaX hT hM t (hops x (by simp [Op.operands])) (hops y (by simp [Op.operands])) hk) hK
 | binOp op t x y yt=>exact fo (x:=(do eqGuard op t x y (a.eval x) (a.eval y); binOp op t (a.eval x) (a.eval y))) rfl (aaH hT hM op t x y (hops x (by simp [Op.operands])) (hops y (by simp [Op.operands])) hk) hK
 | unOp op t x=>exact fo (x:=Op.unary op (a.eval x)) rfl (aaY hM op (hops x (by simp [Op.operands])) hk) hK
 | convert s d x=>exact fo (x:=convert s d (a.eval x)) rfl (abD hT hM s d (hops x (by simp [Op.operands])) hk) hK
 | makeFunc f as cs =>
  simp only [dw] at hk hK
  obtain ⟨l1,r1⟩:=K6 (l:=as) (fun x hx=>hops x (by simp only [Op.operands,Array.toList_append,List.mem_append]; exact .inl hx))
  obtain ⟨l2,r2⟩:=K6 (l:=cs) (fun x hx=>hops x (by simp only [Op.operands,Array.toList_append,List.mem_append]; exact .inr hx))
  split at hk
  case h_2 =>
   rename_i hne
   split at hk
   case h_2=>exact (aH hk).elim
   rename_i id h1 h2
   have hK:Then base w S m (val M (.eU id (dC ts as.toList) (dC ts cs.toList))) a dst K:=by
    revert hK
    split
    ·rename_i e1 e2; exact (hne e1 e2).elim
    ·simp only [h1,h2]; exact fun h=>h
   exact fo (x:=Instr.makeFunc (.func id) (as.map a.eval) (cs.map a.eval)) rfl (.val hM rfl (.eU _ _ _ _ _ _ l1 l2 (fun i hi=>(r1 i hi).ng (SF h1 hi) _) (fun i hi=>(r2 i hi).ng (SF h2 hi) _))) hK
  rename_i h1 h2
  simp only [h1,h2] at hK
  exact fo (x:=Instr.makeFunc f (as.map a.eval) (cs.map a.eval)) rfl (.val hM rfl (.fn _ _ _ _ _ _ l1 l2 (fun i hi=>(r1 i hi).one (yH h1 hi)) (fun i hi=>(r2 i hi).one (yH h2 hi)) r1 r2)) hK
 | makeSlice t l c=>exact fo (x:=Instr.makeSlice t (a.eval l) (a.eval c)) rfl (abm hT hM t (hops l (by simp [Op.operands])) (hops c (by simp [Op.operands])) hk) hK
 | slice t x lo hi mx =>
  cases mx with
  | some mx =>
   cases lo with
   | some lo=>exact (aH hk).elim
   | none=>cases hi with
    | none=>exact (aH hk).elim
    | some hi =>
     exact fo (x:=Instr.sliceAt t (a.eval x) none (some (a.eval hi)) (some (a.eval mx))) rfl (abX hT hM t hi mx (hops x (by simp [Op.operands])) (hops hi (by simp [Op.operands])) (hops mx (by simp [Op.operands]))
      (fun k n e=>by subst e; rfl) (fun k n e=>by subst e; rfl) (fun i e1 e2=>by subst e1 e2; rfl) hk) hK
  | none=>exact fo (x:=Instr.sliceAt t (a.eval x) (lo.map a.eval) (hi.map a.eval) none) rfl (aba hT hM t (hops x (by simp [Op.operands])) (Tu lo (fun x hx=>hops x (by simp [Op.operands,hx]))) (Tu hi (fun x hx=>hops x (by simp [Op.operands,hx]))) hk) hK
 | fieldAddr t x f=>exact fo (x:=Instr.fieldAt t (a.eval x) f) rfl (aa0 hT hM t f (hops x (by simp [Op.operands])) hk) hK
 | field t x f=>exact fo (x:=Instr.field t (a.eval x) f) rfl (aa1 hT hM t f (hops x (by simp [Op.operands])) hk) hK
 | indexAddr t x i=>exact fo (x:=Instr.indexAt t (a.eval x) (a.eval i)) rfl (aa2 hT hM t (Tv ts i) (hops x (by simp [Op.operands])) (hops i (by simp [Op.operands])) hk) hK
 | index t x i=>exact fo (x:=Instr.index t (a.eval x) (a.eval i)) rfl (aa3 hT hM t (Tv ts i) (hops x (by simp [Op.operands])) (hops i (by simp [Op.operands])) hk) hK
 | makeMap t r =>
  cases r with
  | none=>exact fo (x:=Instr.makeMap t none) rfl (abY hT hM t hk) hK
  | some r=>exact (aH hk).elim
 | lookup t x k ok=>exact fo (x:=Instr.lookup t (a.eval x) (a.eval k) ok) rfl (abZ hT hM t ok (hops x (by simp [Op.operands])) (hops k (by simp [Op.operands])) hk) hK
 | mapUpdate t x k v=>exact K4 (x:=Instr.mapUpdate t (a.eval x) (a.eval k) (a.eval v)) rfl (ab0 hT hM t (hops x (by simp [Op.operands])) (hops k (by simp [Op.operands])) (hops v (by simp [Op.operands])) hk) hK
 | mapEntry t x k=>exact fo (x:=Instr.mapEntry t (a.eval x) (a.eval k)) rfl (ab1 hT hM t (hops x (by simp [Op.operands])) (hops k (by simp [Op.operands])) hk) hK
 | entryStore t x s v=>exact K4 (x:=Instr.entryStore t (a.eval x) (a.eval s) (a.eval v)) rfl (ab2 hT hM t (hops x (by simp [Op.operands])) (hops s (by simp [Op.operands])) (hops v (by simp [Op.operands])) hk) hK
 | range t x=>exact fo (x:=Instr.range t (a.eval x)) rfl (aa5 hT hM t (hops x (by simp [Op.operands])) hk) hK
 | next x s=>exact fo (x:=Instr.next (a.eval x) s type) rfl (aa9 hM type s (hops x (by simp [Op.operands])) hk) hK
 | extract x i=>exact fo (x:=Instr.extract (a.eval x) i) rfl (aa4 hM i (hops x (by simp [Op.operands])) hk) hK
 | nilCheck x =>
  have hx:=hops x (by simp [Op.operands])
  change aG (Fs M (bE ts x)).ks at hk
  change Then base w S m (Fs M (bE ts x)) _ _ K at hK
  generalize bE ts x=av at hx hk hK
  generalize hv:a.eval x=v at hx
  cases av with
  | ref b o=>cases hx with | ref _ _ _ l h=>exact fo (x:=pure (.pointer (some ⟨l.g,o,none⟩))) (by simp only [execOp,hv]; rfl) (.val hM rfl (.ref _ _ _ _ h)) hK
  | bY b i o=>cases hx with | bY _ _ _ _ l h hr=>exact fo (x:=pure (.pointer (some ⟨l.g,i*l.sz+o,none⟩))) (by simp only [execOp,hv]; rfl) (.val hM rfl (.bY _ _ _ _ _ h hr)) hK
  | bS n c=>cases hx with | bS _ b o _ _ f hs hc h=>exact fo (x:=pure (.pointer (some ⟨b,o,none⟩))) (by simp only [execOp,hv]; rfl) (.val hM rfl (.bS _ _ _ _ _ _ hs hc h)) hK
  | _=>exact (aH hk).elim
 | call c =>
  obtain ⟨callee,args,ats⟩:=c
  cases callee with
  | value f =>
   exact abS hcall hM (hops f (by simp [Op.operands,Call.operands])) (K6 (fun x hx=>hops x (by simp [Op.operands,Call.operands]; exact .inr (by simpa using hx)))) (by simp [execOp,resolve]) hk hK
  | invoke r s=>exact (aH hk).elim
  | builtin b=>exact abV hT hM b args ats rfl (fun x hx=>hops x (by simp [Op.operands,Call.operands]; simpa using hx)) hk hK
 | _=>exact (aH hk).elim
end Go.aT
