/- Plain data: cells of them, rows of them; how the abstract machine tells them. -/
import Derived.Test.YtjkhncojgilbaaaGreatDoorEngC
namespace Go.aT
open Go Go.RowKit
variable {P:Program} {T:aX} {base:Env} {w:World} {S:Nat->Prop} {m:aY} {M:Mem}
def Le (a b:AV):Prop:=∀ w S m v,Rel w S m v a->Rel w S m v b
theorem Le.refl (a:AV):Le a a:=fun _ _ _ _ h=>h
theorem Le.undef (a:AV):Le a .undef:=fun _ _ _ _ _=>.undef _ _
theorem Le.trans {a b c:AV} (h:Le a b) (k:Le b c):Le a c:=fun w S m v hr=>k w S m v (h w S m v hr)
theorem Le.aaI {sz n:Nat} {f g:Bool} {c d:Nat->Nat->AV} (hfg:g=true->f=true) (h:∀ i,i<n->∀ j,j<sz->Le (c i j) (d i j)):Le (.slice sz n f c) (.slice sz n g d):=by
 intro w S m v hr
 cases hr with
 | slice _ b o _ _ cap _ _ f' hs hn hcap hf hc hr=>exact .slice _ _ _ _ _ _ _ _ f' hs hn hcap (fun e=>hf (hfg e)) hc (fun i hi j hj=>h i hi j hj _ _ _ _ (hr i hi j hj))
 | dL _ a cap _ _ _ hcap hf=>exact .dL _ _ _ _ _ _ hcap (fun e=>hf (hfg e))
theorem Le.bF {t:Ty} {l:List (El t)} {sz n:Nat} {f g:Bool} {c:Nat->Nat->AV} (hfg:g=true->f=true) (hsz:sz=aW t) (hn:n=l.length) (h:∀ i,i<n->∀ j,j<sz->Le (c i j) (vw t l i j)) :
  Le (.slice sz n f c) (.bF t l g):=by
 subst hsz hn
 intro w S m v hr
 exact .bF _ _ _ _ _ (Le.aaI hfg h _ _ _ _ hr)
theorem Le.un {t:Ty} {l:List (El t)} {f:Bool}:Le (.bF t l f) (.slice (aW t) l.length f (vw t l)):=by
 intro w S m v hr
 cases hr; assumption
theorem Le.aaJ (t:Ty) (l:List (El t)) (f:Bool):Le (.bF t l f) (.bF t l false) :=
 Le.un.trans (Le.bF (fun e=>by cases e) rfl rfl fun _ _ _ _=>Le.refl _)
theorem Le.nil (t:Ty) (f:Bool):Le .bR (.bF t [] f):=by
 intro w S m v hr
 cases hr
 exact .bF _ _ _ _ _ (.dL _ _ _ _ _ _ (by unfold maxLen; omega) (fun _=>rfl))
theorem Le.aaK (t:Ty) (f:Bool):Le .emp (.bF t [] f):=by
 intro w S m v hr
 cases hr
 exact .bF _ _ _ _ _ (.dL _ _ _ _ _ _ (by unfold maxLen; omega) (fun _=>rfl))
theorem KJ (t:Ty):1<=aW t:=by
 induction t with
 | pair a b iha ihb=>simp only [aW]; omega
 | _=>exact Nat.le_refl _
theorem ny (t:Ty) (x:El t):au (dB t x)=aW t:=by
 induction t with
 | pair a b iha ihb=>simp only [dB,kY,aW]; rw [iha,ihb]
 | _=>rfl
theorem Su (t:Ty) (l:List (El t)) (i:Nat):au (jk t l i)=aW t:=ny _ _
theorem jU {t u:Ty} {l:List (El t)} {k:List (El u)} (h:jr t u l=some k):∃ e:t=u,k=e▸l:=by
 unfold jr at h
 split at h
 ·rename_i e _; subst e; injection h with h; exact ⟨rfl,h.symm⟩
 ·cases h
theorem KL {t:Ty} {cs r:List AV} {x:El t} (h:mg t cs=some (x,r)):∃ pre,cs=bK pre r/\au pre=aW t/\∀ j,j<aW t->Le (nth pre j) (nth (dB t x) j):=by
 have one:∀ {a b:AV},Le a b->∀ j,j<1->Le (nth [a] j) (nth [b] j):=by
  intro a b h j hj
  obtain rfl:j=0:=by omega
  exact h
 induction t generalizing cs r with
 | int k =>
  simp only [mg] at h; unfold Fa at h; split at h
  ·split at h
   ·rename_i hk; have hk:=of_decide_eq_true hk; subst hk; cases h; exact ⟨[_],rfl,rfl,one (Le.refl _)⟩
   ·cases h
  ·cases h
 | bool =>
  simp only [mg] at h; unfold RV at h; split at h
  ·cases h; exact ⟨[_],rfl,rfl,one (Le.refl _)⟩
  ·cases h
 | str =>
  simp only [mg] at h; unfold RX at h; split at h
  ·cases h; exact ⟨[_],rfl,rfl,one (Le.refl _)⟩
  ·cases h
 | smap=>cases h
 | dm k =>
  simp only [mg] at h; unfold Fa at h; split at h
  ·split at h
   ·rename_i hk; have hk:=of_decide_eq_true hk; subst hk; cases h; exact ⟨[_],rfl,rfl,one (Le.refl _)⟩
   ·cases h
  ·cases h
 | list e _ =>
  simp only [mg] at h; unfold RY at h; split at h
  ·split at h
   ·rename_i hc
    obtain ⟨e,rfl⟩:=jU hc
    subst e; cases h
    exact ⟨[_],rfl,rfl,one (Le.aaJ _ _ _)⟩
   ·cases h
  ·cases h; exact ⟨[_],rfl,rfl,one (Le.nil _ _)⟩
  ·cases h; exact ⟨[_],rfl,rfl,one (Le.aaK _ _)⟩
  ·cases h
 | pair a b iha ihb =>
  simp only [mg] at h
  split at h
  ·rename_i x1 r1 h1
   split at h
   ·rename_i y r2 h2
    cases h
    obtain ⟨p,rfl,p2,p3⟩:=iha h1
    obtain ⟨q,rfl,q2,q3⟩:=ihb h2
    refine ⟨bK p q,by simp [kF],by rw [kY,p2,q2]; rfl,fun j hj=>?_⟩
    simp only [dB,lS,ny,p2]
    simp only [aW] at hj
    split
    ·exact p3 j (by assumption)
    ·exact q3 _ (by omega)
   ·cases h
  ·cases h
theorem qc {t:Ty} {cs:List AV} {x:El t} (h:ic t cs=some x):au cs=aW t/\∀ j,j<aW t->Le (nth cs j) (nth (dB t x) j):=by
 unfold ic at h
 split at h
 ·rename_i hr
  cases h
  obtain ⟨p,rfl,p2,p3⟩:=KL hr
  rw [kF,List.append_nil]
  exact ⟨p2,p3⟩
 ·cases h
theorem Sv {t:Ty} {n:Nat} {cs:List AV} {l:List (El t)} (h:uT t n cs=some l):l.length=n/\au cs=n*aW t/\∀ i,i<n->∀ j,j<aW t->Le (nth cs (i*aW t+j)) (vw t l i j):=by
 induction n generalizing cs l with
 | zero =>
  cases cs with
  | nil=>simp only [uT] at h; cases h; exact ⟨rfl,by simp [au],fun i hi=>absurd hi (Nat.not_lt_zero i)⟩
  | cons a r=>simp [uT] at h
 | succ n ih =>
  simp only [uT] at h
  split at h
  ·rename_i x r hr
   split at h
   ·rename_i k hk
    cases h
    obtain ⟨p,rfl,p2,p3⟩:=KL hr
    obtain ⟨q1,q2,q3⟩:=ih hk
    refine ⟨by simp [q1],by rw [kY,p2,q2,Nat.add_mul]; omega,fun i hi j hj=>?_⟩
    cases i with
    | zero =>
     rw [Nat.zero_mul,Nat.zero_add,lS,if_pos (by omega)]
     simp only [vw,jk,List.getD_cons_zero]
     exact p3 j hj
    | succ i =>
     rw [lS,if_neg (by rw [p2,Nat.add_mul]; omega),p2,show (i+1)*aW t+j-aW t=i*aW t+j from by rw [Nat.add_mul]; omega]
     have:=q3 i (by omega) j hj
     simp only [vw,jk,List.getD_cons_succ] at this ⊢
     exact this
   ·cases h
  ·cases h
def vR:bT->bT
 | .bC e t l=>.rows e (aW t) l.length (vw t l)
 | B=>B
def iy:Mem->Mem
 | []=>[]
 | B::l=>vR B::iy l
theorem iA (M:Mem):aB (iy M)=aB M:=by induction M with | nil=>rfl | cons a l ih=>simp [iy,aB,ih]
theorem gB (M:Mem) (i:Nat):blk (iy M) i=vR (blk M i):=by
 induction M generalizing i with
 | nil=>rfl
 | cons a l ih=>cases i with
  | zero=>rfl
  | succ i=>simpa [iy,blk] using ih i
theorem bZ.un {l:Option Loc} {B:bT}:bZ w S m l (vR B)↔bZ w S m l B:=by
 cases l <;> cases B <;> exact Iff.rfl
theorem tu (B:bT):isCells (vR B)=isCells B:=by cases B <;> rfl
theorem aV.to {N:Mem} (h:aV base w S m M) (hl:aB N=aB M) (hb:∀ i l,m[i]? = some l->bZ w S m l (blk M i)->bZ w S m l (blk N i)) (hc:∀ i,isCells (blk M i)=true->isCells (blk N i)=true):aV base w S m N :=
 ⟨h.len.trans hl.symm,h.sb,fun i l hi=>hb i l hi (h.bk i l hi),h.lt,h.inj,h.fu,h.iO,fun i l hi=>⟨(h.pin i l hi).1,hc i (h.pin i l hi).2⟩,h.ext⟩
theorem aV.un (h:aV base w S m M):aV base w S m (iy M) :=
 h.to (iA M) (fun i l _ hb=>by rw [gB]; exact bZ.un.2 hb) (fun i hc=>by rw [gB,tu]; exact hc)
theorem bZ.aaL {l:Option Loc} {e:TypeId} {sz n:Nat} {c d:Nat->Nat->AV} (h:bZ w S m l (.rows e sz n c)) (hcd:∀ i,i<n->∀ j,j<sz->Le (c i j) (d i j)):bZ w S m l (.rows e sz n d):=by
 cases l with
 | none=>exact h
 | some l =>
  obtain ⟨h0,h1,h2,h3,vs,h4,h5,h6⟩:=h
  exact ⟨h0,h1,h2,h3,vs,h4,h5,fun i hi j hj=>⟨(h6 i hi j hj).1,hcd i hi j hj _ _ _ _ (h6 i hi j hj).2⟩⟩
theorem bZ.typed {l:Option Loc} {e:TypeId} {sz n:Nat} {c:Nat->Nat->AV} {t:Ty} {x:List (El t)} (h:bZ w S m l (.rows e sz n c)) (hsz:sz=aW t) (hn:n=x.length) (hcd:∀ i,i<n->∀ j,j<sz->Le (c i j) (vw t x i j)) :
  bZ w S m l (.bC e t x):=by
 subst hsz hn
 exact bZ.un.1 (h.aaL hcd)
theorem Rel.Cc (hM:aV base w S m M) {v:Value} {b n:Nat} {e:TypeId} {sz:Nat} {c:Nat->Nat->AV} (hb:blk M b = .rows e sz n c) (h:Rel w S m v (.own b n)):Rel w S m v (.bz b):=by
 cases h with
 | eZ _ a _ h=>exact .fD _ _ _ h
 | own _ _ _ l h hn hc =>
  have hB:=hM.bk _ _ h
  rw [hb] at hB
  have:l.n=n:=hB.2.1
  subst this
  exact .bz _ _ _ h hc
theorem Rel.Ce (hM:aV base w S m M) {v:Value} {b:Nat} {e:TypeId} {t:Ty} {l:List (El t)} (hb:blk M b = .bC e t l) (h:Rel w S m v (.bz b)):Rel w S m v (.own b l.length):=by
 cases h with
 | fD _ a _ h =>
  have hB:=hM.bk _ _ h
  rw [hb] at hB
  have hB:l.length=0:=hB
  rw [hB]
  exact .eZ _ _ _ h
 | bz _ _ l' h hc =>
  have hB:=hM.bk _ _ h
  rw [hb] at hB
  have:l'.n=l.length:=hB.2.1
  rw [<- this]
  exact .own _ _ _ _ h (Nat.le_refl _) hc
theorem cB.le {r r':R} {x:Sem Value} (h:cB base w S m P r x) (hm:r'.m=r.m) (hi:r'.inv=r.inv) (hv:Le r.v r'.v):cB base w S m P r' x:=by
 obtain ⟨v,w',S',m',h1,h2,h3,h4⟩:=h
 exact ⟨v,w',S',m',h1,by rw [hi]; exact h2,by rw [hm]; exact h3,hv _ _ _ _ h4⟩
theorem cB.to {r r':R} {x:Sem Value} (h:cB base w S m P r x) (hi:r'.inv=r.inv) (hl:aB r'.m=aB r.m) (hb:∀ w' S' m' i l,bZ w' S' m' l (blk r.m i)->bZ w' S' m' l (blk r'.m i)) (hc:∀ i,isCells (blk r.m i)=true->isCells (blk r'.m i)=true)
  (hv:∀ w' S' m' v,aV base w' S' m' r.m->Rel w' S' m' v r.v->Rel w' S' m' v r'.v):cB base w S m P r' x:=by
 obtain ⟨v,w',S',m',h1,h2,h3,h4⟩:=h
 exact ⟨v,w',S',m',h1,by rw [hi]; exact h2,h3.to hl (fun i l _ h=>hb _ _ _ _ _ h) hc,hv _ _ _ _ h3 h4⟩
theorem Cf (t:Ty) (l:List (El t)) (k i j:Nat):vw t (l.drop k) i j=vw t l (k+i) j:=by
 unfold vw jk
 simp [List.getD]
theorem qd (t:Ty) (l:List (El t)) (k i j:Nat) (h:i<k):vw t (l.take k) i j=vw t l i j:=by
 unfold vw jk
 simp [List.getD,List.getElem?_take,h]
theorem Sw (t:Ty) (l k:List (El t)) (i j:Nat) (h:i<l.length):vw t (l++k) i j=vw t l i j:=by
 unfold vw jk
 simp [List.getD,List.getElem?_append_left h]
theorem Sy (t:Ty) (l k:List (El t)) (i j:Nat):vw t (l++k) (l.length+i) j=vw t k i j:=by
 unfold vw jk
 simp [List.getD,List.getElem?_append_right]
theorem aaM (t:Ty) (l:List (El t)) (k:Nat) (x:El t) (i j:Nat) (h:i<l.length):vw t (l.set k x) i j=if k=i then nth (dB t x) j else vw t l i j:=by
 unfold vw jk
 simp only [List.getD,List.getElem?_set]
 split
 ·subst_vars; simp [h]
 ·rfl
theorem aaN (t:Ty) (n:Nat) (x:El t) (i j:Nat) (h:i<n):vw t (List.replicate n x) i j=nth (dB t x) j:=by
 unfold vw jk
 simp [List.getD,List.getElem?_replicate,h]
theorem aaO (M:Mem) (b:Nat) (B:bT) (hB:vR B=B):dA (iy M) b B=iy (dA M b B):=by
 induction M generalizing b with
 | nil=>rfl
 | cons a l ih=>cases b with
  | zero=>simp [iy,dA,hB]
  | succ b=>simp [iy,dA,ih]
end Go.aT
