/- The law's frame over plain data: arguments of a law as typed values; from a law's contract to its row. -/
import Derived.Test.YtjkhncojgilbaaaGreatDoorEngZb
import Derived.Test.YtjkhncojgilbaaaGreatDoorTrE
namespace Go.aT
open Go Go.RowKit Go.ChangeShapes Go.WideShapes Go.ChangeAt
variable {H:Type} {enc:TypeId×Value->H} {P:Program} {T:aX}
def xA:(t:Ty)->El t->Prop
 | .int k,n=>(Lit.int k n).wf=true
 | .bool,_=>True
 | .str,s=>s.length<=maxLen
 | .pair a b,x=>xA a x.1/\xA b x.2
 | .list e,l=>l.length<=maxLen/\∀ x∈l,xA e x
 | .smap,_=>False
 | .dm _,_=>False
def mK (t:Ty) (c:Nat->AV) (o:Nat):Prop:=∃ x:El t,xA t x/\∀ j,j<aW t->Le (c (o+j)) (nth (dB t x) j)
theorem mK.pair {a b:Ty} {c:Nat->AV} {o:Nat} (h:mK a c o) (k:mK b c (o+aW a)):mK (.pair a b) c o:=by
 obtain ⟨x,hx,h⟩:=h
 obtain ⟨y,hy,k⟩:=k
 refine ⟨(x,y),⟨hx,hy⟩,fun j hj=>?_⟩
 simp only [dB,lS,ny]
 simp only [aW] at hj
 split
 ·exact h j (by assumption)
 ·have:=k (j-aW a) (by omega)
  rwa [Nat.add_assoc,show aW a+(j-aW a)=j from by omega] at this
theorem mK.list {e:Ty} {c:Nat->AV} {o:Nat} {n:Nat} {d:Nat->Nat->AV} (hn:n<=maxLen) (he:c o = .slice (aW e) n false d) (h:∀ i,i<n->mK e (d i) 0):mK (.list e) c o:=by
 have key:∀ n,(∀ i,i<n->mK e (d i) 0)->∃ l:List (El e),l.length=n/\(∀ x∈l,xA e x)/\∀ i,i<n->∀ j,j<aW e->Le (d i j) (vw e l i j):=by
  intro n
  induction n with
  | zero=>intro _; exact ⟨[],rfl,⟨(fun _ hx=>absurd hx List.not_mem_nil),(fun i hi=>absurd hi (Nat.not_lt_zero _))⟩⟩
  | succ n ih =>
   intro h
   obtain ⟨l,h1,h2,h3⟩:=ih fun i hi=>h i (Nat.lt_succ_of_lt hi)
   obtain ⟨x,hx,hc⟩:=h n (Nat.lt_succ_self n)
   refine ⟨l++[x],by simp [h1],fun y hy=>?_,fun i hi j hj=>?_⟩
   ·rcases List.mem_append.1 hy with hy | hy
    ·exact h2 y hy
    ·rw [List.mem_singleton.1 hy]; exact hx
   ·by_cases hin:i<n
    ·rw [Sw _ _ _ _ _ (by omega)]; exact h3 i hin j hj
    ·obtain rfl:i=n:=by omega
     have:=hc j hj
     rw [Nat.zero_add] at this
     have e:vw e (l++[x]) i j=nth (dB e x) j:=by
      have:=Sy e l [x] 0 j
      rw [h1,Nat.add_zero] at this
      rw [this]; rfl
     rw [e]; exact this
 obtain ⟨l,h1,h2,h3⟩:=key n h
 refine ⟨l,⟨by omega,h2⟩,fun j hj=>?_⟩
 simp only [aW] at hj
 obtain rfl:j=0:=by omega
 rw [Nat.add_zero,he]
 exact Le.bF (fun h=>h) rfl h1.symm h3
theorem aiI:∀ (F t:Nat) (u:Ty) (c:Nat->AV) (o:Nat),jm T F t=true->sH T F t=some u->Shape T F t c o->aW u=(ag T t).sz/\mK u c o:=by
 intro F
 induction F with
 | zero=>intro t u c o hg; simp [jm] at hg
 | succ F ih =>
  intro t u c o hg hu hs
  simp only [jm,sH,Shape] at hg hu hs
  split at hg
  ·rename_i k hd
   simp only [hd] at hu hs
   cases hu
   obtain ⟨n,e,hw⟩:=hs
   refine ⟨(Nat.eq_of_beq_eq_true hg).symm,n,hw,fun j hj=>?_⟩
   simp only [aW] at hj; obtain rfl:j=0:=by omega
   rw [Nat.add_zero,e]; exact Le.refl _
  ·rename_i hd
   simp only [hd] at hu hs
   cases hu
   obtain ⟨n,e⟩:=hs
   refine ⟨(Nat.eq_of_beq_eq_true hg).symm,n,trivial,fun j hj=>?_⟩
   simp only [aW] at hj; obtain rfl:j=0:=by omega
   rw [Nat.add_zero,e]; exact Le.refl _
  ·rename_i hd
   simp only [hd] at hu hs
   cases hu
   obtain ⟨n,e,hw⟩:=hs
   refine ⟨(Nat.eq_of_beq_eq_true hg).symm,n,hw,fun j hj=>?_⟩
   simp only [aW] at hj; obtain rfl:j=0:=by omega
   rw [Nat.add_zero,e]; exact Le.refl _
  ·rename_i fs hd
   simp only [Bool.and_eq_true,List.all_eq_true] at hg
   simp only [hd] at hu hs
   have key:∀ (fs:List (Nat×Nat)) (p n:Nat) (u:Ty),qw T fs p n=true->(∀ x∈fs,jm T F x.1=true/\Nat.ble 1 (ag T x.1).sz=true)->xW (sH T F) fs=some u->(∀ x∈fs,Shape T F x.1 c (o+x.2)) ->
     p+aW u=n/\mK u c (o+p):=by
    intro fs
    induction fs with
    | nil=>intro p n u _ _ hu; simp [xW] at hu
    | cons y fs ihf =>
     obtain ⟨t,p'⟩:=y
     intro p n u hc hg hu hs
     simp only [qw,Bool.and_eq_true] at hc
     have e:=Nat.eq_of_beq_eq_true hc.1
     subst e
     have hs0:=hs (t,p) (by simp)
     have hg0:=hg (t,p) (by simp)
     cases fs with
     | nil =>
      simp only [xW] at hu
      obtain ⟨h1,h2⟩:=ih t u c _ hg0.1 hu hs0
      have:=Nat.eq_of_beq_eq_true hc.2
      exact ⟨by omega,h2⟩
     | cons z fs =>
      simp only [xW] at hu
      split at hu
      ·rename_i a b ha hb
       cases hu
       obtain ⟨h1,h2⟩:=ih t a c _ hg0.1 ha hs0
       obtain ⟨h3,h4⟩:=ihf _ _ b hc.2 (fun x hx=>hg x (List.mem_cons_of_mem _ hx)) hb (fun x hx=>hs x (List.mem_cons_of_mem _ hx))
       refine ⟨by simp only [aW]; omega,h2.pair ?_⟩
       rw [h1,Nat.add_assoc]; exact h4
      ·cases hu
   obtain ⟨h1,h2⟩:=key fs 0 _ u hg.1 hg.2 hu hs
   exact ⟨by omega,h2⟩
  ·rename_i n e hd
   simp only [Bool.and_eq_true] at hg
   simp only [hd] at hu hs
   have hsz:=Nat.eq_of_beq_eq_true hg.1.1
   cases n with
   | zero=>cases hu
   | succ n =>
    simp only at hu
    split at hu
    ·rename_i a _ ha
     cases hu
     have key:∀ (n p:Nat),(∀ i,i<n+1->Shape T F e c (p+i*(ag T e).sz))->aW (BC a n)=(n+1)*(ag T e).sz/\mK (BC a n) c p:=by
      intro n
      induction n with
      | zero =>
       intro p hs
       have:=hs 0 (by omega)
       rw [Nat.zero_mul,Nat.add_zero] at this
       obtain ⟨h1,h2⟩:=ih e a c _ hg.1.2 ha this
       exact ⟨by rw [Nat.zero_add,Nat.one_mul]; exact h1,h2⟩
      | succ n ihn =>
       intro p hs
       have h0:=hs 0 (by omega)
       rw [Nat.zero_mul,Nat.add_zero] at h0
       obtain ⟨h1,h2⟩:=ih e a c _ hg.1.2 ha h0
       obtain ⟨h3,h4⟩:=ihn (p+(ag T e).sz) fun i hi=>by
        have:=hs (i+1) (by omega)
        rwa [Nat.add_mul,Nat.one_mul,show p+(i*(ag T e).sz+(ag T e).sz)=p+(ag T e).sz+i*(ag T e).sz from by omega] at this
       refine ⟨?_,mK.pair h2 (by rw [h1]; exact h4)⟩
       simp only [BC,aW]
       rw [h1,h3,Nat.add_mul (n+1) 1,Nat.one_mul,Nat.add_comm]
     obtain ⟨h1,h2⟩:=key n o hs
     exact ⟨by rw [h1,hsz],h2⟩
    ·cases hu
  ·rename_i e hd
   simp only [Bool.and_eq_true] at hg
   simp only [hd] at hu hs
   have hsz:=Nat.eq_of_beq_eq_true hg.1.1
   split at hu
   ·rename_i a ha
    cases hu
    refine ⟨hsz.symm,?_⟩
    rcases hs with hs | ⟨n,d,hn,hs,hd'⟩
    ·refine ⟨([]:List (El a)),⟨Nat.zero_le _,fun x hx=>by cases hx⟩,fun j hj=>?_⟩
     simp only [aW] at hj; obtain rfl:j=0:=by omega
     rw [Nat.add_zero,hs]; exact Le.nil _ _
    ·have hsz':n=0\/aW a=(ag T e).sz:=by
      cases n with
      | zero=>exact .inl rfl
      | succ n=>exact .inr (ih e a _ _ hg.1.2 ha (hd' 0 (by omega))).1
     rcases hsz' with rfl | hsz'
     ·refine ⟨([]:List (El a)),⟨Nat.zero_le _,fun x hx=>by cases hx⟩,fun j hj=>?_⟩
      simp only [aW] at hj; obtain rfl:j=0:=by omega
      rw [Nat.add_zero,hs]
      intro w S m v hr
      cases hr with
      | slice _ b o _ _ cap _ _ f' hs hn hcap hf hc hr=>exact .bF _ _ _ _ _ (.dL _ _ _ _ _ _ hcap (fun e=>by cases e))
      | dL _ a cap _ _ _ hcap hf=>exact .bF _ _ _ _ _ (.dL _ _ _ _ _ _ hcap (fun e=>by cases e))
     ·exact mK.list hn (by rw [hs,hsz']) fun i hi=>(ih e a _ _ hg.1.2 ha (hd' i hi)).2
   ·cases hu
  ·simp at hg
def Jw (T:aX) (F:Nat):List Nat->Option PS
 | []=>some .nil
 | t::ts=>match sH T F t,Jw T F ts with
  | some u,some r=>some (.cons (.val (gp T t) u) r)
  | _,_=>none
def xB:(ps:PS)->eD ps->Prop
 | .val _ t,x=>xA t x
 | .cons a b,x=>xB a x.1/\xB b x.2
 | _,_=>True
theorem aiJ (c:Nat->AV) (n j:Nat) (h:j<n):nth (tab c 0 n) j=c j:=by
 have:=sU c 0 n j h
 rwa [Nat.zero_add] at this
theorem aiK {F t:Nat} {u:Ty} {c:Nat->AV} (hg:jm T F t=true) (hu:sH T F t=some u) (hs:Shape T F t c 0):∃ x:El u,xA u x/\Le (tY T t c) (encS (gp T t) u x):=by
 obtain ⟨hsz,x,hx,hc⟩:=aiI F t u c 0 hg hu hs
 refine ⟨x,hx,?_⟩
 have hc':∀ j,j<aW u->Le (c j) (nth (dB u x) j):=fun j hj=>by have:=hc j hj; rwa [Nat.zero_add] at this
 have agg:Le (.agg (tab c 0 (ag T t).sz)) (encS true u x):=by
  intro w S m v hr
  cases hr with
  | agg _ vs _ hl h1 h =>
   rw [kV] at hl h1 h
   refine .agg _ _ _ (by rw [ny,hsz]; exact hl) (fun i hi=>h1 i (by rw [ny,hsz] at hi; exact hi)) (fun i hi=>?_)
   rw [ny] at hi
   have:=h i (by omega)
   rw [aiJ _ _ _ (by omega)] at this
   exact hc' i hi _ _ _ _ this
 have one:gp T t=false->tY T t c=c 0->Le (tY T t c) (encS (gp T t) u x):=fun h1 h2=>by
  rw [h1,h2]; exact hc' 0 (KJ u)
 unfold tY gp at *
 cases hd:(ag T t).d with
 | struct fs=>simp only [hd] at *; exact agg
 | array n e=>simp only [hd] at *; exact agg
 | _=>simp only [hd] at *; exact one trivial trivial
theorem Yu {F:Nat}:∀ {ts:List Nat} {l:List AV} {ps:PS},(ts.all fun t=>jm T F t)=true->Jw T F ts=some ps->LF T F ts l ->
  ∃ x:eD ps,xB ps x/\au (dX ps x)=au l/\∀ i,i<au l->Le (nth l i) (nth (dX ps x) i)
 | [],[],ps,_,hp,_=>by cases hp; exact ⟨(),trivial,rfl,fun i hi=>by simp [au] at hi⟩
 | t::ts,a::l,ps,hg,hp,hs=>by
  simp only [Jw] at hp
  split at hp
  ·rename_i u r hu hr
   cases hp
   simp only [List.all_cons,Bool.and_eq_true] at hg
   obtain ⟨⟨c,hc,rfl⟩,hs⟩:=hs
   obtain ⟨x,hx,hxe⟩:=aiK hg.1 hu hc
   obtain ⟨y,hy,hl,hye⟩:=Yu hg.2 hr hs
   refine ⟨(x,y),⟨hx,hy⟩,?_,fun i hi=>?_⟩
   ·simp [dX,kY,au,hl]; omega
   ·cases i with
    | zero=>exact hxe
    | succ i=>exact hye i (by simpa [au] using hi)
  ·cases hp
 | [],_::_,_,_,_,h=>h.elim
 | _::_,[],_,_,_,h=>h.elim
theorem PZ (hT:bG P T) (hl:laidOutB P=true) (hn:yY P=true) {g:aA} {f:Func} {code:Code} (hf:P.funcs[g.id]? = some f) (hb:f.body=some code) {s:ChangeSpec} {t:TypeId} (hv:s.vars=[]) (hres:f.resultTypes = #[t]) (hu:P.underlying t=some .bool)
  (hfn:∀ ds:List (DataW H),ds.length=f.params.toList.length->(s.fn H ds).results=[.lit (.bool true)]/\(s.fn H ds).args=ds/\(s.fn H ds).vars=[])
  (hpar:(f.params.toList.all fun t=>P.readableRec t&&Nat.blt t P.types.size)=true) {F:Nat} (hg:(f.params.toList.all fun t=>jm T F t)=true) (hps:Jw T F f.params.toList=some g.ps)
  (law:∀ x,xB g.ps x->iX P g.id (dX g.ps x) (.val (.bool true)))
  {apart fresh handsOn:Bool} {W:World} {b0:Nat} {args:Array Value} {ds gs:List (DataW H)} {before:List MemPlace}
  (hval:∀ (j:Nat) t v,f.params[j]? = some t->args[j]? = some v->Value.okWide P W .any b0 t v) (hW:DataW.Whole enc P f.params.toList s.vars apart W args.toList ds gs before) (hgl:GL W) :
  Calls P g.id args W fun e W'=>∃ v,e = .returned v/\s.post enc P f apart fresh handsOn false W args v W':=by
 obtain ⟨p,q,hA,_⟩:=hW
 obtain ⟨l,k1,k2,k3⟩:=UU hT hg (fun j t v ht hv=>hval j t v (by rw [<- Array.getElem?_toList]; exact ht) (by rw [<- Array.getElem?_toList]; exact hv)) hA
 obtain ⟨x,hx,hxl,hxe⟩:=Yu hg hps k1
 refine (law x hx).bool hf hb (Ls hn hf) hgl (S:=fun b=>b<W.heap.size) (fun _ h=>h) ⟨by rw [<- Array.length_toList,hxl]; exact k2,fun i hi=>?_⟩ (fun W' hbel=>⟨_,rfl,adF hl hv hres hu hfn hpar ⟨p,q,hA,by assumption⟩ hbel⟩)
 rw [hxl] at hi
 have:=k3 i hi
 rw [List.getD_eq_getElem?_getD,Array.getElem?_toList,<- Array.getD_eq_getD_getElem?] at this
 exact hxe i hi _ _ _ _ this
theorem aA.law {g:aA} (hg:g.ok P) {tr:lZ g.rs} (hr:xy g.rs tr = .val (.bool true)) {x:eD g.ps} (h:(g.f x).run=some tr):iX P g.id (dX g.ps x) (.val (.bool true)):=by
 rw [<- hr]; exact hg x tr h
theorem oM {k:Nat} {args:List AV} {e:Nat} {u:Ty} {l:List (El u)} (h:iX P k args (.nY e u l)):iX P k args (.pU e u l) :=
 fun w S vs hG hS hR=>(h w S vs hG hS hR).mono fun _ _ hp=>hp
theorem agK {k:Nat} {args:List AV} {e:Nat} {u:Ty} {l:List (El u)} (h:iX P k args (.nY e u l)):iX P k args (.val (.bF u l false)):=by
 intro w S vs hG hS hR
 refine (h w S vs hG hS hR).mono ?_
 rintro en w' ⟨v,h1,h2,h3⟩
 refine ⟨v,h1,h2,?_⟩
 show Rel _ _ _ _ _
 refine .bF _ _ _ _ _ ?_
 rcases h3 with ⟨⟨a,rfl⟩,hn⟩ | ⟨g,cs,rfl,k1,k2,k3,k4,k5,k6,k7,k8,k9⟩
 ·rw [hn]; exact .dL _ _ _ _ _ _ (Nat.zero_le _) (fun e=>by cases e)
 ·refine .slice _ g.g 0 _ _ g.cap _ _ (fun i j=>cs.getD (i*aW u+j) Go.undef) (.inr ⟨k1,k2⟩) k5 k6 (fun e=>by cases e) (fun i hi j hj=>⟨?_,(k9 i hi j hj).1⟩) (fun i hi j hj=>(k9 i hi j hj).2.mono (fun _ h=>h.1) (fun _ _=>rfl) _ (fun _ _ h=>h))
  rw [Nat.zero_add]
  have hlt:i*aW u+j<cs.size:=by
   rw [k8]
   have:(i+1)*aW u<=g.cap*aW u:=Nat.mul_le_mul_right _ (by omega)
   rw [Nat.add_mul] at this
   omega
  simp only [World.cell?,k7]
  rw [Array.getD_eq_getD_getElem?,Array.getElem?_eq_getElem hlt]
  rfl
end Go.aT
