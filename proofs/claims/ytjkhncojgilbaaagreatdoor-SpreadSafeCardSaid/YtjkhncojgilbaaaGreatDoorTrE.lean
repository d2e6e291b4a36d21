/- Contracts out of trees: the evaluator is sound; loops; functions. -/
import Derived.Test.YtjkhncojgilbaaaGreatDoorTrD
import Derived.LoopN
namespace Go.aT
open Go Go.RowKit
variable {P:Program} {T:aX}
def lG (Q:Exit->AS->Prop) (r:Exit×AS):Prop:=Q r.1 r.2
theorem bL.aiw {c:Code} {Q:Exit->AS->Prop} {A:AS} (h:bL P c (fun e A'=>(∀ l,e≠.goto l)/\Q e A') A):bL P (.scope c) Q A:=by
 refine ⟨fun base w S m a hM hA=>wp_scope_straight (Code.wp_mono ?_ (h.jI base w S m a hM hA))⟩
 rintro e a' w' ⟨A',S',m',⟨h1,h2⟩,h3⟩
 cases e with
 | goto l=>exact absurd rfl (h1 l)
 | _=>exact ⟨A',S',m',h2,h3⟩
def aix (P:Program) (o:bW) (d:Code):Prop:=∀ A t (Q:Exit->AS->Prop),o.lp (mJ d) A=some t->t.wp (lG Q)->bL P (Ep d) Q A
def j6 (P:Program) (o:bW):List Code->Prop
 | []=>True
 | d::l=>aix P o d/\j6 P o l
theorem j6.cat {o:bW}:∀ {k l:List Code},j6 P o (Jm k l)->j6 P o k/\j6 P o l
 | [],_,h=>⟨trivial,h⟩
 | _::_,_,h=>let ⟨h1,h2⟩:=j6.cat h.2; ⟨⟨h.1,h1⟩,h2⟩
theorem Yn {c:Code} {Q:Exit->AS->Prop} {f:AS->Tree (Exit×AS)} {A:AS} {i:Nat} {k:IntKind} {x:Int} (hi:nth A.ts i = .int k x) (hf:∀ A,(f A).wp (lG Q)->bL P c Q A):∀ (n j:Nat),(Jl i k x f A n j).wp (lG Q)->bL P c Q A
 | 0,j,h=>h.elim
 | n+1,j,h=>by
  simp only [Jl,Tree.wp] at h
  by_cases e:x=(j:Int)
  ·rw [show ae.eq x (j:Int)=true from decide_eq_true e] at h
   have:=hf _ h
   rwa [show put A.ts i (.int k (j:Int))=A.ts from by rw [<- e,<- hi,adA]] at this
  ·rw [show ae.eq x (j:Int)=false from decide_eq_false e] at h
   exact Yn hi hf n (j+1) h
theorem QP {c:Code} {Q:Exit->AS->Prop} {f:AS->Tree (Exit×AS)}:∀ (l:List Pre) (A:AS),(A9 f l A).wp (lG Q)->(∀ A,(f A).wp (lG Q)->bL P c Q A)->bL P c Q A
 | [],A,h,hf=>hf A h
 | p::l,A,h,hf=>by
  have main:(A9 f l (rA p A)).wp (lG Q)->bL P c Q A:=fun h=>bL.Yk (UO p A) (QP l _ h hf)
  cases p with
  | GD i n =>
   simp only [A9] at h
   split at h
   ·rename_i k x hi
    exact Yn hi (fun A h=>QP l A h hf) _ _ h
   ·exact h.elim
  | own i e u=>exact main h
  | gP b=>exact main h
  | tT b j e u=>exact main h
  | arr b u=>exact main h
  | two=>exact main h
  | GG n=>exact main h
  | Gz k b=>exact main h
  | wE b=>exact main h
  | qp b j=>exact main h
  | zf n=>exact main h
theorem Yo {c:Code} {f:AS->Tree (Exit×AS)} (hf:∀ (A:AS) (Q:Exit->AS->Prop),(f A).wp (lG Q)->bL P c Q A) {Q:Exit->AS->Prop} {base:Env} {w0:World} {S0:Nat->Prop}:∀ (n:Nat) (A:AS),(Er f n A).wp (lG Q) ->
  ∀ (w:World) (S:Nat->Prop) (m:aY) (a:Act),bX base.Z w0 w->(∀ b,S0 b->S b)->(∀ b,S b->S0 b\/¬ base.Z b)->MA base w S m A->iP base.old w S m a A.ts->Code.rounds P c (mq base w0 S0 Q) n a w
 | 0,_,h=>h.elim
 | n+1,A,h=>by
  intro w S m a hP hS hU hM hA
  have h:=Tree.wp_bind.1 h
  rw [rounds_succ]
  refine Code.wp_mono ?_ ((hf A (fun e A'=>match e with | .normal=>(Er f n A').wp (lG Q) | e=>Q e A') (Tree.wp_mono h ?_)).jI base w S m a hM hA)
  ·rintro e a' w' ⟨A',S',m',h1,h2,h3,h4,h5,h6⟩
   cases e with
   | normal=>exact Yo hf n A' h1 w' S' m' a' (hP.trans h2) (fun b h=>h3 b (hS b h)) (fun b h=>(h4 b h).elim (hU b) .inr) h5 h6
   | _=>exact mq.step hP hS hU ⟨A',S',m',h1,h2,h3,h4,h5,h6⟩
  ·rintro ⟨e,A'⟩ h
   cases e with
   | normal=>exact h
   | _=>exact h
theorem aiy {c:Code} {f:AS->Tree (Exit×AS)} (hf:∀ (A:AS) (Q:Exit->AS->Prop),(f A).wp (lG Q)->bL P c Q A) (n:Nat) (A:AS) (Q:Exit->AS->Prop) (h:(Er f n A).wp (lG Q)):bL P (.loop c) Q A :=
 ⟨fun base w S m a hM hA=>wp_loop_rounds n (Yo hf n A h w S m a (bX.refl _ _) (fun _ h=>h) (fun _ h=>.inl h) hM hA)⟩
theorem QQ (hm:P.follows .mixedOrders=true) (hT:bG P T) {o:bW} (ho:lD P o):∀ (c:Code),j6 P o (aK c)->∀ (A:AS) (Q:Exit->AS->Prop),(jC ae T o c A).wp (lG Q)->bL P c Q A:=by
 intro c
 induction c with
 | skip=>intro _ A Q h; exact .skip h
 | label l=>intro _ A Q h; exact .label h
 | exit id=>intro _ A Q h; exact .exit h
 | ret=>intro _ A Q h; exact .ret h
 | region id ops d =>
  intro _ A Q h
  simp only [jC] at h
  refine QP (o.fz id) A h fun A h=>?_
  cases d with
  | false =>
   simp only [Qu] at h
   split at h
   ·obtain ⟨s',hs,h⟩:=Tree.oQ (ah5 _ _ _ _ _ _) (Tree.wp_bind.1 h)
    exact bL.ais hT ho hs h
   obtain ⟨s',hs,h⟩:=Tree.oQ (ah4 _ _ _ _ _ _) (Tree.wp_bind.1 h)
   obtain ⟨h1,h2⟩:=aif rfl hs
   obtain ⟨K,k1,k2⟩:=h2 [] trivial
   exact bL.region hT ho.old k2 k1 h
  | true =>
   simp only [Qu] at h
   split at h
   case h_2 =>
    split at h
    ·exact bL.Yi hm hT ho (Tree.wp_bind.1 h)
    ·exact bL.Yh hm hT ho (Tree.wp_bind.1 h)
   split at h
   ·split at h
    ·exact bL.Yh hm hT ho (Tree.wp_bind.1 h)
    ·exact bL.Yi hm hT ho (Tree.wp_bind.1 h)
   split at h
   case h_2=>exact h.elim
   rename_i hd
   obtain ⟨s',hs,h⟩:=Tree.oQ (XU _ _ _ _ _ _) (Tree.wp_bind.1 h)
   obtain ⟨h1,h2⟩:=Yc rfl hs
   obtain ⟨K,k1,k2⟩:=h2 [] trivial
   exact bL.ac7 hm hT ho.old hd k2 k1 h
 | seq x y ihx ihy =>
  intro hl A Q h
  obtain ⟨hl1,hl2⟩:=j6.cat hl
  refine bL.seq (ihx hl1 _ _ (Tree.wp_mono (Tree.wp_bind.1 h) ?_))
  rintro ⟨e,A'⟩ h
  cases e with
  | normal=>exact ihy hl2 _ _ h
  | _=>exact h
 | cond c x y ihx ihy =>
  intro hl A Q h
  obtain ⟨hl1,hl2⟩:=j6.cat hl
  simp only [jC] at h
  split at h
  ·rename_i b hb
   refine bL.cond hb (fun e=>?_) (fun e=>?_)
   ·subst e; exact ihx hl1 _ _ h
   ·subst e; exact ihy hl2 _ _ h
  ·rename_i n hb
   refine bL.acF hb (fun e=>?_) ?_
   ·subst e; exact ihx hl1 _ _ h.1
   ·cases n with
    | zero=>exact ihy hl2 _ _ h.2
    | succ n=>exact ihy hl2 _ _ h
  ·exact h.elim
 | block id c ih =>
  intro hl A Q h
  refine bL.block (ih hl _ _ (Tree.wp_mono (Tree.wp_bind.1 h) ?_))
  rintro ⟨e,A'⟩ h
  cases e with
  | exit i =>
   show if i=id then _ else _
   simp only at h
   split at h
   ·rename_i hi
    rw [if_pos (Nat.eq_of_beq_eq_true hi)]
    exact h
   ·rename_i hi
    rw [if_neg (fun e=>by rw [e,Nat.beq_refl] at hi; cases hi)]
    exact h
  | _=>exact h
 | loop c ih =>
  intro hl A Q h
  simp only [jC] at h
  split at h
  ·exact h.elim
  ·rename_i hr
   split at h
   ·rename_i n hn
    split at h
    ·rename_i hlo
     exact aiy (fun A Q h=>ih (by rw [hlo]; trivial) A Q h) n A Q h
    ·exact h.elim
   split at h
   ·rename_i t ht
    have:=hl.1 _ _ _ ht h
    unfold Ep at this
    rw [hr] at this
    exact this
   ·exact h.elim
 | scope c ih =>
  intro hl A Q h
  refine bL.aiw (ih hl _ _ (Tree.wp_mono (Tree.wp_bind.1 h) ?_))
  rintro ⟨e,A'⟩ h
  cases e with
  | goto l=>exact h.elim
  | _=>exact ⟨(fun l e=>by cases e),h⟩
 | goto l=>intro _ A Q h; exact h.elim
 | refuse s=>intro _ A Q h; exact h.elim
 | rangeFunc f ps a b =>
  intro hl A Q h
  simp only [jC] at h
  split at h
  ·rename_i t ht; exact hl.1 _ _ _ ht h
  ·exact h.elim
def aA.ok (P:Program) (g:aA):Prop:=∀ x y,(g.f x).run=some y->iX P g.id (dX g.ps x) (xy g.rs y)
def Ju (P:Program):List aA->Prop
 | []=>True
 | g::l=>g.ok P/\Ju P l
theorem aiz {f:Nat} {args args':List AV} {r:CR} (h:iX P f args' r) (hl:gQ args args'):iX P f args r :=
 fun w S vs hgl hsb hr=>h w S vs hgl hsb ⟨hr.1.trans hl.1,fun i hi=>hl.2 i _ _ _ _ (hr.2 i (by rw [hl.1]; exact hi))⟩
theorem Yp:∀ {l:List aA},Ju P l->∀ id args c a,Bb l id args=some c->c.t.run=some a->iX P id args (c.r a):=by
 intro l
 induction l with
 | nil=>intro _ id args c a h; cases h
 | cons g l ih =>
  intro hl id args c a h ha
  simp only [Bb] at h
  split at h
  ·rename_i hid
   split at h
   ·rename_i x hx
    cases h
    have:=Nat.eq_of_beq_eq_true hid
    subst this
    exact aiz (hl.1 x a ha) (Bg hx)
   ·exact ih hl.2 _ _ _ _ h ha
  ·exact ih hl.2 _ _ _ _ h ha
theorem Yq {A:AS} {vars:List ResultVar} {rs:RS} {y:lZ rs} (hk:aG (mr T A vars)) (h:(qG T A vars rs).run=some y):wh T vars A (xy rs y):=by
 cases rs with
 | kJ e u=>cases h
 | fresh e u =>
  simp only [qG] at h
  split at h
  case h_2=>cases h
  rename_i v
  split at h
  ·rename_i hv; cases h; exact ⟨hk,.inl ⟨rfl,v,rfl,.inl hv⟩⟩
  ·rename_i hv; cases h; exact ⟨hk,.inl ⟨rfl,v,rfl,.inr hv⟩⟩
  ·rename_i b hv
   split at h
   ·rename_i e' u' l hb
    split at h
    ·rename_i l' he hc
     have he:=Nat.eq_of_beq_eq_true he
     obtain ⟨e1,rfl⟩:=jU hc
     subst e1 he
     cases h
     exact ⟨hk,.inr (.inl ⟨v,b,rfl,hv,hb⟩)⟩
    ·cases h
   ·cases h
  ·rename_i b n hv
   split at h
   ·rename_i e' u' l hb
    split at h
    ·rename_i l' he hc
     have he:=Nat.eq_of_beq_eq_true he
     obtain ⟨e1,rfl⟩:=jU hc
     subst e1 he
     cases h
     exact ⟨hk,.inr (.inr ⟨v,b,n,l,rfl,hv,hb,rfl⟩)⟩
    ·cases h
   ·cases h
  ·cases h
 | one p =>
  simp only [qG] at h
  split at h
  case h_2=>cases h
  rename_i v
  split at h
  ·rename_i x hx
   cases h
   exact ⟨hk,(Bg hx).2 0⟩
  ·cases h
 | vals p =>
  have other:∀ {p:PS} {y:eD p},(∀ g t,p≠.val g t)->(match vars with
    | [_]=>(Tree.fail:Tree (eD p))
    | vars=>match gY p (oF T A vars) with
     | some (x,[])=>.ret x
     | _=>.fail).run=some y->wh T vars A (.val (.bN (dX p y))):=by
   intro p y _ h
   split at h
   ·cases h
   ·rename_i hne
    split at h
    ·rename_i x hx
     cases h
     obtain ⟨q1,q2⟩:=Bg hx
     refine ⟨hk,?_⟩
     have:TL T A vars = .bN (oF T A vars):=by
      match vars,hne with
      | [],_=>rfl
      | [r],hne=>exact absurd rfl (hne r)
      | _::_::_,_=>rfl
     rw [this]
     exact Le.bN q1 fun i _=>q2 i
    ·cases h
  cases p with
  | val g t =>
   simp only [qG] at h
   split at h
   ·rename_i v
    split at h
    ·rename_i x hx; cases h; exact ⟨hk,QO hx⟩
    ·cases h
   ·cases h
  | _=>exact other (fun _ _ e=>by cases e) h
theorem Yr (A:AS) (vars:List ResultVar) (rs:RS):(qG T A vars rs).pl:=by
 cases rs with
 | kJ e u=>trivial
 | fresh e u =>
  simp only [qG]
  repeat' split
  all_goals trivial
 | one p =>
  simp only [qG]
  repeat' split
  all_goals trivial
 | vals p =>
  cases p <;> (simp only [qG]; repeat' split) <;> trivial
theorem aiA (vars:List ResultVar) (rs:RS) (r:Exit×AS):(Jn T vars rs r).pl:=by
 unfold Jn
 split
 ·exact Jg (Yr _ _ _)
 ·exact Jg (Yr _ _ _)
 ·trivial
theorem aiB {vars:List ResultVar} {rs:RS} {e:Exit} {A:AS} {y:lZ rs} (h:(Jn T vars rs (e,A)).run=some y):TM T vars (xy rs y) e A:=by
 cases e with
 | ret=>obtain ⟨h1,h2⟩:=AU h; exact Yq h1 h2
 | normal=>obtain ⟨h1,h2⟩:=AU h; exact Yq h1 h2
 | _=>cases h
theorem aA.lift (hm:P.follows .mixedOrders=true) (hT:bG P T) (hn:yY P=true) (g:aA) {fn:Func} {c:Code} (hf:P.funcs[g.id]? = some fn) (hb:fn.body=some c) {o:bW} (ho:lD P o) (hl:j6 P o (aK c))
  (heq:∀ x,evF T o c fn.ntmps fn.results.toList g.ps g.rs x=g.f x):g.ok P:=by
 intro x y hy
 rw [<- heq] at hy
 have hy:=Tree.wp_bind.1 (Tree.Qk hy)
 refine iX.of hT hf hb (Ls hn hf) fun _=>QQ hm hT ho c hl _ _ (Tree.wp_mono hy ?_)
 rintro ⟨e,A⟩ h
 obtain ⟨y',h1,rfl⟩:=Tree.oQ (aiA _ _ _) h
 exact aiB h1
inductive Eu {σ α:Type} (f:σ->Option (σ⊕α)):Nat->σ->α->Prop where
 |more {n:Nat} {s s':σ} {a:α} (h:f s=some (.inl s')) (r:Eu f n s' a):Eu f (n+1) s a
 |done {n:Nat} {s:σ} {a:α} (h:f s=some (.inr a)):Eu f n s a
theorem mU.depth {σ α:Type} {f:σ->Option (σ⊕α)} {s:σ} {a:α} (h:mU f s a):∃ n,Eu f n s a:=by
 induction h with
 | more h _ ih=>obtain ⟨n,hn⟩:=ih; exact ⟨n+1,.more h hn⟩
 | done h=>exact ⟨0,.done h⟩
def Lp.ok (P:Program) (g:Lp) (c:Code):Prop:=∀ z (Q:Exit->AS->Prop),((g.f z).bind (xz g.np g.xs)).wp (lG Q)->bL P (Ep c) Q (qH g.p g.q g.np z)
def Ev (P:Program) (c:Code):List Lp->Prop
 | []=>True
 | g::l=>(Nat.beq g.key (mJ c)=true->g.ok P c)/\Ev P c l
theorem aiC {c:Code}:∀ {l:List Lp},Ev P c l->∀ A t (Q:Exit->AS->Prop),Bd l (mJ c) A=some t->t.wp (lG Q)->bL P (Ep c) Q A:=by
 intro l
 induction l with
 | nil=>intro _ A t Q h; cases h
 | cons g l ih =>
  intro hl A t Q h ht
  simp only [Bd] at h
  split at h
  ·rename_i hk
   split at h
   ·rename_i z hz
    cases h
    exact bL.Yk ((wF g.pre A).trans (Jt hz)) (hl.1 hk z Q ht)
   ·exact ih hl.2 _ _ _ h ht
  ·exact ih hl.2 _ _ _ h ht
theorem aiD {np:Nat} {xs:XS} {y:oV xs} {e:Exit} {A:AS} (Q:Exit->AS->Prop) (h:(xz np xs y).wp (lG Q)) (hA:(xz np xs y).run=some (e,A)):Q e A:=by
 induction xs with
 | one x pre p q=>cases hA; exact h
 | norm p q=>cases hA; exact h
 | more x pre p q r ih=>cases y with
  | inl z=>cases hA; exact h
  | inr z=>exact ih h hA
theorem aiE (np:Nat) (xs:XS) (y:oV xs):∃ r,(xz np xs y).run=some r:=by
 induction xs with
 | one x pre p q=>exact ⟨_,rfl⟩
 | norm p q=>exact ⟨_,rfl⟩
 | more x pre p q r ih=>cases y with
  | inl z=>exact ⟨_,rfl⟩
  | inr z=>exact ih z
theorem Lp.lift (hm:P.follows .mixedOrders=true) (hT:bG P T) (g:Lp) {c:Code} {o:bW} (ho:lD P o) (hl:j6 P o (aK c)) {π V ρ:Type} (emb:π->V->jf g.p g.q) (embX:π->ρ->oV g.xs) (step:π->V->Tree (V⊕ρ)) (kX:π->ρ->Tree (oV g.xs))
  (px:jf g.p g.q->π) (vx:jf g.p g.q->V) (hz:∀ z,emb (px z) (vx z)=z) (hf:∀ z,g.f z = .bnd (.loop (step (px z)) (vx z)) (kX (px z))) (hk:∀ x r (Q:oV g.xs->Prop),(kX x r).wp Q->Q (embX x r))
  (heq:∀ x v,(jC ae T o c (qH g.p g.q g.np (emb x v))).bind (endRound g.X6 g.p g.q g.np g.xs)=(step x v).bind fun s=>match s with
   | .inl v'=>.ret (.inl (emb x v'))
   | .inr r=>.ret (.inr (embX x r))) (hr:Qv c=false:=by kernel_rfl):g.ok P c:=by
 intro z Q hw
 rw [hf] at hw
 obtain ⟨r,hr,hw⟩:=hw
 have hw:=hk _ _ _ (Tree.wp_bind.1 hw)
 obtain ⟨⟨e,A'⟩,hA⟩:=aiE g.np g.xs (embX (px z) r)
 have hq:=aiD Q hw hA
 obtain ⟨n,hd⟩:=(qM.1 hr).depth
 have hz':=hz z
 clear hw hr hf
 generalize px z=x at *
 rw [<- hz']
 generalize vx z=v at *
 unfold Ep
 rw [hr]
 refine bL.loop (fun n A=>∃ v,A=qH g.p g.q g.np (emb x v)/\Eu (fun s=>(step x s).run) n v r) n ⟨v,rfl,hd⟩ ?_
 rintro n _ ⟨v,rfl,hd⟩
 have hs:∃ s,(step x v).run=some s:=by cases hd with | more h _=>exact ⟨_,h⟩ | done h=>exact ⟨_,h⟩
 obtain ⟨s,hs⟩:=hs
 have hround:((jC ae T o c (qH g.p g.q g.np (emb x v))).bind (endRound g.X6 g.p g.q g.np g.xs)).wp (fun y=>y=match s with
   | .inl v'=>.inl (emb x v')
   | .inr r=>.inr (embX x r)):=by
  rw [heq]
  refine Tree.wp_bind.2 (Tree.wp_mono (Tree.Qk hs) ?_)
  rintro s' rfl
  cases s' <;> rfl
 refine bL.Yl (QQ hm hT ho c hl _ _ (Tree.wp_mono (Tree.wp_bind.1 hround) ?_))
 rintro ⟨e',A''⟩ hround
 cases e' with
 | normal =>
  simp only [endRound] at hround
  split at hround
  ·rename_i z' hz'
   cases s with
   | inl v' =>
    injection hround with hround
    subst hround
    cases hd with
    | more h hd' =>
     rw [hs] at h
     injection h with h; injection h with h; subst h
     exact ⟨_,(wF _ _).trans (Jt hz'),_,Nat.lt_succ_self _,_,rfl,hd'⟩
    | done h=>rw [hs] at h; injection h with h; cases h
   | inr r'=>cases hround
  ·exact hround.elim
 | _ =>
  simp only [endRound] at hround
  split at hround
  ·rename_i y' hy'
   cases s with
   | inl v'=>cases hround
   | inr r' =>
    injection hround with hround
    cases hd with
    | more h _=>rw [hs] at h; injection h with h; cases h
    | done h =>
     rw [hs] at h
     injection h with h; injection h with h; subst h
     obtain ⟨B,q1,q2⟩:=aiv hy'
     rw [hround,hA] at q1
     injection q1 with q1
     injection q1 with q1 q3
     refine ⟨B,q2,?_⟩
     cases q1; cases q3; exact hq
  ·exact hround.elim
theorem aR {l:List aA} {lps:List Lp} {fz:Nat->List Pre} (h:Ju P l):lD P (aO l lps fz):=⟨Yp h,fun _ _ _ _ _ e=>by cases e⟩
def ak (fn:Func):Code:=match fn.body with | some c=>c | none=>.skip
def aP:List Code->Nat->Code
 | [],_=>.skip
 | a::_,0=>a
 | _::l,n+1=>aP l n
def nM (k:Nat):List Lp->Bool
 | []=>true
 | g::l=>match Nat.beq g.key k with | true=>false | false=>nM k l
def Ew:List Lp->List Code->Bool
 | [],[]=>true
 | g::l,d::ds=>match Nat.beq g.key (mJ d),nM g.key l with | true,true=>Ew l ds | _,_=>false
 | _,_=>false
def Jv (P:Program):List Lp->List Code->Prop
 | g::l,d::ds=>g.ok P d/\Jv P l ds
 | _,_=>True
theorem Yt {c:Code} {k:Nat} (hk:k=mJ c):∀ {l:List Lp},nM k l=true->Ev P c l
 | [],_=>trivial
 | g::l,h=>by
  simp only [nM] at h
  split at h
  ·cases h
  ·rename_i hne
   exact ⟨(fun e=>by rw [<- hk,hne] at e; cases e),Yt hk h⟩
theorem aiF {k:Nat} {g':Lp}:∀ {l:List Lp},nM k l=true->g'∈l->Nat.beq k g'.key=false:=by
 intro l
 induction l with
 | nil=>intro _ h; cases h
 | cons y l ih =>
  intro h hg
  simp only [nM] at h
  split at h
  ·cases h
  ·rename_i hny
   rcases List.mem_cons.1 hg with e | hg
   ·subst e
    cases hb:Nat.beq k g'.key with
    | false=>rfl
    | true=>rw [Nat.eq_of_beq_eq_true hb,Nat.beq_refl] at hny; cases hny
   ·exact ih h hg
theorem aiG {k:Nat} {g:Lp}:∀ {l:List Lp},nM k l=true->Nat.beq g.key k=false->nM k (l++[g])=true:=by
 intro l
 induction l with
 | nil=>intro _ h; simp only [List.nil_append,nM,h]
 | cons y l ih =>
  intro h hg
  simp only [List.cons_append,nM] at h ⊢
  split at h
  ·cases h
  ·exact ih h hg
theorem aiH {sg:List aA} {fz:Nat->List Pre}:∀ (pre lps:List Lp) (ds:List Code),(∀ g∈lps,nM g.key pre=true)->Jv P lps ds->Ew lps ds=true->j6 P (aO sg (pre++lps) fz) ds:=by
 intro pre lps
 induction lps generalizing pre with
 | nil=>intro ds _ _ hk; cases ds with
  | nil=>trivial
  | cons=>cases hk
 | cons g l ih =>
  intro ds hpre h hk
  cases ds with
  | nil=>cases hk
  | cons d ds =>
   simp only [Ew] at hk
   split at hk
   case h_2=>cases hk
   rename_i h1 h2
   have hkey:=Nat.eq_of_beq_eq_true h1
   refine ⟨?_,?_⟩
   ·have hall:Ev P d (pre++g::l):=by
     have hp:=hpre g (by simp)
     have hl:Ev P d (g::l):=⟨fun _=>h.1,Yt hkey h2⟩
     clear ih hpre
     induction pre with
     | nil=>exact hl
     | cons x pre ihp =>
      simp only [nM] at hp
      split at hp
      ·cases hp
      ·rename_i hne
       exact ⟨(fun e=>by rw [<- hkey,hne] at e; cases e),ihp hp⟩
    exact aiC hall
   ·have e:pre++g::l=(pre++[g])++l:=by simp
    rw [e]
    refine ih (pre++[g]) ds (fun g' hg'=>?_) h.2 hk
    have h3:=hpre g' (by simp [hg'])
    have hne:Nat.beq g.key g'.key=false:=aiF h2 hg'
    exact aiG h3 hne
theorem aQ {sg:List aA} {fz:Nat->List Pre} {lps:List Lp} {c:Code} (ds:List Code) (hd:aK c=ds) (h:Jv P lps ds) (hk:Ew lps ds=true):j6 P (aO sg lps fz) (aK c):=by
 rw [hd]; exact aiH [] lps ds (fun _ _=>rfl) h hk
end Go.aT
