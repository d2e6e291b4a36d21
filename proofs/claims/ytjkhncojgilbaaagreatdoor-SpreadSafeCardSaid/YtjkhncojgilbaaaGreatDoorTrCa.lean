/- Regions that draw their order, and write. -/
import Derived.Test.YtjkhncojgilbaaaGreatDoorTrC
namespace Go.aT
open Go Go.RowKit
variable {P:Program} {T:aX} {base:Env} {w:World} {S:Nat->Prop} {m:aY}
theorem Et {o:bW} {all:List Oper} {s s':St} {op:Oper} (hs:s.ks=[]) (h:(stepT ae T o all s op).run=some s') :
  s'.ks=[]/\aG (eH ae T o.old all s op).ks/\(eH ae T o.old all s op).ts=s'.ts/\(eH ae T o.old all s op).m=s'.m/\(eH ae T o.old all s op).tg=s'.tg:=by
 obtain ⟨C,v,m1,ks,inv,q1,q2,q3⟩:=Ya hs h
 obtain ⟨ts,m,tg,k⟩:=s
 simp only at hs; subst hs
 rw [Jq,q1]
 subst q3
 exact ⟨rfl,q2,rfl,rfl,rfl⟩
theorem uC {a:Act} {s s':St} (h:dQ base.old w S m a s) (e1:s.ts=s'.ts) (e2:s.tg=s'.tg):dQ base.old w S m a s':=by
 obtain ⟨ts,M,tg,ks⟩:=s
 obtain ⟨ts',M',tg',ks'⟩:=s'
 simp only at e1 e2; subst e1 e2
 exact ⟨h.size,h.defers,h.rel,h.skip⟩
theorem Yd {f:Nat->Tree St} {Q:St->Prop}:∀ {l:List Nat},(Qq f l).wp Q->∀ i∈l,(f i).wp Q
 | [],_,i,hi=>by cases hi
 | [j],h,i,hi=>by rw [List.mem_singleton.1 hi]; exact h
 | j::k::l,h,i,hi=>by
  rcases List.mem_cons.1 hi with e | hi
  ·subst e; exact h.1
  ·exact Yd h.2 i hi
theorem Js {tg:fM}:∀ {l:List Operand},gq tg [] l=true->∀ t,Operand.tmp t∈l->bU tg t=[]
 | [],_,t,h=>by cases h
 | x::l,h,t,ht=>by
  cases x with
  | tmp u =>
   simp only [gq] at h
   split at h
   ·rename_i hp
    rcases List.mem_cons.1 ht with e | ht
    ·injection e with e; subst e
     cases hC:bU tg t with
     | nil=>rfl
     | cons y C=>rw [hC] at hp; simp [qU] at hp
    ·exact Js h t ht
   ·cases h
  | _ =>
   simp only [gq] at h
   rcases List.mem_cons.1 ht with e | ht
   ·cases e
   ·exact Js h t ht
theorem aik {o:bW} {ops:Array Oper} {s:St} {op:Oper} {g:Bool} {d:Nat} {b:Bool} (h:Qr ae o ops s op=some (g,d,b)) :
  ∃ j,op.guard=some (j,b)/\(ops[j]?).bind (·.dst)=some d/\bU s.tg d=[]/\mh ae s.ts d b=some g/\∃ c,op.op = .call c:=by
 unfold Qr at h
 split at h
 case h_2=>cases h
 rename_i hop
 split at h
 case h_2=>cases h
 rename_i j b' hg
 split at h
 case h_2=>cases h
 split at h
 case h_2=>cases h
 split at h
 case h_2=>cases h
 rename_i d' op' ty pos af gu hd
 split at h
 case h_2=>cases h
 rename_i g' ht hl
 cases h
 rw [Co,Array.getElem?_toList] at hd
 exact ⟨j,hg,by rw [hd]; rfl,ht,hl,_,hop⟩
theorem ail {v:Value} {ts:List AV} {d:Nat} {b:Bool} (h:Rel w S m v (nth ts d)) (hl:mh ae ts d b=some true):v = .bool b:=by
 unfold mh at hl
 split at hl
 ·rename_i x hx; rw [hx] at h; cases h; cases hl; rfl
 ·rename_i x hx; rw [hx] at h; cases h; injection hl with hl; simp [ae] at hl; rw [hl]
 ·cases hl
theorem Ye {v:Value} {ts:List AV} {d:Nat} {b:Bool} (h:Rel w S m v (nth ts d)) (hl:mh ae ts d b=some false):v≠.bool b:=by
 unfold mh at hl
 split at hl
 ·rename_i x hx; rw [hx] at h; cases h; cases hl; simp
 ·rename_i x hx; rw [hx] at h; cases h; injection hl with hl; simp [ae] at hl; rw [hl]; simp
 ·cases hl
theorem Yf (d:Nat) (b:Bool) (tg:fM) (t:Nat):bU (iE d b tg) t=bU tg t\/(bU (iE d b tg) t=[]/\bU tg t=[(d,b)]):=by
 induction tg with
 | nil=>exact .inl rfl
 | cons x l ih =>
  have same:∀ c,iE d b ((x.1,c)::l)=(x.1,c)::iE d b l->bU (iE d b ((x.1,c)::l)) t=bU ((x.1,c)::l) t\/(bU (iE d b ((x.1,c)::l)) t=[]/\bU ((x.1,c)::l) t=[(d,b)]):=fun c e=>by
   rw [e]; simp only [bU]; split
   ·exact .inl rfl
   ·exact ih
  have cut:∀ e c,e=d->c=b->iE d b ((x.1,[(e,c)])::l)=(x.1,[])::iE d b l->bU (iE d b ((x.1,[(e,c)])::l)) t=bU ((x.1,[(e,c)])::l) t\/(bU (iE d b ((x.1,[(e,c)])::l)) t=[]/\bU ((x.1,[(e,c)])::l) t=[(d,b)]):=fun e c h1 h2 h=>by
   rw [h]; simp only [bU]; split
   ·exact .inr ⟨rfl,by rw [h1,h2]⟩
   ·exact ih
  obtain ⟨u,C⟩:=x
  match C with
  | []=>exact same [] rfl
  | [(e,c)] =>
   cases hb:Nat.beq e d with
   | false=>exact same _ (by simp only [iE,hb])
   | true =>
    have he:=Nat.eq_of_beq_eq_true hb
    cases c <;> cases b
    ·exact cut e _ he rfl (by simp only [iE,hb])
    ·exact same _ (by simp only [iE,hb])
    ·exact same _ (by simp only [iE,hb])
    ·exact cut e _ he rfl (by simp only [iE,hb])
  | y::z::C=>exact same _ rfl
theorem aim {a:Act} {s:St} {d:Nat} {b:Bool} (h:dQ base.old w S m a s) (hd:a.tmps.getD d Go.undef = .bool b):dQ base.old w S m a (Eo d b s):=by
 have key:∀ t,holds a (bU (iE d b s.tg) t)->holds a (bU s.tg t):=fun t ht=>by
  rcases Yf d b s.tg t with e | ⟨_,e⟩
  ·rw [<- e]; exact ht
  ·rw [e]; intro u c hm; rw [List.mem_singleton] at hm; cases hm; exact hd
 refine ⟨h.size,h.defers,fun t ht=>h.rel t (key t ht),fun t=>?_⟩
 rcases h.skip t with e | e
 ·refine .inl ?_
  rcases Yf d b s.tg t with e' | ⟨e',_⟩
  ·show holds a (bU (iE d b s.tg) t); rw [e']; exact e
  ·show holds a (bU (iE d b s.tg) t); rw [e']; intro _ _ hm; cases hm
 ·exact .inr e
theorem ain {ops:Array Oper} {op:Oper} {i j d:Nat} {b:Bool} {a:Act} {K:Act->World->Prop} {Q:Exit->Act->World->Prop} (hop:ops[i]? = some op) (e1:op.guard=some (j,b)) (e2:(ops[j]?).bind (·.dst)=some d) (hne:a.tmps.getD d Go.undef≠.bool b)
  (hK:K (a.put op.dst Go.undef) w):wpOp P ops Q i K a w:=by
 have hw:Region.wanted op (yielded ops a.tmps)=false:=by
  unfold Region.wanted
  rw [e1]
  have hy:=K8 ops a j d b e2
  simp only [decide_eq_false_iff_not,beq_eq_false_iff_ne]
  simpa using fun h=>hne (hy.1 h)
 unfold wpOp
 simp only [hop]
 rw [if_neg (by rw [hw]; simp)]
 exact hK
theorem aio (hT:bG P T) {call:dD} (hcall:Sound P call) {ops:Array Oper} {op:Oper} {i j d:Nat} {b:Bool} {a:Act} {s:St} {K:Act->World->Prop} {Q:Exit->Act->World->Prop} (hop:ops[i]? = some op)
  (hM:aV base w S m s.m) (hF:dQ base.old w S m a s) (e1:op.guard=some (j,b)) (e2:(ops[j]?).bind (·.dst)=some d) (e5:∃ c,op.op = .call c) (he:a.tmps.getD d Go.undef = .bool b)
  (hk:aG (eH ae T call ops.toList s { op with guard:=none }).ks) (hK:nA base w S m (eH ae T call ops.toList s { op with guard:=none }) K):wpOp P ops Q i K a w:=by
 have hw:Region.wanted op (yielded ops a.tmps)=true:=by
  unfold Region.wanted
  rw [e1]
  have hy:=K8 ops a j d b e2
  simpa using hy.2 he
 obtain ⟨c,e5⟩:=e5
 have e:eH ae T call ops.toList s { op with guard:=none }=pX ae T call s [] op.dst op.op:=by
  unfold eH BR
  simp only [chainOf,e5]
 rw [e] at hk hK
 have h:=TH (Q:=Q) (K:=K) hT hcall (ops:=ops) (o:={ op with guard:=none }) (C:=[]) hM hF (.inl ⟨rfl,fun _ _ h=>by cases h⟩) hk hK
 unfold nC at h
 rw [if_pos (show Region.wanted { op with guard:=none } (yielded ops a.tmps)=true from rfl)] at h
 unfold wpOp
 simp only [hop]
 rw [if_pos hw]
 exact h
theorem Yg (hT:bG P T) {o:bW} (ho:lD P o) {ops:Array Oper} (hsel:Region.noSelect ops=true) {D:World->Prop} (hD:∀ w w',D w->bX base.Z w w'->D w') {Qs:St->Prop} {Q:Exit->Act->World->Prop} (hQ:∀ c a w,¬ Q (.panic c) a w):∀ (n:Nat) (L:Array Bool) {s:St} {a:Act} {w:World} {S:Nat->Prop} {m:aY},
  s.ks=[]->(rQ ae T o ops n L s).wp Qs->aV base w S m s.m->dQ base.old w S m a s->D w ->
  (∀ s' a' w' S' m',Qs s'->bX base.Z w w'->(∀ b,S b->S' b)->(∀ b,S' b->S b\/¬ base.Z b)->aV base w' S' m' s'.m->dQ base.old w' S' m' a' s'->Q .normal a' w')->wpAnyH P .any ops Q D n L a w:=by
 intro n
 induction n with
 | zero =>
  intro L s a w S m hs h hM hF hd hK
  simp only [rQ] at h
  split at h
  ·rename_i hr
   exact wpAnyH_done hr (hK s a w S m h (bX.refl _ _) (fun _ h=>h) (fun _ h=>.inl h) hM hF) 0
  ·exact h.elim
 | succ n ih =>
  intro L s a w S m hs h hM hF hd hK
  simp only [rQ] at h
  split at h
  ·rename_i hr
   exact wpAnyH_done hr (hK s a w S m h (bX.refl _ _) (fun _ h=>h) (fun _ h=>.inl h) hM hF) _
  ·rename_i hne
   split at h
   ·rename_i i op hqk
    obtain ⟨hop,hqk⟩:=Qp hqk
    obtain ⟨s1,h1,h2⟩:=Tree.oQ (xq _ _ _ _ _ _) (Tree.wp_bind.1 h)
    obtain ⟨r0,r1,r2,r3,r4⟩:=Et hs h1
    unfold quick at hqk
    split at hqk
    case h_2=>cases hqk
    rename_i f1 f2
    split at hqk
    case h_2=>cases hqk
    rename_i f3 f4
    obtain ⟨v,S',m',k1,k2,k3,k4,k5⟩:=pure_ok hT ho.old hop hM hF f1 (Js f2) r1
    rw [r3] at k4
    refine wpAnyH_take hop hsel f4 f3 (fun c a w h=>absurd h (hQ _ _ _)) (k1 D) hd (ih _ r0 h2 k4 (uC k5 r2 r4) hd fun s' a'' w'' S'' m'' hq hb' hS' hU' hM'' hF''=>?_)
    exact hK s' a'' w'' S'' m'' hq hb' (fun b h=>hS' b (k2 b h)) (fun b h=>(hU' b h).elim (k3 b) .inr) hM'' hF''
   refine wpAnyH_all rfl hne fun i hi=>?_
   have h:=Yd h i hi
   unfold XP at h
   split at h
   case h_2=>exact h.elim
   rename_i op hop
   split at h
   ·rename_i g d b hgc
    obtain ⟨j,e1,e2,e3,e4,e5⟩:=aik hgc
    have hrel:Rel w S m (a.tmps.getD d Go.undef) (nth s.ts d):=hF.rel d (by rw [e3]; intro _ _ hm; cases hm)
    cases g with
    | true =>
     have h:((stepT ae T o ops.toList (Eo d b s) { op with guard:=none }).bind fun s'=>rQ ae T o ops n (L.setIfInBounds i true) s').wp Qs:=h
     obtain ⟨s1,h1,h2⟩:=Tree.oQ (xq _ _ _ _ _ _) (Tree.wp_bind.1 h)
     obtain ⟨r0,r1,r2,r3,r4⟩:=Et (s:=Eo d b s) hs h1
     have hon:=ail hrel e4
     refine aio hT ho.old hop (s:=Eo d b s) hM (aim hF hon) e1 e2 e5 hon r1 fun a' w' S' m' hb hS hU hM' hF'=>?_
     rw [r3] at hM'
     refine ⟨hD w w' hd hb,ih _ r0 h2 hM' (uC hF' r2 r4) (hD w w' hd hb) fun s' a'' w'' S'' m'' hq hb' hS' hU' hM'' hF''=>?_⟩
     exact hK s' a'' w'' S'' m'' hq (hb.trans hb') (fun b h=>hS' b (hS b h)) (fun b h=>(hU' b h).elim (hU b) .inr) hM'' hF''
    | false =>
     have h:((iU (lay s [(d,b)] op.dst (.bool true) s.m [] none)).bind fun s'=>rQ ae T o ops n (L.setIfInBounds i true) s').wp Qs:=h
     obtain ⟨s1,h1,h2⟩:=Tree.oQ (rR _) (Tree.wp_bind.1 h)
     obtain ⟨q1,q2⟩:=AU h1
     cases q2
     refine ain hop e1 e2 (Ye hrel e4) ?_
     obtain ⟨f1,f2,_⟩:=hF.pass (C:=[(d,b)]) (List.mem_singleton.2 rfl) (Ye hrel e4) q1
     refine ⟨hd,ih _ rfl h2 (by rw [f2]; exact hM) (uC f1 rfl rfl) hd fun s' a'' w'' S'' m'' hq hb' hS' hU' hM'' hF''=>?_⟩
     exact hK s' a'' w'' S'' m'' hq hb' hS' hU' hM'' hF''
   obtain ⟨s1,h1,h2⟩:=Tree.oQ (xq _ _ _ _ _ _) (Tree.wp_bind.1 h)
   obtain ⟨r0,r1,r2,r3,r4⟩:=Et hs h1
   refine vZ hT ho.old hop hM hF r1 fun a' w' S' m' hb hS hU hM' hF'=>?_
   rw [r3] at hM'
   refine ⟨hD w w' hd hb,ih _ r0 h2 hM' (uC hF' r2 r4) (hD w w' hd hb) fun s' a'' w'' S'' m'' hq hb' hS' hU' hM'' hF''=>?_⟩
   exact hK s' a'' w'' S'' m'' hq (hb.trans hb') (fun b h=>hS' b (hS b h)) (fun b h=>(hU' b h).elim (hU b) .inr) hM'' hF''
theorem aip (hT:bG P T) {o:bW} (ho:lD P o) {ops:Array Oper} (hsel:Region.noSelect ops=true) {Q:Exit->Act->World->Prop} (hQ:∀ c a w,¬ Q (.panic c) a w) {R:Array Bool×Nat×St->Prop}:∀ (l:List Nat) (L:Array Bool) (n:Nat) {s:St} {a:Act} {S:Nat->Prop} {m:aY},
  s.ks=[]->(A8 ae T o ops l L n s).wp R->aV base w S m s.m->dQ base.old w S m a s ->
  ∃ L' n' s' a' S' m',R (L',n',s')/\s'.ks=[]/\(∀ b,S b->S' b)/\(∀ b,S' b->S b\/¬ base.Z b)/\aV base w S' m' s'.m/\dQ base.old w S' m' a' s' /\
   ∀ D:World->Prop,(∀ w',D w'->∀ b,S' b->w'.heap[b]? = w.heap[b]?)->D w->wpAnyH P .any ops Q D n' L' a' w->wpAnyH P .any ops Q D n L a w:=by
 intro l
 induction l with
 | nil =>
  intro L n s a S m hs h hM hF
  exact ⟨L,n,s,a,S,m,h,hs,fun _ h=>h,fun _ h=>.inl h,hM,hF,fun D _ _ h=>h⟩
 | cons i l ih =>
  intro L n s a S m hs h hM hF
  simp only [A8] at h
  split at h
  ·exact ih L n hs h hM hF
  ·rename_i op hop
   split at h
   ·rename_i hone
    split at h
    ·exact h.elim
    ·rename_i n'
     obtain ⟨s1,h1,h2⟩:=Tree.oQ (xq _ _ _ _ _ _) (Tree.wp_bind.1 h)
     obtain ⟨r0,r1,r2,r3,r4⟩:=Et hs h1
     unfold XO at hone
     split at hone
     case h_2=>cases hone
     rename_i f1 f2
     split at hone
     case h_2=>cases hone
     rename_i f3 f4
     obtain ⟨v,S',m',k1,k2,k3,k4,k5⟩:=adf hT ho.old hop hM hF f1 (Js f2) r1
     rw [r3] at k4
     obtain ⟨L'',n'',s'',a'',S'',m'',g1,g2,g3,g4,g5,g6,g7⟩:=ih _ _ r0 h2 k4 (uC k5 r2 r4)
     refine ⟨L'',n'',s'',a'',S'',m'',g1,g2,fun b h=>g3 b (k2 b h),fun b h=>(g4 b h).elim (k3 b) .inr,g5,g6,fun D hD hw hany=>?_⟩
     exact wpAnyH_take hop hsel f4 f3 (fun c a w h=>absurd h (hQ _ _ _)) (k1 D fun w' hw' b hb=>hD w' hw' b (g3 b (k2 b hb))) hw (g7 D hD hw hany)
   ·exact ih L n hs h hM hF
theorem bL.Yh (hm:P.follows .mixedOrders=true) (hT:bG P T) {o:bW} (ho:lD P o) {id:Nat} {ops:Array Oper} {Q:Exit->AS->Prop} {A:AS} (h:(Ji ae T o ops A).wp fun s=>Q .normal ⟨iK s.ts s.tg,s.m,A.np⟩):bL P (.region id ops true) Q A:=by
 unfold Ji at h
 split at h
 case h_2=>exact h.elim
 rename_i hsel
 refine bL.mono (Q:=fun e A'=>e = .normal/\Q .normal A') ?_ (by rintro e A' ⟨rfl,h⟩; exact h)
 refine ⟨fun base w S m a hM hA=>?_⟩
 have hM':aV base w.drew S m A.m:=hM.rel.drew
 have hB:bX base.Z w w.drew:=⟨rfl,rfl,rfl,Nat.le_refl _,fun _ _=>rfl⟩
 have hF:dQ base.old w.drew S m a ⟨A.ts,A.m,[],[]⟩:=⟨hA.1,hA.2.1.mono (fun _ h=>h) (fun _ _=>rfl),fun t _=>Rel.mono (w:=w) (w':=w.drew) (fun _ h=>h) (fun _ _=>rfl) (hA.2.2 t) _ (fun _ _ h=>h),fun t=>.inl fun s b hm=>by simp [bU] at hm⟩
 have hno:∀ c a w',¬ mq base w S (fun e A'=>e = .normal/\Q .normal A') (.panic c) a w':=by
  rintro c a w' ⟨A',_,_,⟨e,_⟩,_⟩; cases e
 obtain ⟨L,n,s,a1,S1,m1,g1,g2,g3,g4,g5,g6,g7⟩:=aip (base:=base) (w:=w.drew) hT ho hsel hno _ _ _ rfl (Tree.wp_bind.1 h) hM' hF
 let E:Env:=⟨fun g=>base.Z g\/S1 g,base.pin,fun g hg=>.inl (base.gz g hg),base.old,fun g h=>.inl (base.oz g h)⟩
 have hME:aV E w.drew S1 m1 s.m:=⟨g5.len,g5.sb,g5.bk,fun i l hi=>⟨fun h=>h.elim (g5.lt i l hi).1 (g5.lt i l hi).2.2,(g5.lt i l hi).2⟩,g5.inj,fun b h=>h.elim (g5.fu b) (g5.sb b),g5.iO,g5.pin,fun i l hi=>have q:=g5.ext i l hi; ⟨q.nd,fun b hb=>have r:=q.out b hb; ⟨fun h=>h.elim r.1 r.2.2,r.2⟩,q.far⟩⟩
 refine wp_region_held hm (S:=fun w'=>∀ b,S1 b->w'.heap[b]? = w.drew.heap[b]?) (g7 _ (fun w' h=>h) (fun _ _=>rfl) ?_)
 refine Yg (base:=E) hT ho hsel (fun w1 w2 h1 hp b hb=>(hp.block b (.inr hb)).trans (h1 b hb)) hno n L g2 g1 hME g6 (fun _ _=>rfl) ?_
 intro s' a' w' S' m' hq hb hS hU hM2 hF2
 refine ⟨_,S',m',⟨rfl,hq⟩,hB.trans ⟨hb.os,hb.tape,hb.output,hb.size,fun k hk=>hb.block k (.inl hk)⟩,fun b h=>hS b (g3 b h),fun b h=>(hU b h).elim (g4 b) (fun h=>.inr fun h'=>h (.inl h')),⟨?_,hM.pins⟩,hF2.iK⟩
 exact ⟨hM2.len,hM2.sb,hM2.bk,fun i l hi=>⟨fun h=>(hM2.lt i l hi).1 (.inl h),(hM2.lt i l hi).2⟩,hM2.inj,fun b h=>hM2.fu b (.inl h),hM2.iO,hM2.pin,fun i l hi=>have q:=hM2.ext i l hi; ⟨q.nd,fun b hb=>have r:=q.out b hb; ⟨fun h=>r.1 (.inl h),r.2⟩,q.far⟩⟩
theorem aiq {n n0:Nat} {l:Array Bool} (hs:l.size=n) (h:∀ i,i<n->l.getD i false=Nat.blt i n0):l=Jj n n0:=by
 refine Array.ext (by rw [hs]; simp [Jj]) fun i h1 h2=>?_
 have:=h i (by omega)
 simp [Array.getD_eq_getD_getElem?,h1] at this
 rw [this]
 simp [Jj]
theorem bL.Yi (hm:P.follows .mixedOrders=true) (hT:bG P T) {o:bW} (ho:lD P o) {id:Nat} {ops:Array Oper} {n0:Nat} {Q:Exit->AS->Prop} {A:AS} (h:(Jk ae T o ops n0 A).wp fun s=>Q .normal ⟨iK s.ts s.tg,s.m,A.np⟩):bL P (.region id ops true) Q A:=by
 unfold Jk at h
 split at h
 case h_2=>exact h.elim
 rename_i hok
 unfold XX at hok
 simp only [Bool.and_eq_true] at hok
 obtain ⟨⟨⟨hsel,hbk⟩,hchk⟩,hdr⟩:=hok
 have hback:∀ (i:Nat) (o:Oper),ops[i]? = some o->∀ k∈fJ o,k<i:=fun i o hi k hk=>by
  unfold XW at hbk
  rw [List.all_eq_true] at hbk
  have:=hbk i (by rw [List.mem_range]; exact (Array.getElem?_eq_some_iff.1 hi).1)
  simp only [hi,List.all_eq_true] at this
  exact Nat.blt_eq▸this k hk
 have hn0:n0<=ops.size:=by
  unfold yX at hchk
  rw [Bool.and_eq_true] at hchk
  exact Nat.le_of_ble_eq_true hchk.1
 obtain ⟨s',hs,h⟩:=Tree.oQ (XU _ _ _ _ _ _) (Tree.wp_bind.1 h)
 obtain ⟨h1,h2⟩:=Yc rfl hs
 obtain ⟨K,k1,k2⟩:=h2 [] trivial
 refine bL.mono (Q:=fun e A'=>e = .normal/\Q .normal A') ?_ (by rintro e A' ⟨rfl,h⟩; exact h)
 refine ⟨fun base w S m a hM hA=>wp_region_any hm ?_⟩
 obtain ⟨ops',hops'⟩:∃ ops',ops'=(ops.toList.take n0).toArray:=⟨_,rfl⟩
 have hops:ops'.toList=ops.toList.take n0:=by rw [hops']
 rw [<- hops'] at hdr
 have hd:=ql.of hdr
 have hM':aV base w.drew S m A.m:=hM.rel.drew
 have hB:bX base.Z w w.drew:=⟨rfl,rfl,rfl,Nat.le_refl _,fun _ _=>rfl⟩
 have hF:dQ base.old w.drew S m a ⟨A.ts,A.m,[],[]⟩:=⟨hA.1,hA.2.1.mono (fun _ h=>h) (fun _ _=>rfl),fun t _=>Rel.mono (w:=w) (w':=w.drew) (fun _ h=>h) (fun _ _=>rfl) (hA.2.2 t) _ (fun _ _ h=>h),fun t=>.inl fun s b hm=>by simp [bU] at hm⟩
 have es:eP ae T o.old ops' ⟨A.ts,A.m,[],[]⟩ ops'.size=⟨s'.ts,s'.m,s'.tg,K⟩:=by
  unfold eP
  rw [<- Array.length_toList,List.take_length,hops,<- k2]
 have hk:aG (eP ae T o.old ops' ⟨A.ts,A.m,[],[]⟩ ops'.size).ks:=by rw [es]; exact k1
 have hno:∀ j,¬ Listed ops' (Array.replicate ops.size false) j:=fun j ⟨hj,h⟩=>by
  by_cases hjs:j<ops.size <;> simp [Array.getD_eq_getD_getElem?,hjs] at h
 have h0:=tO (p:=ae) (T:=T) (call:=o.old) (s0:=⟨A.ts,A.m,[],[]⟩) hd rfl hk 0 (Nat.zero_le _)
 have e0:eP ae T o.old ops' ⟨A.ts,A.m,[],[]⟩ 0=⟨A.ts,A.m,[],[]⟩:=by simp [eP,nE]
 have eL:(fun j=>j<0)=Listed ops' (Array.replicate ops.size false):=by
  funext j; apply propext
  exact ⟨fun h=>absurd h (Nat.not_lt_zero _),fun h=>absurd h (hno j)⟩
 rw [e0,eL] at h0
 have hno':∀ c a w',¬ mq base w S (fun e A'=>e = .normal/\Q .normal A') (.panic c) a w':=by
  rintro c a w' ⟨A',_,_,⟨e,_⟩,_⟩; cases e
 refine adp (base:=base) hT ho.old hback hchk hops hd rfl hk (w0:=w.drew) (S0:=S) ?_ ops.size (Array.replicate ops.size false) (List.range n0) (by simp) (by rw [List.length_range]; omega) List.nodup_range
  (fun i hi=>⟨fun _=>List.mem_range.2 hi,fun _=>by by_cases hjs:i<ops.size <;> simp [Array.getD_eq_getD_getElem?,hjs]⟩) (fun i hi=>List.mem_range.1 hi) (fun i _ hi=>by simp [Array.getD_eq_getD_getElem?,hi]) (fun j o' hj=>absurd hj (hno j)) h0 (bX.refl _ _) (fun _ h=>h) (fun _ h=>.inl h) hM' hF
 intro listed a' w' S' m' hsz hl hP hS hU hM2 hF2
 rw [es] at hM2 hF2
 rw [aiq hsz hl]
 refine wpAny_of_held (S:=fun _=>True) _ _ _ _ (Yg (base:=base) hT ho hsel (D:=fun _=>True) (fun _ _ _ _=>trivial) hno' _ _ h1 h hM2 (uC hF2 rfl rfl) trivial ?_)
 intro s'' a'' w'' S'' m'' hq hb hS' hU' hM3 hF3
 exact ⟨_,S'',m'',⟨rfl,hq⟩,hB.trans (hP.trans hb),fun b h=>hS' b (hS b h),fun b h=>(hU' b h).elim (hU b) .inr,⟨hM3,hM.pins⟩,hF3.iK⟩
theorem Yj (hT:bG P T) {o:bW} (ho:lD P o) {ops:Array Oper} {op:Oper} {i:Nat} (hi:ops[i]? = some op) {a:Act} {s s':St} (hs:s.ks=[]) (hM:aV base w S m s.m) (hF:dQ base.old w S m a s)
  (h:(AX ae T o ops.toList s op).run=some s') {K:Act->World->Prop} {Q:Exit->Act->World->Prop} (hK:nA base w S m s' K):s'.ks=[]/\wpOp P ops Q i K a w:=by
 unfold AX at h
 split at h
 ·rename_i t n ps hop
  split at h
  case h_2=>cases h
  rename_i hg hu
  have hC:holds a []:=fun _ _ h=>by cases h
  have hops:∀ x∈op.op.operands.toList,Rel w S m (a.eval x) (bE s.ts x):=fun x hx =>
   ru x fun t ht=>by subst ht; exact hF.rel t (Cm (Gd hu t hx) hC)
  have hres:=abj hT hM t n (K7 (a:=a) (ts:=s.ts) (ps:=ps) (fun x hx=>hops x (by rw [hop]; simpa [Op.operands] using hx)))
  generalize BH T s.m t n (kS s.ts ps.toList)=r at h hres
  obtain ⟨v0,m0,ks0,inv0⟩:=r
  obtain ⟨q1,q2⟩:=AU h
  cases q2
  refine ⟨rfl,?_⟩
  have e:wpOp P ops Q i K a w=nC P ops op a w K Q:=by unfold wpOp; simp only [hi]; rfl
  rw [e]
  unfold nC
  rw [if_pos (by unfold Region.wanted; rw [hg])]
  left
  refine fo ?_ (hres (mo q1).2) ?_
  ·obtain ⟨d1,d2,d3,d4,d5,d6⟩:=op
   have hop:d2 = .buildSlice t n ps:=hop
   subst hop
   rfl
  intro v w' S' m' ht hm hr
  have hm:aV base w' S' m' m0:=hm
  have hr:Rel w' S' m' v v0:=hr
  have ht:Trans base w S m w' S' m' inv0:=ht
  obtain ⟨f1,f2,_,_⟩:=hF.lay hC ht hr q1
  have hb:=ht.below
  have hs1:=ht.sub
  have hs2:=ht.up
  clear hr ht q1
  generalize lay s [] op.dst v0 m0 ks0 inv0=L at hK f1 f2
  obtain ⟨Lts,Lm,Ltg,Lks⟩:=L
  have f2:Lm=m0:=f2
  subst f2
  exact hK _ _ _ _ hb hs1 hs2 hm (uC f1 rfl rfl)
 ·obtain ⟨r0,r1,r2,r3,r4⟩:=Et hs h
  exact ⟨r0,vZ hT ho.old hi hM hF r1 fun a' w' S' m' hb hS hU hM' hF'=>hK a' w' S' m' hb hS hU (r3▸hM') (uC hF' r2 r4)⟩
theorem air (hT:bG P T) {o:bW} (ho:lD P o) {ops:Array Oper} {Q:Exit->Act->World->Prop}:∀ (l:List Oper) (i:Nat) {w:World} {S:Nat->Prop} {m:aY} {a:Act} {s s':St},(∀ k,l[k]? = ops[i+k]?)->s.ks=[] ->
  aV base w S m s.m->dQ base.old w S m a s->(opsL ae T o ops.toList l s).run=some s'->nA base w S m s' (fun a w=>Q .normal a w)->wpOps P ops Q (List.range' i l.length) a w:=by
 intro l
 induction l with
 | nil =>
  intro i w S m a s s' _ _ hM hF h hK
  cases h
  exact hK a w S m (bX.refl _ _) (fun _ h=>h) (fun _ h=>.inl h) hM hF
 | cons op l ih =>
  intro i w S m a s s' hl hs hM hF h hK
  rw [List.length_cons,List.range'_succ,wpOps_cons]
  have h:((AX ae T o ops.toList s op).bind (opsL ae T o ops.toList l)).run=some s':=h
  rw [Tree.run_bind (XQ _ _ _ _ _ _)] at h
  obtain ⟨s1,h1,h2⟩:=Option.bind_eq_some_iff.1 h
  have hks:s1.ks=[]:=(Yj (i:=i) (Q:=fun _ _ _=>True) (K:=fun _ _=>True) hT ho (by have:=hl 0; simpa using this.symm) hs hM hF h1 (fun _ _ _ _ _ _ _ _ _=>trivial)).1
  refine (Yj hT ho (by have:=hl 0; simpa using this.symm) hs hM hF h1 ?_).2
  intro a' w' S' m' hb hS hU hM' hF'
  refine ih (i+1) (fun k=>by have:=hl (k+1); rw [List.getElem?_cons_succ] at this; rw [this]; congr 1; omega) hks hM' hF' h2 ?_
  intro a'' w'' S'' m'' hb' hS' hU' hM'' hF''
  exact hK a'' w'' S'' m'' (hb.trans hb') (fun b h=>hS' b (hS b h)) (fun b h=>(hU' b h).elim (hU b) .inr) hM'' hF''
theorem bL.ais (hT:bG P T) {o:bW} (ho:lD P o) {id:Nat} {ops:Array Oper} {Q:Exit->AS->Prop} {A:AS} {s:St} (hs:(opsL ae T o ops.toList ops.toList ⟨A.ts,A.m,[],[]⟩).run=some s)
  (hq:Q .normal ⟨iK s.ts s.tg,s.m,A.np⟩):bL P (.region id ops false) Q A:=by
 refine ⟨fun base w S m a hM hA=>wp_region ?_⟩
 have e:List.range ops.size=List.range' 0 ops.toList.length:=by rw [List.range_eq_range']; simp
 rw [e]
 refine air hT ho ops.toList 0 (fun k=>by simp) rfl hM.rel (hA.start A.m) hs ?_
 intro a' w' S' m' hb hS hU hM' hF'
 exact ⟨_,S',m',hq,hb,hS,hU,⟨hM',hM.pins⟩,hF'.iK⟩
end Go.aT
