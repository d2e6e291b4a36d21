/- A region in the order of its text. The abstract machine's rules for code, and how a contract is got from them. -/
import Derived.Test.YtjkhncojgilbaaaGreatDoorEngK
import Derived.RangeFuncLeaves
import Derived.RangeFuncRecord
namespace Go.aT
open Go Go.RowKit
variable {P:Program} {T:aX} {base:Env} {w:World} {S:Nat->Prop} {m:aY} {M:Mem}
def holds (a:Act) (C:bO):Prop:=∀ s b,(s,b)∈C->a.tmps.getD s Go.undef = .bool b
def Marks (old:Nat->Prop) (w:World) (S:Nat->Prop) (l:List Deferred):Prop :=
 l.Nodup/\∀ d,d∈l->∃ D,d={ target:=.collected D,args:=#[] }/\S D/\¬ old D/\w.heap[D]? = some (.deferred (some []))
theorem Marks.nil (old:Nat->Prop) (w:World) (S:Nat->Prop):Marks old w S []:=⟨List.nodup_nil,fun _ h=>by cases h⟩
theorem Marks.mono {w':World} {S':Nat->Prop} {l:List Deferred} {old:Nat->Prop} (h:Marks old w S l) (hS:∀ b,S b->S' b) (hw:∀ b,S b->w'.heap[b]? = w.heap[b]?):Marks old w' S' l :=
 ⟨h.1,fun d hd=>let ⟨D,e,h1,h2,h3⟩:=h.2 d hd; ⟨D,e,hS D h1,h2,(hw D h1).trans h3⟩⟩
structure dQ (old:Nat->Prop) (w:World) (S:Nat->Prop) (m:aY) (a:Act) (s:St):Prop where
 size:a.tmps.size=au s.ts
 defers:Marks old w S a.defers
 rel:∀ t,holds a (bU s.tg t)->Rel w S m (a.tmps.getD t Go.undef) (nth s.ts t)
 skip:∀ t,holds a (bU s.tg t)\/a.tmps.getD t Go.undef=Go.undef
theorem yQ (k l:bO):sN k l=k++l:=by induction k with | nil=>rfl | cons a k ih=>simp [sN,ih]
theorem ab3:∀ (k l:bO),qU k l=true->∀ x,x∈k->x∈l:=by
 intro k
 induction k with
 | nil=>intro l _ x hx; simp at hx
 | cons a k ih =>
  obtain ⟨a,b⟩:=a
  intro l h x hx
  cases l with
  | nil=>simp [qU] at h
  | cons c l =>
   obtain ⟨c,d⟩:=c
   simp only [qU] at h
   split at h
   ·rename_i h1 h2
    have h1:=Nat.eq_of_beq_eq_true h1
    have h2:b=d:=by simpa using h2
    subst h1 h2
    rcases List.mem_cons.1 hx with rfl | hx
    ·simp
    ·exact List.mem_cons_of_mem _ (ih l h x hx)
   ·simp at h
theorem Cm {a:Act} {k l:bO} (h:qU k l=true) (hl:holds a l):holds a k:=fun s b hm=>hl s b (ab3 k l h _ hm)
theorem Gd {tg:fM} {C:bO}:∀ {l:List Operand},gq tg C l=true->∀ t,Operand.tmp t∈l->qU (bU tg t) C=true:=by
 intro l
 induction l with
 | nil=>intro _ t h; simp at h
 | cons x l ih =>
  intro h t ht
  cases x with
  | tmp u =>
   simp only [gq] at h
   split at h
   ·rename_i h1
    rcases List.mem_cons.1 ht with e | ht
    ·injection e with e; subst e; exact h1
    ·exact ih h t ht
   ·simp at h
  | _ =>
   simp only [gq] at h
   rcases List.mem_cons.1 ht with e | ht
   ·cases e
   ·exact ih h t ht
theorem Tx {s:Nat}:∀ {C:bO},mentions s C=false->∀ t b,(t,b)∈C->s≠t:=by
 intro C
 induction C with
 | nil=>intro _ t b h; simp at h
 | cons x C ih =>
  obtain ⟨u,c⟩:=x
  intro h t b ht e
  simp only [mentions] at h
  split at h
  ·simp at h
  ·rename_i h1
   rcases List.mem_cons.1 ht with e2 | ht
   ·injection e2 with e2 e3; subst e2; subst e; simp at h1
   ·exact ih h t b ht e
theorem Tz {s:Nat}:∀ {tg:fM},mentioned s tg=false->∀ t,mentions s (bU tg t)=false:=by
 intro tg
 induction tg with
 | nil=>intro _ t; rfl
 | cons x tg ih =>
  obtain ⟨u,C⟩:=x
  intro h t
  simp only [mentioned] at h
  split at h
  ·simp at h
  ·rename_i h1
   simp only [bU]
   split
   ·exact h1
   ·exact ih h t
theorem vX (tg:fM) (d:Nat) (C:bO) (t:Nat):bU (setTag tg d C) t=if d=t then C else bU tg t:=by
 unfold setTag
 split
 ·rename_i h
  by_cases e:d=t
  ·subst e; rw [if_pos rfl]; exact h
  ·rw [if_neg e]
 ·simp only [bU]
  by_cases e:d=t
  ·subst e; rw [Nat.beq_refl,if_pos rfl]
  ·rw [jT e,if_neg e]
theorem vY (a:Act) (d:Nat) (v:Value) (t:Nat):(a.put (some d) v).tmps.getD t Go.undef=if d=t/\d<a.tmps.size then v else a.tmps.getD t Go.undef:=by
 simp only [Act.put,Array.getD_eq_getD_getElem?,Array.getElem?_setIfInBounds]
 by_cases e:d=t
 ·subst e
  by_cases h:d<a.tmps.size <;> simp [h]
 ·simp [e]
theorem TA (a:Act) (d:Option Tmp) (v:Value):(a.put d v).tmps.size=a.tmps.size:=by cases d <;> simp [Act.put]
theorem TB (a:Act) (d:Option Tmp) (v:Value):(a.put d v).defers=a.defers:=by cases d <;> rfl
theorem Gf {a:Act} {d:Nat} {v:Value} {C:bO} (h:mentions d C=false):holds (a.put (some d) v) C↔holds a C:=by
 constructor
 ·intro hh s b hm
  have:=hh s b hm
  rw [vY,if_neg (fun x=>Tx h s b hm x.1)] at this
  exact this
 ·intro hh s b hm
  rw [vY,if_neg (fun x=>Tx h s b hm x.1)]
  exact hh s b hm
theorem dQ.lay {w':World} {S':Nat->Prop} {m':aY} {a:Act} {s:St} (hF:dQ base.old w S m a s) {C:bO} (hC:holds a C) {dst:Option Nat} {v:Value} {av:AV} {mem:Mem} {ks:List Bool} {inv:Option Nat}
  (ht:Trans base w S m w' S' m' inv) (hv:Rel w' S' m' v av) (hk:aG (lay s C dst av mem ks inv).ks) :
  dQ base.old w' S' m' (a.put dst v) (lay s C dst av mem ks inv)/\(lay s C dst av mem ks inv).m=mem/\aG s.ks/\aG ks:=by
 unfold aT.lay at hk ⊢
 cases dst with
 | none =>
  cases inv with
  | none =>
   simp only at hk ⊢
   rw [aG.cat] at hk
   exact ⟨⟨hF.size,hF.defers.mono ht.sub ht.st,fun t h=>ht.rel (hF.rel t h),hF.skip⟩,trivial,hk.1,hk.2⟩
  | some b =>
   simp only at hk ⊢
   rw [aG.cat] at hk
   exact ⟨⟨by rw [Kw]; exact hF.size,hF.defers.mono ht.sub ht.st,fun t h=>by rw [Kv]; exact ht.rel (hF.rel t h),hF.skip⟩,trivial,hk.1,hk.2⟩
 | some d =>
  simp only at hk ⊢
  split at hk
  case h_2=>simp [kE,aG] at hk
  rename_i hm1 hm2
  have hch:∀ t,holds (a.put (some d) v) (bU s.tg t)↔holds a (bU s.tg t):=fun t=>Gf (Tz hm1 t)
  have hchC:holds (a.put (some d) v) C↔holds a C:=Gf hm2
  have key:∀ (ts':List AV),au ts'=au s.ts->(∀ t,nth ts' t=fx inv (nth s.ts t))->dQ base.old w' S' m' (a.put (some d) v) ⟨put ts' d av,mem,setTag s.tg d C,jQ s.ks ks⟩:=fun ts' hl hn=>by
   refine ⟨by rw [TA,lQ,hl]; exact hF.size,by rw [TB]; exact hF.defers.mono ht.sub ht.st,fun t h=>?_,fun t=>?_⟩
   ·rw [vX] at h
    rw [vY,jS]
    by_cases e:d=t
    ·subst e
     by_cases hlt:d<a.tmps.size
     ·rw [if_pos ⟨rfl,hlt⟩,if_pos ⟨rfl,by rw [hl,<- hF.size]; exact hlt⟩]; exact hv
     ·rw [if_neg (fun x=>hlt x.2),if_neg (fun x=>hlt (by rw [hF.size,<- hl]; exact x.2))]
      rw [kW _ _ (by rw [hl,<- hF.size]; omega)]
      exact .undef _ _
    ·rw [if_neg e] at h
     rw [if_neg (fun x=>e x.1),if_neg (fun x=>e x.1),hn]
     exact ht.rel (hF.rel t ((hch t).1 h))
   ·rw [vX]
    by_cases e:d=t
    ·subst e; rw [if_pos rfl]; exact .inl (hchC.2 hC)
    ·rw [if_neg e,vY,if_neg (fun x=>e x.1)]
     rcases hF.skip t with h | h
     ·exact .inl ((hch t).2 h)
     ·exact .inr h
  cases inv with
  | none =>
   simp only at hk ⊢
   rw [aG.cat] at hk
   exact ⟨key s.ts rfl (fun _=>rfl),trivial,hk.1,hk.2⟩
  | some b =>
   simp only at hk ⊢
   rw [aG.cat] at hk
   exact ⟨key (pM b s.ts) (Kw _ _) (fun t=>Kv _ _ _),trivial,hk.1,hk.2⟩
theorem dQ.pass {a:Act} {s:St} (hF:dQ base.old w S m a s) {C:bO} {d:Nat} {b:Bool} (hC:(d,b)∈C) (hno:a.tmps.getD d Go.undef≠.bool b) {dst:Option Nat} {av:AV} {ks:List Bool}
  (hk:aG (aT.lay s C dst av s.m ks none).ks):dQ base.old w S m (a.put dst Go.undef) (aT.lay s C dst av s.m ks none)/\(aT.lay s C dst av s.m ks none).m=s.m/\aG s.ks:=by
 unfold aT.lay at hk ⊢
 cases dst with
 | none =>
  simp only at hk ⊢
  rw [aG.cat] at hk
  exact ⟨⟨hF.size,hF.defers,hF.rel,hF.skip⟩,trivial,hk.1⟩
 | some e =>
  simp only at hk ⊢
  split at hk
  case h_2=>simp [kE,aG] at hk
  rename_i hm1 hm2
  have hch:∀ t,holds (a.put (some e) Go.undef) (bU s.tg t)↔holds a (bU s.tg t):=fun t=>Gf (Tz hm1 t)
  have hchC:holds (a.put (some e) Go.undef) C↔holds a C:=Gf hm2
  simp only at hk ⊢
  rw [aG.cat] at hk
  refine ⟨⟨by rw [TA,lQ]; exact hF.size,by rw [TB]; exact hF.defers,fun t h=>?_,fun t=>?_⟩,trivial,hk.1⟩
  ·rw [vX] at h
   by_cases e2:e=t
   ·subst e2; rw [if_pos rfl] at h
    exact absurd (hchC.1 h d b hC) hno
   ·rw [if_neg e2] at h
    rw [vY,jS,if_neg (fun x=>e2 x.1),if_neg (fun x=>e2 x.1)]
    exact hF.rel t ((hch t).1 h)
  ·rw [vX]
   by_cases e2:e=t
   ·subst e2; rw [if_pos rfl,vY]
    right
    by_cases hlt:e<a.tmps.size
    ·rw [if_pos ⟨rfl,hlt⟩]
    ·rw [if_neg (fun x=>hlt x.2)]; simp [hlt]
   ·rw [if_neg e2,vY,if_neg (fun x=>e2 x.1)]
    rcases hF.skip t with h | h
    ·exact .inl ((hch t).2 h)
    ·exact .inr h
theorem ab4 {a:Act} {s:St} (hF:dQ base.old w S m a s):∀ {C:bO} {g:Bool},holds a C->lN ae s.ts C=some g->g=true:=by
 have lit:∀ {d:Nat} {b x:Bool},a.tmps.getD d Go.undef = .bool b->mh ae s.ts d b=some x->x=true:=fun {d b x} h hl=>by
  have hh:holds a (bU s.tg d):=by
   rcases hF.skip d with h' | h'
   ·exact h'
   ·rw [h] at h'; simp [Go.undef] at h'
  have hr:=hF.rel d hh
  rw [h] at hr
  unfold mh at hl
  split at hl
  ·rename_i y hy
   rw [hy] at hr; cases hr; injection hl with hl; exact hl.symm
  ·rename_i y hy
   rw [hy] at hr; cases hr; injection hl with hl; rw [<- hl]; rfl
  ·simp at hl
 intro C
 induction C with
 | nil=>intro g _ h; injection h with h; exact h.symm
 | cons x C ih =>
  obtain ⟨d,b⟩:=x
  intro g hh h
  have h0:=hh d b (by simp)
  have hr:holds a C:=fun s b hm=>hh s b (List.mem_cons_of_mem _ hm)
  cases C with
  | nil=>exact lit h0 h
  | cons y C =>
   simp only [lN] at h
   split at h
   ·rename_i x1 y1 hx hy
    have e1:=lit h0 hx
    have e2:=ih hr hy
    injection h with h; subst h
    rw [e1,e2]; rfl
   ·simp at h
theorem Cn {ks:List Bool} (h:aG (kD ae true ks)):aG ks:=by
 induction ks with
 | nil=>trivial
 | cons k ks ih =>
  rw [kD,aG.cons] at h
  rw [aG.cons]
  exact ⟨by simpa [ae] using h.1,ih h.2⟩
theorem K8 (ops:Array Oper) (a:Act) (j d:Nat) (b:Bool) (hd:(ops[j]?).bind (·.dst)=some d):yielded ops a.tmps j=some b↔a.tmps.getD d Go.undef = .bool b:=by
 unfold yielded
 rw [hd]
 simp only [Option.bind_some,Array.getD_eq_getD_getElem?]
 cases h:a.tmps[d]? with
 | none=>simp [Go.undef]
 | some v=>cases v <;> simp
theorem ab5 (p:bg) (op:BinOp) (k:IntKind) (x y:Int):(uU p M op k x y).m=M/\(uU p M op k x y).inv=none:=by cases op <;> exact ⟨rfl,rfl⟩
theorem ab6 (p:bg) (op:BinOp) (x y:List UInt8):(x9 p M op x y).m=M/\(x9 p M op x y).inv=none:=by cases op <;> exact ⟨rfl,rfl⟩
theorem ab7 (p:bg) (op:BinOp) (t:Nat) (x y:AV):(uY p T M op t x y).m=M/\(uY p T M op t x y).inv=none:=by
 unfold uY
 split
 ·exact ⟨rfl,rfl⟩
 ·exact ⟨rfl,rfl⟩
 ·split
  ·exact ab5 p _ _ _ _
  ·exact ⟨rfl,rfl⟩
 ·exact ab6 p _ _ _
 all_goals (first | exact ⟨rfl,rfl⟩ | (split <;> exact ⟨rfl,rfl⟩))
theorem ab8 (p:bg) (op:UnOp) (x:AV):(uZ p M op x).m=M/\(uZ p M op x).inv=none:=by unfold uZ; split <;> exact ⟨rfl,rfl⟩
theorem ab9 (p:bg) (s d:Nat) (x:AV):(u6 p T M s d x).m=M/\(u6 p T M s d x).inv=none:=by unfold u6; split <;> exact ⟨rfl,rfl⟩
theorem aca (t:Nat) (ps:List (Nat×AV)):(ve T M t ps).m=M/\(ve T M t ps).inv=none:=by
 unfold ve
 split
 ·split <;> exact ⟨rfl,rfl⟩
 ·split <;> exact ⟨rfl,rfl⟩
 ·exact ⟨rfl,rfl⟩
theorem acb (t n:Nat) (ps:List (Nat×AV)):(vg T M t n ps).m=M/\(vg T M t n ps).inv=none:=by
 unfold vg
 repeat' (first | exact ⟨rfl,rfl⟩ | split)
theorem acd (t f:Nat) (x:AV):(vo T M t x f).m=M/\(vo T M t x f).inv=none:=by
 unfold vo
 split
 ·split
  ·split
   ·exact ⟨rfl,rfl⟩
   ·exact ⟨rfl,rfl⟩
   ·split <;> exact ⟨rfl,rfl⟩
   ·exact ⟨rfl,rfl⟩
  ·exact ⟨rfl,rfl⟩
 ·exact ⟨rfl,rfl⟩
theorem ace (t f:Nat) (x:AV):(vz T M t x f).m=M/\(vz T M t x f).inv=none:=by
 unfold vz
 split
 ·split
  ·split
   ·split <;> exact ⟨rfl,rfl⟩
   ·split <;> exact ⟨rfl,rfl⟩
  ·exact ⟨rfl,rfl⟩
 ·exact ⟨rfl,rfl⟩
theorem acf (p:bg) (t:Nat) (lit:Option Nat) (x i:AV):(vB p T M t lit x i).m=M/\(vB p T M t lit x i).inv=none:=by
 unfold vB
 repeat' (first | exact ⟨rfl,rfl⟩ | split)
theorem acg (p:bg) (t:Nat) (lit:Option Nat) (x i:AV):(vC p T M t lit x i).m=M/\(vC p T M t lit x i).inv=none:=by
 unfold vC
 repeat' (first | exact ⟨rfl,rfl⟩ | split)
theorem ach (t:Nat) (x k:AV) (ok:Bool):(vL T M t x k ok).m=M/\(vL T M t x k ok).inv=none:=by
 unfold vL ym
 repeat' (first | exact ⟨rfl,rfl⟩ | split)
theorem aci (t:Nat) (x k:AV) (ok:Bool):(BP T M t x k ok).m=M/\(BP T M t x k ok).inv=none:=ach t x k ok
theorem acj (i:Nat) (x:AV):(vE M x i).m=M/\(vE M x i).inv=none:=by
 unfold vE
 split
 ·split <;> exact ⟨rfl,rfl⟩
 ·split
  ·exact ⟨rfl,rfl⟩
  ·split <;> exact ⟨rfl,rfl⟩
 ·exact ⟨rfl,rfl⟩
theorem ack (p:bg) (t:Nat) (x:AV) (lo hi:Option AV):(ni p T M t x lo hi).m=M/\(ni p T M t x lo hi).inv=none:=by
 unfold ni
 repeat' (first | exact ⟨rfl,rfl⟩ | split)
theorem acm (p:bg) (t:Nat) (x:AV):(vF p T M t x).m=M/\(vF p T M t x).inv=none:=by unfold vF; repeat' (first | exact ⟨rfl,rfl⟩ | split)
theorem acn (p:bg) (t:Nat) (x:AV):(vG p T M t x).m=M/\(vG p T M t x).inv=none:=by
 unfold vG
 repeat' (first | exact ⟨rfl,rfl⟩ | split)
theorem aco (p:bg) (t:Nat) (x:AV) (hi mx:Operand) (h:AV):(pK p T M t x hi mx h).m=M/\(pK p T M t x hi mx h).inv=none:=by
 unfold pK
 repeat' (first | exact ⟨rfl,rfl⟩ | split)
theorem acp (p:bg) (t:Nat) (x:AV) (hi mx:Operand) (h g:AV):(vD p T M t x hi mx h g).m=M/\(vD p T M t x hi mx h g).inv=none:=by
 unfold vD BJ
 repeat' (first | exact ⟨rfl,rfl⟩ | exact aco _ _ _ _ _ _ | split)
theorem TC {p:bg} {call:dD} {ts:List AV} {f:Operand} {args:Array Operand} {ats:Array TypeId} (h:iJ p call ts M (.call ⟨.value f,args,ats⟩)=true) :
  ∀ id first cap,bE ts f = .fn (.func id) first cap->call.me p id (bK first (bK (dC ts args.toList) cap)) M=none:=by
 intro id first cap e
 simp only [iJ,e] at h
 split at h
 ·assumption
 ·simp at h
theorem acr (p:bg) (k:IntKind) (a:Int) (l:List AV):(sI p M k a l).m=M/\(sI p M k a l).inv=none:=by
 induction l generalizing a with
 | nil=>exact ⟨rfl,rfl⟩
 | cons x l ih =>
  cases x <;> try exact ⟨rfl,rfl⟩
  simp only [sI]
  split
  ·exact ih _
  ·exact ⟨rfl,rfl⟩
theorem acs (p:bg) (k:IntKind) (a:Int) (l:List AV):(sJ p M k a l).m=M/\(sJ p M k a l).inv=none:=by
 induction l generalizing a with
 | nil=>exact ⟨rfl,rfl⟩
 | cons x l ih =>
  cases x <;> try exact ⟨rfl,rfl⟩
  simp only [sJ]
  split
  ·exact ih _
  ·exact ⟨rfl,rfl⟩
theorem acu (p:bg) (s d:Nat) (x:AV) {xo:Operand} (h:kU T (.convert s d xo)=true):(BK p T M s d x).m=M/\(BK p T M s d x).inv=none:=ab9 _ _ _ _
theorem TE (p:bg) (call:dD) (ts:List AV) (M:Mem) (op:Op) (h:kU T op=true):(dw p T call ts M op).m=M/\(dw p T call ts M op).inv=none:=by
 cases op with
 | move x=>exact ⟨rfl,rfl⟩
 | assign x=>exact ⟨rfl,rfl⟩
 | load t x=>exact SE _ _
 | binOp op t x y yt=>exact ab7 _ _ _ _ _
 | unOp op t x=>exact ab8 _ _ _
 | convert s d x=>exact acu _ _ _ _ h
 | makeFunc f a c=>simp only [dw]; split <;> first | exact ⟨rfl,rfl⟩ | (split <;> exact ⟨rfl,rfl⟩)
 | fieldAddr t x f=>exact acd _ _ _
 | field t x f=>exact ace _ _ _
 | indexAddr t x i=>exact acf _ _ _ _ _
 | index t x i=>exact acg _ _ _ _ _
 | lookup t x k ok=>exact aci _ _ _ _
 | extract x i=>exact acj _ _
 | nilCheck x=>simp only [dw,Fs]; split <;> exact ⟨rfl,rfl⟩
 | build t ps=>exact aca _ _
 | buildSlice t n ps=>exact acb _ _ _
 | slice t x lo hi mx =>
  cases mx with
  | none=>exact ack _ _ _ _ _
  | some mx =>
   cases lo with
   | some lo=>exact ⟨rfl,rfl⟩
   | none=>cases hi with
    | none=>exact ⟨rfl,rfl⟩
    | some hi=>exact acp _ _ _ _ _ _ _
 | call c =>
  obtain ⟨callee,args,ats⟩:=c
  cases callee with
  | builtin b =>
   simp only [dw]
   cases b <;> simp [kU] at h <;> unfold BQ <;> split <;> first | exact ⟨rfl,rfl⟩ | contradiction | (split <;> first | exact acm _ _ _ | exact acn _ _ _ | exact ⟨rfl,rfl⟩) | exact acr _ _ _ _ | exact acs _ _ _ _
  | _=>simp [kU] at h
 | _=>simp [kU] at h
theorem TF (p:bg) (call:dD) (M:Mem) (id:Nat) (bargs:List AV) (oo:Bool) (h:∀ b n,(lM p call M id bargs oo).v≠.own b n) (h':∀ b,(lM p call M id bargs oo).v≠.bz b):(lM p call M id bargs oo).m=M/\(lM p call M id bargs oo).inv=none:=by
 unfold lM at h h' ⊢
 split
 ·split
  ·exact ⟨rfl,rfl⟩
  ·split <;> exact ⟨rfl,rfl⟩
 ·rename_i hc
  split
  ·simp only [hc] at h
   exact absurd rfl (h _ _)
  ·exact ⟨rfl,rfl⟩
 ·rename_i hc
  split
  ·rename_i hor
   simp only [hc,hor] at h'
   exact absurd rfl (h' _)
  ·exact ⟨rfl,rfl⟩
 ·split <;> exact ⟨rfl,rfl⟩
 ·exact ⟨rfl,rfl⟩
theorem TG (p:bg) (call:dD) (M:Mem) (f:AV) (args:List AV) (hq:∀ id first cap,f = .fn (.func id) first cap->call.me p id (bK first (bK args cap)) M=none) (h:∀ b n,(kT p call M f args).v≠.own b n) (h':∀ b,(kT p call M f args).v≠.bz b):(kT p call M f args).m=M/\(kT p call M f args).inv=none:=by
 unfold kT at h h' ⊢
 split
 ·rename_i id first cap
  simp only [hq id first cap rfl] at h h' ⊢
  exact TF _ _ _ _ _ _ h h'
 ·exact TF _ _ _ _ _ _ h h'
 ·exact ⟨rfl,rfl⟩
def nA (base:Env) (w:World) (S:Nat->Prop) (m:aY) (s':St) (K:Act->World->Prop):Prop :=
 ∀ a' w' S' m',bX base.Z w w'->(∀ b,S b->S' b)->(∀ b,S' b->S b\/¬ base.Z b)->aV base w' S' m' s'.m->dQ base.old w' S' m' a' s'->K a' w'
theorem acv {a:Act} {s:St} (hF:dQ base.old w S m a s) {C:bO} (hC:holds a C) {c x y:Operand} {v:AV} (h1:nZ s.tg C c x y=true) (h2:pW ae s.ts c x y=some v) :
  ∃ b u,a.eval c = .bool b/\(if b then a.eval x else a.eval y)=u/\Rel w S m u v:=by
 cases c with
 | tmp d =>
  simp only [nZ] at h1
  split at h1
  case h_2=>simp at h1
  rename_i p1 p2 p3
  have hrd:=hF.rel d (Cm p1 hC)
  simp only [pW] at h2
  rw [show bE s.ts (.tmp d)=nth s.ts d from rfl] at h2
  split at h2
  case h_2=>simp at h2
  rename_i bx hbx
  rw [hbx] at hrd
  have hcv:a.eval (.tmp d) = .bool bx:=by
   show a.tmps.getD d Go.undef=_
   generalize a.tmps.getD d Go.undef=vv at hrd
   cases hrd; rfl
  have hcv':a.tmps.getD d Go.undef = .bool bx:=hcv
  have armT:bx=true->∀ o,gq s.tg (sN C [(d,true)]) [o]=true->∀ t,o = .tmp t->Rel w S m (a.tmps.getD t Go.undef) (nth s.ts t):=fun e o hu t ht=>by
   subst ht
   refine hF.rel t (Cm (Gd hu t (by simp)) ?_)
   intro s' b' hm
   rw [yQ] at hm
   rcases List.mem_append.1 hm with hm | hm
   ·exact hC s' b' hm
   ·simp at hm; obtain ⟨rfl,rfl⟩:=hm; rw [hcv',e]
  have armF:bx=false->∀ o,gq s.tg (sN C [(d,false)]) [o]=true->∀ t,o = .tmp t->Rel w S m (a.tmps.getD t Go.undef) (nth s.ts t):=fun e o hu t ht=>by
   subst ht
   refine hF.rel t (Cm (Gd hu t (by simp)) ?_)
   intro s' b' hm
   rw [yQ] at hm
   rcases List.mem_append.1 hm with hm | hm
   ·exact hC s' b' hm
   ·simp at hm; obtain ⟨rfl,rfl⟩:=hm; rw [hcv',e]
  have orel:∀ o,(∀ t,o = .tmp t->Rel w S m (a.tmps.getD t Go.undef) (nth s.ts t))->Rel w S m (a.eval o) (bE s.ts o):=fun o ho=>ru o ho
  refine ⟨bx,_,hcv,rfl,?_⟩
  split at h2
  ·
   rename_i o
   split at h2
   case h_2=>simp at h2
   rename_i lg hby
   injection h2 with h2; subst h2
   cases bx with
   | true =>
    have:=orel _ (armT rfl _ p2)
    rw [hby] at this
    simpa [ae] using this
   | false=>exact .bool _ _
  ·rename_i o _
   split at h2
   case h_2=>simp at h2
   rename_i lg hby
   injection h2 with h2; subst h2
   cases bx with
   | true=>exact .bool _ _
   | false =>
    have:=orel _ (armF rfl _ p3)
    rw [hby] at this
    simpa [ae] using this
  ·simp at h2
 | _=>simp [nZ] at h1
theorem mo {s:St} {C:bO} {dst:Option Nat} {av:AV} {mem:Mem} {ks:List Bool} {inv:Option Nat} (hk:aG (lay s C dst av mem ks inv).ks):aG s.ks/\aG ks:=by
 unfold aT.lay at hk
 split at hk
 ·split at hk
  ·split at hk <;> (simp only at hk; rw [aG.cat] at hk; exact hk)
  ·simp [kE,aG] at hk
 ·split at hk <;> (simp only at hk; rw [aG.cat] at hk; exact hk)
theorem iY {s:St} (h:aG (kE s).ks):False:=by simp [kE,aG] at h
theorem Co (l:List Oper) (i:Nat):sO l i=l[i]?:=by
 induction l generalizing i with
 | nil=>rfl
 | cons a l ih=>cases i with
  | zero=>rfl
  | succ i=>simpa [sO] using ih i
theorem acw {ops:Array Oper} {o:Oper} {a:Act} {s:St} (hF:dQ base.old w S m a s) {C:bO} (hch:chainOf ops.toList s.tg o.guard=some C) :
  (Region.wanted o (yielded ops a.tmps)=true/\holds a C)\/(Region.wanted o (yielded ops a.tmps)=false/\∃ d b,(d,b)∈C/\a.tmps.getD d Go.undef≠.bool b):=by
 unfold Region.wanted
 cases hg:o.guard with
 | none =>
  rw [hg] at hch
  injection hch with hch; subst hch
  exact .inl ⟨rfl,fun s b h=>by simp at h⟩
 | some jb =>
  obtain ⟨j,b⟩:=jb
  rw [hg] at hch
  simp only [chainOf] at hch
  split at hch
  case h_2=>simp at hch
  rename_i d op ty pos af gu hd
  injection hch with hch; subst hch
  have hd':(ops[j]?).bind (·.dst)=some d:=by
   rw [Co,Array.getElem?_toList] at hd
   rw [hd]; rfl
  have hy:=K8 ops a j d b hd'
  by_cases e:a.tmps.getD d Go.undef = .bool b
  ·refine .inl ⟨by simp [hy.2 e],fun s' b' hm=>?_⟩
   rw [yQ] at hm
   rcases List.mem_append.1 hm with hm | hm
   ·rcases hF.skip d with h | h
    ·exact h s' b' hm
    ·rw [e] at h; simp [Go.undef] at h
   ·simp at hm; obtain ⟨rfl,rfl⟩:=hm; exact e
  ·refine .inr ⟨by simp; exact fun h=>e (hy.1 h),d,b,by rw [yQ]; simp,e⟩
theorem acx {p:bg} {call:dD} {all:List Oper} {s:St} {o:Oper} (h:aG (eH p T call all s o).ks):aG s.ks:=by
 unfold eH at h
 split at h
 ·exact (iY h).elim
 ·rename_i C _
  unfold BR at h
  split at h
  ·unfold qW at h
   split at h
   ·exact (mo h).1
   ·exact (iY h).elim
  ·unfold pX at h
   split at h
   ·exact (iY h).elim
   ·split at h
    ·unfold vM at h; exact (mo h).1
    ·unfold qV at h
     split at h
     ·exact (iY h).elim
     ·split at h
      ·exact (mo h).1
      ·split at h
       ·split at h
        ·exact (iY h).elim
        ·exact (iY h).elim
        ·exact (mo h).1
        ·exact (iY h).elim
       ·exact (iY h).elim
def nC (P:Program) (ops:Array Oper) (o:Oper) (a:Act) (w:World) (K:Act->World->Prop) (Q:Exit->Act->World->Prop):Prop :=
 if Region.wanted o (yielded ops a.tmps)=true then o.wp P a w K Q\/(o.asks P a w/\LetsOut Q) else K (a.put o.dst Go.undef) w
def Wanted (ops:Array Oper) (o:Oper) (a:Act) (C:bO):Prop :=
 (Region.wanted o (yielded ops a.tmps)=true/\holds a C)\/(Region.wanted o (yielded ops a.tmps)=false/\∃ d b,(d,b)∈C/\a.tmps.getD d Go.undef≠.bool b)
theorem acy {ops:Array Oper} {o:Oper} {a:Act} {s:St} (hM:aV base w S m s.m) (hF:dQ base.old w S m a s) {K:Act->World->Prop} {Q:Exit->Act->World->Prop} {C:bO} (hw:Wanted ops o a C)
  {c x y:Operand} (hop:o.op = .pick c x y):aG (qW ae s C o.dst c x y).ks->nA base w S m (qW ae s C o.dst c x y) K->nC P ops o a w K Q:=by
 unfold qW
 split
 ·rename_i v h1 h2
  intro hk hK
  unfold nC
  rcases hw with ⟨hw,hC⟩ | ⟨hw,d,b,hd,hne⟩
  ·rw [if_pos hw]
   left
   obtain ⟨b,u,hb,hu,hr⟩:=acv hF hC h1 h2
   have hexec:(execOp a.eval o).run P w = .ok (.value u) w:=by
    unfold execOp
    rw [hop]
    simp only [hb,asBool]
    subst hu
    cases b <;> rfl
   unfold Oper.wp
   rw [hexec]
   obtain ⟨f1,f2,_,_⟩:=hF.lay hC (Trans.refl base w S m) hr hk
   exact hK _ _ _ _ (bX.refl _ _) (fun _ h=>h) (fun _ h=>.inl h) (by rw [f2]; exact hM) f1
  ·rw [if_neg (by rw [hw]; simp)]
   obtain ⟨f1,f2,_⟩:=hF.pass hd hne hk
   exact hK _ _ _ _ (bX.refl _ _) (fun _ h=>h) (fun _ h=>.inl h) (by rw [f2]; exact hM) f1
 ·intro hk; exact (iY hk).elim
theorem acz (hT:bG P T) {call:dD} (hcall:Sound P call) {ops:Array Oper} {o:Oper} {a:Act} {s:St} (hM:aV base w S m s.m) (hF:dQ base.old w S m a s) {K:Act->World->Prop} {Q:Exit->Act->World->Prop} (hw:Wanted ops o a [])
  (hops:holds a []->∀ x∈o.op.operands.toList,Rel w S m (a.eval x) (bE s.ts x)):aG (vM ae T call s o.dst o.op).ks->nA base w S m (vM ae T call s o.dst o.op) K->nC P ops o a w K Q:=by
 have e:vM ae T call s o.dst o.op=lay s [] o.dst (dw ae T call s.ts s.m o.op).v (dw ae T call s.ts s.m o.op).m (dw ae T call s.ts s.m o.op).ks (dw ae T call s.ts s.m o.op).inv:=rfl
 rw [e]
 intro hk hK
 unfold nC
 rcases hw with ⟨hw,hC⟩ | ⟨hw,d,b,hd,hne⟩
 ·rw [if_pos hw]
  left
  refine Tw hT hcall hM (hops hC) (mo hk).2 ?_
  intro v w' S' m' ht hm hr
  obtain ⟨f1,f2,_,_⟩:=hF.lay hC ht hr hk
  exact hK _ _ _ _ ht.below ht.sub ht.up (by rw [f2]; exact hm) f1
 ·simp at hd
theorem acA (hT:bG P T) {call:dD} (hcall:Sound P call) {ops:Array Oper} {o:Oper} {a:Act} {s:St} (hM:aV base w S m s.m) (hF:dQ base.old w S m a s) {K:Act->World->Prop} {Q:Exit->Act->World->Prop} {C:bO} (hw:Wanted ops o a C)
  (hops:holds a C->∀ x∈o.op.operands.toList,Rel w S m (a.eval x) (bE s.ts x)):aG (qV ae T call s C o.dst o.op).ks->nA base w S m (qV ae T call s C o.dst o.op) K->nC P ops o a w K Q:=by
 unfold qV
 split
 ·intro hk; exact (iY hk).elim
 rename_i g hg
 have fin:∀ {av:AV},(dw ae T call s.ts s.m o.op).m=s.m->(dw ae T call s.ts s.m o.op).inv=none->av=(dw ae T call s.ts s.m o.op).v ->
   aG (lay s C o.dst av s.m (kD ae g (dw ae T call s.ts s.m o.op).ks) none).ks->nA base w S m (lay s C o.dst av s.m (kD ae g (dw ae T call s.ts s.m o.op).ks) none) K ->
   nC P ops o a w K Q:=fun {av} e1 e2 e3 hk hK=>by
  unfold nC
  rcases hw with ⟨hw,hC⟩ | ⟨hw,d,b,hd,hne⟩
  ·rw [if_pos hw]
   left
   have hgt:=ab4 hF hC hg
   subst hgt
   refine Tw hT hcall hM (hops hC) (Cn (mo hk).2) ?_
   intro v w' S' m' ht hm hr
   rw [e2] at ht
   rw [e1] at hm
   rw [<- e3] at hr
   obtain ⟨f1,f2,_,_⟩:=hF.lay hC ht hr hk
   exact hK _ _ _ _ ht.below ht.sub ht.up (by rw [f2]; exact hm) f1
  ·rw [if_neg (by rw [hw]; simp)]
   obtain ⟨f1,f2,_⟩:=hF.pass hd hne hk
   exact hK _ _ _ _ (bX.refl _ _) (fun _ h=>h) (fun _ h=>.inl h) (by rw [f2]; exact hM) f1
 split
 ·rename_i hq
  obtain ⟨e1,e2⟩:=TE (T:=T) ae call s.ts s.m o.op hq
  exact fin e1 e2 rfl
 ·split
  ·rename_i f args ats hop
   intro hk hK
   have hm:iJ ae call s.ts s.m o.op=true->(∀ b n,(dw ae T call s.ts s.m o.op).v≠.own b n)->(∀ b,(dw ae T call s.ts s.m o.op).v≠.bz b)->(dw ae T call s.ts s.m o.op).m=s.m/\(dw ae T call s.ts s.m o.op).inv=none:=fun hq h h'=>by
    rw [hop] at h h' hq ⊢
    exact TG ae call s.m _ _ (TC hq) h h'
   split at hk
   ·exact (iY hk).elim
   ·exact (iY hk).elim
   ·rename_i hq hv hv'
    have hm:=hm hq
    obtain ⟨e1,e2⟩:=hm (fun b n e=>hv b n e) (fun b e=>hv' b e)
    exact fin e1 e2 rfl hk (by
     revert hK
     rw [hq]
     generalize (dw ae T call s.ts s.m o.op).v=v at hv hv'
     cases v <;> first | exact fun h=>h | exact absurd rfl (hv _ _) | exact absurd rfl (hv' _))
   ·exact (iY hk).elim
  ·intro hk; exact (iY hk).elim
theorem TH (hT:bG P T) {call:dD} (hcall:Sound P call) {ops:Array Oper} {o:Oper} {a:Act} {s:St} (hM:aV base w S m s.m) (hF:dQ base.old w S m a s) {K:Act->World->Prop} {Q:Exit->Act->World->Prop} {C:bO} (hw:Wanted ops o a C) :
  aG (pX ae T call s C o.dst o.op).ks->nA base w S m (pX ae T call s C o.dst o.op) K->nC P ops o a w K Q:=by
 unfold pX
 split
 ·intro hk; exact (iY hk).elim
 rename_i hu
 have hops:holds a C->∀ x∈o.op.operands.toList,Rel w S m (a.eval x) (bE s.ts x):=fun hC x hx =>
  ru x fun t ht=>by subst ht; exact hF.rel t (Cm (Gd hu t hx) hC)
 split
 ·exact acz hT hcall hM hF hw hops
 ·exact acA hT hcall hM hF hw hops
theorem vZ (hT:bG P T) {call:dD} (hcall:Sound P call) {ops:Array Oper} {o:Oper} {i:Nat} (hi:ops[i]? = some o) {a:Act} {s:St} (hM:aV base w S m s.m) (hF:dQ base.old w S m a s) {K:Act->World->Prop} {Q:Exit->Act->World->Prop} :
  aG (eH ae T call ops.toList s o).ks->nA base w S m (eH ae T call ops.toList s o) K->wpOp P ops Q i K a w:=by
 unfold eH
 split
 ·intro hk; exact (iY hk).elim
 rename_i C hch
 have hw:Wanted ops o a C:=acw (ops:=ops) hF hch
 have e:wpOp P ops Q i K a w=nC P ops o a w K Q:=by unfold wpOp; simp only [hi]; rfl
 rw [e]
 unfold BR
 split
 ·rename_i c x y hop; exact acy hM hF hw hop
 ·exact TH hT hcall hM hF hw
theorem acB {p:bg} {call:dD} {all:List Oper}:∀ {l:List Oper} {s:St},aG (sP p T call all l s).ks->aG s.ks:=by
 intro l
 induction l with
 | nil=>intro s h; exact h
 | cons o l ih=>intro s h; exact acx (ih h)
theorem acC (hT:bG P T) {call:dD} (hcall:Sound P call) {ops:Array Oper} {Q:Exit->Act->World->Prop}:∀ (l:List Oper) (i:Nat) {w:World} {S:Nat->Prop} {m:aY} {a:Act} {s:St},(∀ k,l[k]? = ops[i+k]?) ->
  aV base w S m s.m->dQ base.old w S m a s->aG (sP ae T call ops.toList l s).ks->nA base w S m (sP ae T call ops.toList l s) (fun a w=>Q .normal a w)->wpOps P ops Q (List.range' i l.length) a w:=by
 intro l
 induction l with
 | nil=>intro i w S m a s _ hM hF _ hK; exact hK a w S m (bX.refl _ _) (fun _ h=>h) (fun _ h=>.inl h) hM hF
 | cons o l ih =>
  intro i w S m a s hl hM hF hk hK
  rw [List.length_cons,List.range'_succ,wpOps_cons]
  refine vZ hT hcall (o:=o) (by have:=hl 0; simpa using this.symm) hM hF (acB hk) ?_
  intro a' w' S' m' hb hS hU hM' hF'
  refine ih (i+1) (fun k=>by have:=hl (k+1); rw [List.getElem?_cons_succ] at this; rw [this]; congr 1; omega) hM' hF' hk ?_
  intro a'' w'' S'' m'' hb' hS' hU' hM'' hF''
  exact hK a'' w'' S'' m'' (hb.trans hb') (fun b h=>hS' b (hS b h)) (fun b h=>(hU' b h).elim (hU b) .inr) hM'' hF''
end Go.aT
namespace Go.aT
open Go Go.RowKit
variable {P:Program} {T:aX} {base:Env} {w:World} {S:Nat->Prop} {m:aY} {M:Mem}
theorem acD (ts:List AV) (tg:fM):au (iK ts tg)=au ts:=by
 induction tg with
 | nil=>rfl
 | cons x tg ih =>
  obtain ⟨s,C⟩:=x
  cases C with
  | nil=>exact ih
  | cons y C=>simp only [iK]; rw [lQ]; exact ih
theorem acE (ts:List AV) (tg:fM) (t:Nat):nth (iK ts tg) t = .undef\/(nth (iK ts tg) t=nth ts t/\bU tg t=[]):=by
 induction tg with
 | nil=>exact .inr ⟨rfl,rfl⟩
 | cons x tg ih =>
  obtain ⟨s,C⟩:=x
  cases C with
  | nil =>
   simp only [iK,bU]
   rcases ih with h | ⟨h1,h2⟩
   ·exact .inl h
   ·refine .inr ⟨h1,?_⟩
    split
    ·rfl
    ·exact h2
  | cons y C =>
   simp only [iK,bU]
   rw [jS]
   by_cases e:s=t
   ·subst e
    by_cases hl:s<au (iK ts tg)
    ·exact .inl (by rw [if_pos ⟨rfl,hl⟩])
    ·left; rw [if_neg (fun x=>hl x.2)]; exact kW _ _ (by omega)
   ·rw [if_neg (fun x=>e x.1),jT e]
    exact ih
def iP (old:Nat->Prop) (w:World) (S:Nat->Prop) (m:aY) (a:Act) (ts:List AV):Prop:=a.tmps.size=au ts/\Marks old w S a.defers/\∀ t,Rel w S m (a.tmps.getD t Go.undef) (nth ts t)
theorem iP.start {a:Act} {ts:List AV} (h:iP base.old w S m a ts) (M:Mem):dQ base.old w S m a ⟨ts,M,[],[]⟩:=⟨h.1,h.2.1,fun t _=>h.2.2 t,fun t=>.inl fun s b hm=>by simp [bU] at hm⟩
theorem dQ.iK {a:Act} {s:St} (h:dQ base.old w S m a s):iP base.old w S m a (aT.iK s.ts s.tg):=by
 refine ⟨by rw [acD]; exact h.size,h.defers,fun t=>?_⟩
 rcases acE s.ts s.tg t with e | ⟨e,ht⟩
 ·rw [e]; exact .undef _ _
 ·rw [e]; exact h.rel t (by rw [ht]; intro s b hm; simp at hm)
structure MA (base:Env) (w:World) (S:Nat->Prop) (m:aY) (A:AS):Prop where
 rel:aV base w S m A.m
 pins:∀ i l,base.pin i=some l->i<A.np
def mq (base:Env) (w:World) (S:Nat->Prop) (Q:Exit->AS->Prop) (e:Exit) (a':Act) (w':World):Prop :=
 ∃ (A':AS) (S':Nat->Prop) (m':aY),Q e A'/\bX base.Z w w'/\(∀ b,S b->S' b)/\(∀ b,S' b->S b\/¬ base.Z b)/\MA base w' S' m' A'/\iP base.old w' S' m' a' A'.ts
structure bL (P:Program) (c:Code) (Q:Exit->AS->Prop) (A:AS):Prop where
 jI:∀ base w S m a,MA base w S m A->iP base.old w S m a A.ts->c.wp P (mq base w S Q) a w
theorem mq.step {w':World} {S':Nat->Prop} {Q:Exit->AS->Prop} (hb:bX base.Z w w') (hS:∀ b,S b->S' b) (hU:∀ b,S' b->S b\/¬ base.Z b) {e:Exit} {a'':Act} {w'':World} (h:mq base w' S' Q e a'' w''):mq base w S Q e a'' w'':=by
 obtain ⟨A',S'',m',h1,h2,h3,h4,h5,h6⟩:=h
 exact ⟨A',S'',m',h1,hb.trans h2,fun b h=>h3 b (hS b h),fun b h=>(h4 b h).elim (hU b) .inr,h5,h6⟩
theorem bL.mono {c:Code} {Q Q':Exit->AS->Prop} {A:AS} (h:bL P c Q A) (hq:∀ e A,Q e A->Q' e A):bL P c Q' A :=
 ⟨fun base w S m a hM hA=>Code.wp_mono (fun e a w ⟨A',S',m',h1,h2⟩=>⟨A',S',m',hq _ _ h1,h2⟩) (h.jI base w S m a hM hA)⟩
theorem mq.here {Q:Exit->AS->Prop} {A:AS} {e:Exit} {a:Act} (hq:Q e A) (hM:MA base w S m A) (hA:iP base.old w S m a A.ts):mq base w S Q e a w :=
 ⟨A,S,m,hq,bX.refl _ _,fun _ h=>h,fun _ h=>.inl h,hM,hA⟩
theorem bL.skip {Q:Exit->AS->Prop} {A:AS} (h:Q .normal A):bL P .skip Q A:=⟨fun _ _ _ _ _ hM hA=>wp_skip (.here h hM hA)⟩
theorem bL.exit {Q:Exit->AS->Prop} {A:AS} {id:Nat} (h:Q (.exit id) A):bL P (.exit id) Q A:=⟨fun _ _ _ _ _ hM hA=>wp_exit (.here h hM hA)⟩
theorem bL.ret {Q:Exit->AS->Prop} {A:AS} (h:Q .ret A):bL P .ret Q A:=⟨fun _ _ _ _ _ hM hA=>wp_ret (.here h hM hA)⟩
def Cq (next:AS->Prop) (Q:Exit->AS->Prop):Exit->AS->Prop
 | .normal,A=>next A
 | e,A=>Q e A
theorem bL.seq {x y:Code} {Q:Exit->AS->Prop} {A:AS} (h:bL P x (Cq (bL P y Q) Q) A):bL P (.seq x y) Q A:=by
 refine ⟨fun base w S m a hM hA=>wp_seq (Code.wp_mono ?_ (h.jI base w S m a hM hA))⟩
 rintro e a' w' ⟨A',S',m',h1,h2,h3,h4,h5,h6⟩
 cases e with
 | normal=>exact Code.wp_mono (fun e a w h=>mq.step h2 h3 h4 h) (bL.jI h1 base w' S' m' a' h5 h6)
 | _=>exact ⟨A',S',m',h1,h2,h3,h4,h5,h6⟩
theorem bL.cond {c:Operand} {x y:Code} {Q:Exit->AS->Prop} {A:AS} {b:Bool} (hc:bE A.ts c = .bool b) (ht:b=true->bL P x Q A) (hf:b=false->bL P y Q A):bL P (.cond c x y) Q A:=by
 refine ⟨fun base w S m a hM hA=>?_⟩
 have hr:=ru (a:=a) (ts:=A.ts) (m:=m) (w:=w) (S:=S) c (fun t _=>hA.2.2 t)
 rw [hc] at hr
 have e:a.eval c = .bool b:=by generalize a.eval c=v at hr; cases hr; rfl
 exact wp_cond_split e (fun h=>(ht h).jI base w S m a hM hA) (fun h=>(hf h).jI base w S m a hM hA)
theorem bL.acF {c:Operand} {x y:Code} {Q:Exit->AS->Prop} {A:AS} {n:Nat} (hc:bE A.ts c = .eG n) (ht:n=0->bL P x Q A) (hf:bL P y Q A):bL P (.cond c x y) Q A:=by
 refine ⟨fun base w S m a hM hA=>?_⟩
 have hr:=ru (a:=a) (ts:=A.ts) (m:=m) (w:=w) (S:=S) c (fun t _=>hA.2.2 t)
 rw [hc] at hr
 obtain ⟨b,e,hb⟩:∃ b,a.eval c = .bool b/\(b=true->n=0):=by generalize a.eval c=v at hr; cases hr; exact ⟨_,rfl,by assumption⟩
 exact wp_cond_split e (fun h=>(ht (hb h)).jI base w S m a hM hA) (fun _=>hf.jI base w S m a hM hA)
def TI (id:Nat) (Q:Exit->AS->Prop):Exit->AS->Prop
 | .exit id',A=>if id'=id then Q .normal A else Q (.exit id') A
 | e,A=>Q e A
theorem bL.block {id:Nat} {c:Code} {Q:Exit->AS->Prop} {A:AS} (h:bL P c (TI id Q) A):bL P (.block id c) Q A:=by
 refine ⟨fun base w S m a hM hA=>wp_block (Code.wp_mono ?_ (h.jI base w S m a hM hA))⟩
 rintro e a' w' ⟨A',S',m',h1,h2⟩
 cases e with
 | exit id' =>
  simp only [TI] at h1
  simp only [Exit.inBlock]
  split
  ·rename_i hid; rw [if_pos hid] at h1; exact ⟨A',S',m',h1,h2⟩
  ·rename_i hid; rw [if_neg hid] at h1; exact ⟨A',S',m',h1,h2⟩
 | _=>exact ⟨A',S',m',h1,h2⟩
theorem exists_least {p:Nat->Prop} (h:∃ n,p n):∃ n,p n/\∀ k,p k->n<=k:=by
 obtain ⟨n,hn⟩:=h
 induction n using Nat.strongRecOn with
 | _ n ih =>
  by_cases hk:∃ k,k<n/\p k
  ·obtain ⟨k,hk,hp⟩:=hk; exact ih k hk hp
  ·exact ⟨n,hn,fun k hp=>Nat.le_of_not_lt fun hlt=>hk ⟨k,hlt,hp⟩⟩
open Classical in
theorem acG {c:Code} {Q:Exit->Act->World->Prop} {a:Act} {w:World} (Inv:Nat->Act->World->Prop) (n:Nat) (h₀:Inv n a w)
  (round:∀ n a w,Inv n a w->c.wp P (Exit.then (fun a' w'=>∃ n',n'<n/\Inv n' a' w') Q) a w):(Code.loop c).wp P Q a w:=by
 refine wp_loop (fun a w=>∃ n,Inv n a w) (fun a w=>if h:∃ n,Inv n a w then Classical.choose (exists_least h) else 0) ⟨n,h₀⟩ fun a w hI=>?_
 have hs:=Classical.choose_spec (exists_least hI)
 refine Code.wp_mono ?_ (round _ a w hs.1)
 intro e a' w' h
 cases e with
 | normal =>
  obtain ⟨n',hlt,hI'⟩:=h
  refine ⟨⟨n',hI'⟩,?_⟩
  rw [dif_pos hI,dif_pos ⟨n',hI'⟩]
  exact Nat.lt_of_le_of_lt ((Classical.choose_spec (exists_least ⟨n',hI'⟩)).2 n' hI') hlt
 | _=>exact h
theorem bL.loop {c:Code} {Q:Exit->AS->Prop} {A:AS} (I:Nat->AS->Prop) (n:Nat) (h₀:I n A) (round:∀ n A,I n A->bL P c (Cq (fun A'=>∃ n',n'<n/\I n' A') Q) A):bL P (.loop c) Q A:=by
 refine ⟨fun base w S m a hM hA=>?_⟩
 let Inv:Nat->Act->World->Prop:=fun n a' w'=>∃ (A':AS) (S':Nat->Prop) (m':aY),I n A'/\bX base.Z w w'/\(∀ b,S b->S' b)/\(∀ b,S' b->S b\/¬ base.Z b)/\MA base w' S' m' A'/\iP base.old w' S' m' a' A'.ts
 refine acG Inv n ⟨A,S,m,h₀,bX.refl _ _,fun _ h=>h,fun _ h=>.inl h,hM,hA⟩ ?_
 rintro n a' w' ⟨A',S',m',h1,h2,h3,h4,h5,h6⟩
 refine Code.wp_mono ?_ ((round n A' h1).jI base w' S' m' a' h5 h6)
 rintro e a'' w'' ⟨A'',S'',m'',k1,k2,k3,k4,k5,k6⟩
 cases e with
 | normal =>
  obtain ⟨n',hn,hI⟩:=k1
  exact ⟨n',hn,A'',S'',m'',hI,h2.trans k2,fun b h=>k3 b (h3 b h),fun b h=>(k4 b h).elim (h4 b) .inr,k5,k6⟩
 | _=>exact mq.step h2 h3 h4 ⟨A'',S'',m'',k1,k2,k3,k4,k5,k6⟩
theorem bL.region (hT:bG P T) {call:dD} (hcall:Sound P call) {id:Nat} {ops:Array Oper} {Q:Exit->AS->Prop} {A:AS} {s:St} (hs:sP ae T call ops.toList ops.toList ⟨A.ts,A.m,[],[]⟩=s)
  (hk:aG s.ks) (hq:Q .normal ⟨iK s.ts s.tg,s.m,A.np⟩):bL P (.region id ops false) Q A:=by
 subst hs
 refine ⟨fun base w S m a hM hA=>wp_region ?_⟩
 have e:List.range ops.size=List.range' 0 ops.toList.length:=by rw [List.range_eq_range']; simp
 rw [e]
 refine acC hT hcall ops.toList 0 (fun k=>by simp) hM.rel (hA.start A.m) hk ?_
 intro a' w' S' m' hb hS hU hM' hF'
 exact ⟨_,S',m',hq,hb,hS,hU,⟨hM',hM.pins⟩,hF'.iK⟩
structure Shut (Z:Nat->Prop) (w w':World):Prop where
 os:w'.os=w.os
 tape:w'.tape=w.tape
 output:w'.output=w.output
 size:w'.heap.size=w.heap.size
 block:∀ b,w'.heap[b]? = w.heap[b]?\/(¬ Z b/\(∃ x,w.heap[b]? = some (.deferred x))/\∃ x,w'.heap[b]? = some (.deferred x))
theorem Shut.refl (Z:Nat->Prop) (w:World):Shut Z w w:=⟨rfl,rfl,rfl,rfl,fun _=>.inl rfl⟩
theorem Shut.trans {Z:Nat->Prop} {w1 w2 w3:World} (h:Shut Z w1 w2) (k:Shut Z w2 w3):Shut Z w1 w3:=by
 refine ⟨k.os.trans h.os,k.tape.trans h.tape,k.output.trans h.output,k.size.trans h.size,fun b=>?_⟩
 rcases h.block b with h1 | ⟨h1,h2,h3⟩ <;> rcases k.block b with k1 | ⟨k1,k2,k3⟩
 ·exact .inl (k1.trans h1)
 ·exact .inr ⟨k1,by rw [<- h1]; exact k2,k3⟩
 ·exact .inr ⟨h1,h2,by rw [k1]; exact h3⟩
 ·exact .inr ⟨h1,h2,k3⟩
theorem Shut.K9 {Z:Nat->Prop} {w1 w2:World} (h:Shut Z w1 w2):bX Z w1 w2:=⟨h.os,h.tape,h.output,Nat.le_of_eq h.size.symm,fun b hb=>(h.block b).resolve_right fun h=>h.1 hb⟩
theorem Shut.same {Z:Nat->Prop} {w1 w2:World} (h:Shut Z w1 w2) {b:Nat} {o:Obj} (ho:w1.heap[b]? = some o) (hno:∀ x,o≠.deferred x):w2.heap[b]? = some o:=by
 rcases h.block b with h1 | ⟨_,⟨x,h2⟩,_⟩
 ·rw [h1]; exact ho
 ·rw [ho] at h2; injection h2 with h2; exact absurd h2 (hno x)
theorem Shut.cell {Z:Nat->Prop} {w1 w2:World} (h:Shut Z w1 w2) {b o:Nat} {v:Value} (hc:w1.cell? ⟨b,o,none⟩=some v):w2.cell? ⟨b,o,none⟩=some v:=by
 rcases h.block b with h1 | ⟨_,⟨x,h2⟩,_⟩
 ·rw [<- hc]; exact World.cell?_of_block h1
 ·simp [World.cell?,h2] at hc
theorem Rel.shut {Z:Nat->Prop} {w1 w2:World} {v:Value} {a:AV} (h:Rel w1 S m v a) (hs:Shut Z w1 w2):Rel w2 S m v a:=h.Sa (fun _ h=>h) (fun _ _ _ _ hc=>hs.cell hc) (fun _ _ _ _ hg=>hs.same hg (fun _ e=>by cases e)) m (fun _ _ h=>h)
theorem bZ.shut {Z:Nat->Prop} {w1 w2:World} {l:Option Loc} {B:bT} (h:bZ w1 S m l B) (hs:Shut Z w1 w2):bZ w2 S m l B:=by
 cases B with
 | dead=>trivial
 | cells e cs =>
  cases l with
  | none=>exact h
  | some l=>obtain ⟨vs,h1,h2,h3,h4⟩:=h; exact ⟨vs,hs.same h1 (fun _ e=>by cases e),h2,h3,fun i hi=>(h4 i hi).shut hs⟩
 | rows e sz n c =>
  cases l with
  | none=>exact h
  | some l=>obtain ⟨q1,q2,q3,q4,vs,h1,h2,h3⟩:=h; exact ⟨q1,q2,q3,q4,vs,hs.same h1 (fun _ e=>by cases e),h2,fun i hi j hj=>⟨(h3 i hi j hj).1,(h3 i hi j hj).2.shut hs⟩⟩
 | bC e t x =>
  cases l with
  | none=>exact h
  | some l=>obtain ⟨q1,q2,q3,q4,vs,h1,h2,h3⟩:=h; exact ⟨q1,q2,q3,q4,vs,hs.same h1 (fun _ e=>by cases e),h2,fun i hi j hj=>⟨(h3 i hi j hj).1,(h3 i hi j hj).2.shut hs⟩⟩
 | dV e t x =>
  cases l with
  | none=>exact h
  | some l=>obtain ⟨q1,q2,q3,q4,vs,fz,h1,h2,h3⟩:=h; exact ⟨q1,q2,q3,q4,vs,fz,hs.same h1 (fun _ e=>by cases e),h2,fun i hi j hj=>⟨(h3 i hi j hj).1,(h3 i hi j hj).2.shut hs⟩⟩
 | arr e t x =>
  cases l with
  | none=>exact h
  | some l=>obtain ⟨vs,h1,h2,h3⟩:=h; exact ⟨vs,hs.same h1 (fun _ e=>by cases e),h2,fun i hi=>⟨(h3 i hi).1,(h3 i hi).2.shut hs⟩⟩
 | map t u x =>
  cases l with
  | none=>exact h
  | some l=>obtain ⟨es,ck,h1,h2,h3,h4⟩:=h; exact ⟨es,ck,hs.same h1 (fun _ e=>by cases e),h2,fun i hi=>⟨(h3 i hi).1.shut hs,(h3 i hi).2.shut hs⟩,h4⟩
 | dW s pos =>
  cases l with
  | none=>exact h
  | some l=>exact ⟨hs.same h.1 (fun _ e=>by cases e),h.2⟩
 | dz x y =>
  cases l with
  | none=>exact h
  | some l =>
   obtain ⟨h1,h2,⟨es,ck,h3,h4,h5,h6⟩,h7⟩:=h
   refine ⟨h1,h2,⟨es,ck,hs.same h3 (fun _ e=>by cases e),h4,h5,h6⟩,fun j g hj=>?_⟩
   obtain ⟨es,ck,k1,k2,k3,k4⟩:=h7 j g hj
   exact ⟨es,ck,hs.same k1 (fun _ e=>by cases e),k2,fun i hi=>⟨(k3 i hi).1.shut hs,(k3 i hi).2.shut hs⟩,k4⟩
theorem aV.shut {w1 w2:World} (h:aV base w1 S m M) (hs:Shut base.Z w1 w2):aV base w2 S m M :=
 ⟨h.len,fun b hb=>hs.size▸h.sb b hb,fun i l hi=>(h.bk i l hi).shut hs,fun i l hi=>have q:=h.lt i l hi; ⟨q.1,hs.size▸q.2.1,q.2.2⟩,h.inj,fun b hb=>hs.size▸h.fu b hb,
  h.gl fun k hk=>hs.K9.block k hk,h.pin,fun i l hi=>hs.size▸h.ext i l hi⟩
def acH (P:Program) (fn:Func) (R:Ending->World->Prop) (old:Nat->Prop):Exit->Act->World->Prop
 | .normal,a,w=>∃ S,Marks old w S a.defers/\∀ w',Shut old w w'->∃ v,(results fn a.tmps).run P w' = .ok v w'/\R (.returned v) w'
 | .ret,a,w=>∃ S,Marks old w S a.defers/\∀ w',Shut old w w'->∃ v,(results fn a.tmps).run P w' = .ok v w'/\R (.returned v) w'
 | _,_,_=>False
theorem TJ {old:Nat->Prop} {fn:Func} {tmps:Array Value} {R:Ending->World->Prop}:∀ (l:List Deferred) (w:World),Marks old w S l ->
  (∀ w',Shut old w w'->∃ v,(results fn tmps).run P w' = .ok v w'/\R (.returned v) w')->LeavesInM Fence.wide 0 P fn tmps R l .returning w:=by
 intro l
 induction l with
 | nil=>intro w _ h; exact h w (Shut.refl _ _)
 | cons d l ih =>
  intro w hm h
  obtain ⟨D,hd,h1,h2,h3⟩:=hm.2 d (by simp)
  have hlt:D<w.heap.size:=(Array.getElem?_eq_some_iff.1 h3).1
  have hsh:Shut old w (w.putObj D (.deferred none)):=by
   refine ⟨rfl,rfl,rfl,by simp,fun b=>?_⟩
   by_cases e:D=b
   ·subst e; exact .inr ⟨h2,⟨_,h3⟩,⟨_,World.putObj_heap_same hlt⟩⟩
   ·exact .inl (World.putObj_heap_other (fun x=>e x.symm))
  refine ⟨by simp,.inl ⟨D,_,by rw [hd],run_takeDeferred h3,ih _ ⟨(List.nodup_cons.1 hm.1).2,fun d' hd'=>?_⟩ fun w' hw'=>h w' (hsh.trans hw')⟩⟩
  obtain ⟨D',e1,k1,k2,k3⟩:=hm.2 d' (by simp [hd'])
  refine ⟨D',e1,k1,k2,?_⟩
  rw [World.putObj_heap_other]
  ·exact k3
  ·intro e; subst e; rw [<- hd] at e1; subst e1; exact (List.nodup_cons.1 hm.1).1 hd'
theorem TK {old:Nat->Prop} {f:FuncId} {fn:Func} {c:Code} {args:Array Value} {R:Ending->World->Prop} (hf:P.funcs[f]? = some fn) (hb:fn.body=some c)
  (h:c.wp P (acH P fn R old) { tmps:=args++Array.replicate (fn.ntmps-args.size) undef,defers:=[] } w):Calls P f args w R:=by
 refine (callsIn_wide (n:=0)).1 (callsIn_of_wp_marks hf hb trivial (wpIn_mono ((wpIn_wide (n:=0)).2 h) ?_))
 intro e a' w' hp
 cases e with
 | normal=>obtain ⟨S,h1,h2⟩:=hp; exact TJ _ _ h1 h2
 | ret=>obtain ⟨S,h1,h2⟩:=hp; exact TJ _ _ h1 h2
 | exit id=>exact hp.elim
 | goto l=>exact hp.elim
 | panic ch=>exact hp.elim
 | outgrown=>exact hp.elim
theorem Le.slice {sz n:Nat} {f:Bool} {c d:Nat->Nat->AV} (h:∀ i,i<n->∀ j,j<sz->c i j=d i j):Le (.slice sz n f c) (.slice sz n false d):=by
 intro w S m v hr
 cases hr with
 | slice _ b o _ _ cap _ _ g hs hn hcap hf hc hr=>exact .slice _ _ _ _ _ _ _ _ g hs hn hcap (fun h=>by simp at h) hc (fun i hi j hj=>by rw [<- h i hi j hj]; exact hr i hi j hj)
 | dL _ a cap _ _ _ hcap hf=>exact .dL _ _ _ _ _ _ hcap (fun h=>by simp at h)
theorem Le.bR (sz:Nat) (f:Bool) (c:Nat->Nat->AV):Le .bR (.slice sz 0 f c):=by
 intro w S m v hr; cases hr; exact .dL _ _ _ _ _ _ (by unfold maxLen; omega) (fun _=>rfl)
theorem Le.bN {l k:List AV} (hl:au l=au k) (h:∀ i,i<au k->Le (nth l i) (nth k i)):Le (.bN l) (.bN k):=by
 intro w S m v hr
 cases hr with
 | bN _ vs _ hlen hr=>exact .bN _ _ _ (hlen.trans hl) fun i hi=>h i hi _ _ _ _ (hr i (by omega))
theorem Le.agg {l k:List AV} (hl:au l=au k) (h:∀ i,i<au k->Le (nth l i) (nth k i)):Le (.agg l) (.agg k):=by
 intro w S m v hr
 cases hr with
 | agg _ vs _ hlen h1 hr=>exact .agg _ _ _ (hlen.trans hl) (fun i hi=>h1 i (by omega)) fun i hi=>h i hi _ _ _ _ (hr i (by omega))
def iQ (T:aX) (A:AS):ResultVar->R
 | .tmp t=>val A.m (nth A.ts t)
 | .cell a t=>pF T A.m t (nth A.ts a)
def oF (T:aX) (A:AS):List ResultVar->List AV
 | []=>[]
 | r::l=>borrow A.m (iQ T A r).v::oF T A l
def mr (T:aX) (A:AS):List ResultVar->List Bool
 | []=>[]
 | r::l=>jQ (iQ T A r).ks (mr T A l)
def TL (T:aX) (A:AS):List ResultVar->AV
 | [r]=>borrow A.m (iQ T A r).v
 | rs=>.bN (oF T A rs)
def wh (T:aX) (rs:List ResultVar) (A:AS):CR->Prop
 | .val v=>aG (mr T A rs)/\Le (TL T A rs) v
 | .fresh e sz n c=>aG (mr T A rs)/\((n=0/\∃ r1,rs=[r1]/\((iQ T A r1).v = .bR\/(iQ T A r1).v = .emp))\/∃ r1 b k c',rs=[r1]/\(iQ T A r1).v = .own b n/\blk A.m b = .rows e sz k c'/\n<=k/\∀ i,i<n->∀ j,j<sz->c' i j=c i j)
 | .nY e u l=>aG (mr T A rs)/\((l.length=0/\∃ r1,rs=[r1]/\((iQ T A r1).v = .bR\/(iQ T A r1).v = .emp))\/(∃ r1 b,rs=[r1]/\(iQ T A r1).v = .bz b/\blk A.m b = .bC e u l)\/∃ r1 b n k,rs=[r1]/\(iQ T A r1).v = .own b n/\blk A.m b = .bC e u k/\l=k.take n)
 | .pU _ _ _=>aG (mr T A rs)/\False
def TM (T:aX) (rs:List ResultVar) (r:CR):Exit->AS->Prop
 | .ret,A=>wh T rs A r
 | .normal,A=>wh T rs A r
 | _,_=>False
theorem wh.ks {rs:List ResultVar} {A:AS} {r:CR} (h:wh T rs A r):aG (mr T A rs):=by cases r <;> exact h.1
theorem acI (hT:bG P T) {A:AS} {a:Act} (hM:aV base w S m A.m) (hA:iP base.old w S m a A.ts) (r:ResultVar) (hk:aG (iQ T A r).ks) :
  ∃ v,(match r with | .tmp t=>(pure (a.tmps.getD t Go.undef):Sem Value) | .cell p t=>do loadVar t (<- asAddr (a.tmps.getD p Go.undef))).run P w = .ok v w/\Rel w S m v (iQ T A r).v:=by
 cases r with
 | tmp t=>exact ⟨_,rfl,hA.2.2 t⟩
 | cell p t =>
  simp only [iQ] at hk ⊢
  have hr:=hA.2.2 p
  obtain ⟨v,h1,h4⟩:=SC (P:=P) hT hM t hr hk
  have hpt:∃ ad,a.tmps.getD p Go.undef = .pointer (some ad):=by
   generalize a.tmps.getD p Go.undef=u at hr h1
   cases u with
   | pointer o =>
    cases o with
    | some ad=>exact ⟨ad,rfl⟩
    | none=>simp [Instr.loadAt,Instr.sureAddr] at h1
   | _=>simp [Instr.loadAt,Instr.sureAddr] at h1
  obtain ⟨ad,had⟩:=hpt
  rw [had] at h1 ⊢
  exact ⟨v,h1,h4⟩
theorem TN (hT:bG P T) {A:AS} {a:Act} (hM:aV base w S m A.m) (hA:iP base.old w S m a A.ts):∀ (rs:List ResultVar),aG (mr T A rs) ->
  ∃ vs:List Value,(rs.mapM (m:=Sem) fun | .tmp t=>pure (a.tmps.getD t Go.undef) | .cell p t=>do loadVar t (<- asAddr (a.tmps.getD p Go.undef))).run P w = .ok vs w/\vs.length=rs.length /\
   ∀ i (h:i<rs.length) (h':i<vs.length),Rel w S m vs[i] (iQ T A rs[i]).v:=by
 intro rs
 induction rs with
 | nil=>intro _; exact ⟨[],rfl,rfl,fun i h=>by simp at h⟩
 | cons r rs ih =>
  intro hk
  simp only [mr] at hk
  rw [aG.cat] at hk
  obtain ⟨v,h1,h2⟩:=acI hT hM hA r hk.1
  obtain ⟨vs,k1,k2,k3⟩:=ih hk.2
  refine ⟨v::vs,?_,by simp [k2],fun i h h'=>?_⟩
  ·simp only [List.mapM_cons,Sem.run_bind]
   rw [h1]
   simp only [Result.andThen_ok,Sem.run_bind,k1,Sem.run_pure]
  ·cases i with
   | zero=>exact h2
   | succ i=>simpa using k3 i (by simpa using h) (by simpa using h')
theorem TP (A:AS) (rs:List ResultVar):au (oF T A rs)=rs.length:=by induction rs with | nil=>rfl | cons r rs ih=>simp [oF,au,ih]
theorem acJ (A:AS) (rs:List ResultVar) (i:Nat) (hi:i<rs.length):nth (oF T A rs) i=borrow A.m (iQ T A rs[i]).v:=by
 induction rs generalizing i with
 | nil=>simp at hi
 | cons r rs ih=>cases i with
  | zero=>rfl
  | succ i=>simpa [oF,nth] using ih i (by simpa using hi)
def und:Nat->List AV
 | 0=>[]
 | n+1=>.undef::und n
theorem TQ (n:Nat):au (und n)=n:=by induction n with | zero=>rfl | succ n ih=>simp [und,au,ih]
theorem TR (n i:Nat):nth (und n) i = .undef:=by
 induction n generalizing i with
 | zero=>rfl
 | succ n ih=>cases i with
  | zero=>rfl
  | succ i=>exact ih i
def acK (args:List AV):Prop:=∃ (w:World) (S:Nat->Prop) (vs:Array Value),lh w S [] vs args
theorem Gg {w':World} {S':Nat->Prop} (hU:∀ b,S' b->S b\/w.heap.size<=b) (hsb:∀ b,S' b->b<w'.heap.size):∀ b,S' b->oD w w' S b:=fun b h=>(hU b h).elim .inl fun h'=>.inr ⟨h',hsb b h⟩
theorem iX.of {f : FuncId} {fn : Func} {c : Code} (hT : bG P T) (hf : P.funcs[f]? = some fn) (hb : fn.body = some c) (hname : (fn.name == "runtime.NumGoroutine") = false) {args : List AV} {r : CR}
  (h:acK args->bL P c (TM T fn.results.toList r) ⟨bK args (und (fn.ntmps-au args)),[],0⟩):iX P f args r:=by
 intro w S vs hgl hsb hargs
 refine .inl ⟨?_,?_⟩
 ·have hn : ¬ fn.name = "runtime.NumGoroutine" := by simpa using hname
  simp [callFunc,hf,hb,hn]
 refine TK (old:=fun b=>b<w.heap.size) hf hb ?_
 have hM:aV ⟨fun b=>b<w.heap.size,fun _=>none,hgl.lt,fun b=>b<w.heap.size,fun _ h=>h⟩ w S [] []:=⟨rfl,hsb,fun i l h=>by simp at h,fun i l h=>by simp at h,fun i j l l' h=>by simp at h,fun _ h=>h,hgl,fun i l h=>by simp at h,fun i l h=>by simp at h⟩
 have hA:iP (fun b=>b<w.heap.size) w S [] { tmps:=vs++Array.replicate (fn.ntmps-vs.size) Go.undef,defers:=[] } (bK args (und (fn.ntmps-au args))):=by
  refine ⟨by rw [kY,TQ]; simp [hargs.1],Marks.nil _ _ _,fun t=>?_⟩
  rw [lS]
  simp only [Array.getD_eq_getD_getElem?]
  split
  ·rename_i hlt
   rw [Array.getElem?_append_left (by rw [hargs.1]; exact hlt)]
   have:=hargs.2 t hlt
   simpa using this
  ·rw [TR]; exact .undef _ _
 refine Code.wp_mono ?_ ((h ⟨w,S,vs,hargs⟩).jI _ w S [] _ ⟨hM,fun i l h=>by simp at h⟩ hA)
 rintro e a' w₁ ⟨A',S',m',hq,hbel₁,hS,hU₀,hM₁,hA₁⟩
 have hU:∀ b,S' b->S b\/w.heap.size<=b:=fun b h=>(hU₀ b h).imp id (fun h=>Nat.le_of_not_lt h)
 have fin:wh T fn.results.toList A' r->∃ S₀,Marks (fun b=>b<w.heap.size) w₁ S₀ a'.defers/\∀ w',Shut (fun b=>b<w.heap.size) w₁ w' ->
   ∃ v,(results fn a'.tmps).run P w' = .ok v w'/\yP w S r (.returned v) w':=by
  intro hr
  have hk:=hr.ks
  clear h hq
  refine ⟨S',hA₁.2.1,fun w' hsh=>?_⟩
  have hM':=hM₁.rel.shut hsh
  have hbel:=(hbel₁.trans hsh.K9).below
  have hA':iP (fun b=>b<w.heap.size) w' S' m' { a' with defers:=[] } A'.ts:=⟨hA₁.1,Marks.nil _ _ _,fun t=>(hA₁.2.2 t).shut hsh⟩
  obtain ⟨us,k1,k2,k3⟩:=TN hT hM' hA' fn.results.toList hk
  have hrun:(results fn a'.tmps).run P w' = .ok (if h:us.toArray.size=1 then us.toArray[0] else .tuple us.toArray) w':=by
   unfold results
   rw [Array.mapM_eq_mapM_toList]
   simp only [Sem.run_bind,Sem.run_map,Result.andThen_ok,Sem.run_pure,Result.andThen]
   erw [k1]
  have hall:∀ {v:Value} {a:AV},Rel w' (kH ⟨fun b=>b<w.heap.size,fun _=>none,hgl.lt,fun b=>b<w.heap.size,fun _ h=>h⟩ S' w') [] v a->Rel w' (oD w w' S) [] v a:=fun {v a} hr =>
   hr.mono (fun b hb=>by
    rcases hb.1 with h' | h'
    ·exact Gg hU hM'.sb b h'
    ·exact .inr ⟨Nat.le_of_not_lt h',hb.2⟩) (fun _ _=>rfl) _ (fun _ _ h=>h)
  have hbor:∀ i (h:i<fn.results.toList.length) (h':i<us.length),Rel w' (oD w w' S) [] us[i] (borrow A'.m (iQ T A' fn.results.toList[i]).v):=fun i h h'=>hall (KZ hM' (k3 i h h'))
  generalize hrs:fn.results.toList=rs at *
  refine ⟨_,hrun,_,rfl,hbel,?_⟩
  cases r with
  | val v =>
   refine hr.2 _ _ _ _ ?_
   match rs,us,k2,hbor with
   | [r1],[u],_,hbor=>exact hbor 0 (by simp) (by simp)
   | [],[],_,_=>exact .bN _ _ _ rfl fun i hi=>absurd hi (Nat.not_lt_zero i)
   | r1::r2::rs,u1::u2::us,k2,hbor =>
    have hne:¬ (u1::u2::us).toArray.size=1:=by simp
    rw [dif_neg hne]
    refine .bN _ _ _ (by show _=au (oF T A' (r1::r2::rs)); rw [TP]; simpa using k2) fun i hi=>?_
    change i<au (oF T A' (r1::r2::rs)) at hi
    rw [TP] at hi
    rw [acJ _ _ _ hi]
    have hi':i<(u1::u2::us).length:=by rw [k2]; exact hi
    have:=hbor i hi hi'
    have e:(u1::u2::us).toArray.getD i Go.undef=(u1::u2::us)[i]:=by rw [Array.getD_eq_getD_getElem?,List.getElem?_toArray,List.getElem?_eq_getElem hi']; rfl
    rw [e]; exact this
  | fresh e sz n c =>
   obtain ⟨_,hr⟩:=hr
   rcases hr with ⟨rfl,r1,rfl,hnil⟩ | ⟨r1,b,k',c',e1,e2,e3,e4',e4⟩
   ·match us,k2,k3 with
    | [u],_,k3 =>
     have hu:=k3 0 (by simp) (by simp)
     simp only [List.getElem_cons_zero] at hu
     show Ga w w' S u (.fresh e sz 0 c)
     rcases hnil with hnil | hnil <;> rw [hnil] at hu <;> (cases hu; exact .inl ⟨⟨_,rfl⟩,rfl⟩)
   subst e1
   match us,k2,k3 with
   | [u],_,k3 =>
    have hu:=k3 0 (by simp) (by simp)
    simp only [List.getElem_cons_zero] at hu
    rw [e2] at hu
    show Ga w w' S u (.fresh e sz n c)
    cases hu with
    | eZ _ a0=>exact .inl ⟨⟨a0,rfl⟩,rfl⟩
    | own _ _ _ l h0 hn hc =>
     have hB:=eX hM' h0
     rw [e3] at hB
     obtain ⟨q1,q2,q3,q4,vs',q5,q6,q7⟩:=hB
     have hlt:=hM'.lt _ _ h0
     refine .inr ⟨⟨l.g,l.cap,l.sz,n,l.st,[]⟩,vs',rfl,Nat.le_of_not_lt hlt.1,hlt.2.1,q1,rfl,by show n<=l.cap; omega,q4,q5,q6,fun i hi j hj=>⟨(q7 i (by omega) j hj).1,?_⟩⟩
     rw [<- e4 i hi j hj]
     exact (q7 i (by omega) j hj).2.mono (fun b hb=>⟨Gg hU hM'.sb b hb,fun e=>hlt.2.2 (e▸hb)⟩) (fun _ _=>rfl) _ (fun _ _ h=>h)
  | pU e sz l=>exact hr.2.elim
  | nY e sz l =>
   obtain ⟨_,hr⟩:=hr
   rcases hr with ⟨hl0,r1,rfl,hnil⟩ | ⟨r1,b,e1,e2,e3⟩ | ⟨r1,b,n,k0,e1,e2,e3,e4⟩
   ·match us,k2,k3 with
    | [u],_,k3 =>
     have hu:=k3 0 (by simp) (by simp)
     simp only [List.getElem_cons_zero] at hu
     show yO w w' S u e (aW sz) l.length (vw sz l)
     rcases hnil with hnil | hnil <;> rw [hnil] at hu <;> (cases hu; exact .inl ⟨⟨_,rfl⟩,hl0⟩)
   ·subst e1
    match us,k2,k3 with
    | [u],_,k3 =>
     have hu:=k3 0 (by simp) (by simp)
     simp only [List.getElem_cons_zero] at hu
     rw [e2] at hu
     show yO w w' S u e (aW sz) l.length (vw sz l)
     cases hu with
     | fD _ a0 _ h0 =>
      have hB:=hM'.bk _ _ h0
      rw [e3] at hB
      exact .inl ⟨⟨a0,rfl⟩,hB⟩
     | bz _ _ l0 h0 hc =>
      have hB:=eX hM' h0
      rw [e3] at hB
      obtain ⟨q1,q2,q3,q4,vs',q5,q6,q7⟩:=hB
      have hlt:=hM'.lt _ _ h0
      exact .inr ⟨l0,vs',by rw [q2],Nat.le_of_not_lt hlt.1,hlt.2.1,q1,q2,q3,q4,q5,q6,fun i hi j hj=>⟨(q7 i hi j hj).1,
       (q7 i hi j hj).2.mono (fun b hb=>⟨Gg hU hM'.sb b hb,fun e=>hlt.2.2 (e▸hb)⟩) (fun _ _=>rfl) _ (fun _ _ h=>h)⟩⟩
   ·subst e1 e4
    match us,k2,k3 with
    | [u],_,k3 =>
     have hu:=k3 0 (by simp) (by simp)
     simp only [List.getElem_cons_zero] at hu
     rw [e2] at hu
     show yO w w' S u e (aW sz) (k0.take n).length (vw sz (k0.take n))
     cases hu with
     | eZ _ a0 _ h0=>exact .inl ⟨⟨a0,rfl⟩,by simp⟩
     | own _ _ _ l0 h0 hn hc =>
      have hB:=eX hM' h0
      rw [e3] at hB
      obtain ⟨q1,q2,q3,q4,vs',q5,q6,q7⟩:=hB
      have hlt:=hM'.lt _ _ h0
      have hlen:(k0.take n).length=n:=by rw [List.length_take]; omega
      rw [hlen]
      refine .inr ⟨⟨l0.g,l0.cap,l0.sz,n,l0.st,[]⟩,vs',rfl,Nat.le_of_not_lt hlt.1,hlt.2.1,q1,rfl,by show n<=l0.cap; omega,q4,q5,q6,fun i hi j hj=>⟨(q7 i (by omega) j hj).1,?_⟩⟩
      rw [qd _ _ _ _ _ hi]
      exact (q7 i (by omega) j hj).2.mono (fun b hb=>⟨Gg hU hM'.sb b hb,fun e=>hlt.2.2 (e▸hb)⟩) (fun _ _=>rfl) _ (fun _ _ h=>h)
 cases e with
 | ret=>exact fin hq
 | normal=>exact fin hq
 | exit id=>exact hq.elim
 | goto l=>exact hq.elim
 | panic ch=>exact hq.elim
 | outgrown=>exact hq.elim
end Go.aT
