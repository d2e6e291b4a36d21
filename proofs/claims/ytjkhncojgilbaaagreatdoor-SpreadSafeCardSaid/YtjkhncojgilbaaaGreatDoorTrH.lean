/- Loops over lists, as plain functions. -/
import Derived.Test.YtjkhncojgilbaaaGreatDoorTrE
namespace Go.aT
open Go
theorem aM {α:Type} {k:Bool} {t:Tree α} (h:k=true):(ask k t).run=t.run:=by subst h; rfl
theorem aN {α β:Type} {t:Tree α} {k:α->Tree β} {a:α} (h:t.run=some a):(Tree.bnd t k).run=(k a).run:=by simp only [Tree.run,h,Option.bind_some]
theorem gm {α β:Type} {g:Bool} {t:Tree α} {d:α} {k:α->Tree β} {a:α} (h:t.run=some a):(Tree.dH g t d k).run=(k a).run:=by simp [Tree.run,h]
theorem ET {α β:Type} {g:Bool} {t:Tree α} {d:α} {k:α->Tree β} (h:g=false):(Tree.dH g t d k).run=(k (t.run.getD d)).run:=by subst h; simp [Tree.run]
theorem bA {α:Type} {c:Bool} {t e:Tree α} (h:c=true):(Tree.ite c t e).run=t.run:=by subst h; rfl
theorem bn {α:Type} {c:Bool} {t e:Tree α} (h:c=false):(Tree.ite c t e).run=e.run:=by subst h; rfl
theorem iR (i n:Nat):aD (i:Int) n=decide (i<n):=by
 show decide ((0:Int)<=i/\(i:Int)<n)=_
 simp
theorem lJ (i n:Nat):df (i:Int) n=decide (i<=n):=by
 show decide ((0:Int)<=i/\(i:Int)<=n)=_
 simp
theorem zg (i:Nat) (h:i+1<=9223372036854775807):ay ((i:Int)+1)=((i+1:Nat):Int):=by
 show IntKind.i64.wrap _=_
 rw [IntKind.wrap_i64]; omega
theorem fw {σ α:Type} {st:σ->Option (σ⊕α)} {S:Nat->σ} {n:Nat} {a:α} (h:∀ i,i<n->st (S i)=some (.inl (S (i+1)))) (h0:st (S n)=some (.inr a)) {s0:σ} (hs:s0=S 0):dP st s0=some a:=by
 subst hs
 have key:∀ d i,i+d=n->dP st (S i)=some a:=by
  intro d
  induction d with
  | zero=>intro i hi; have:i=n:=hi; subst this; rw [ib,h0]; rfl
  | succ d ih=>intro i hi; rw [ib,h i (by omega)]; exact ih (i+1) (by omega)
 exact key n 0 (by omega)
def qI {β γ α:Type} (f:Nat->β->γ->γ⊕α) (e:γ->α):Nat->List β->γ->α
 | _,[],c=>e c
 | i,x::l,c=>match f i x c with
  | .inl c'=>qI f e (i+1) l c'
  | .inr a=>a
def aiV {σ γ α:Type} (S:γ->σ):γ⊕α->σ⊕α
 | .inl c=>.inl (S c)
 | .inr a=>.inr a
theorem QV {β γ σ α:Type} {st:σ->Option (σ⊕α)} (l:List β) (S:Nat->γ->σ) (f:Nat->β->γ->γ⊕α) (e:γ->α) (I:Nat->γ->Prop)
  (h1:∀ i c (hi:i<l.length),I i c->st (S i c)=some (aiV (S (i+1)) (f i l[i] c))/\∀ c',f i l[i] c = .inl c'->I (i+1) c') (h0:∀ c,I l.length c->st (S l.length c)=some (.inr (e c))) (c:γ) (hc:I 0 c) {s0:σ} (hs:s0=S 0 c):dP st s0=some (qI f e 0 l c):=by
 subst hs
 have key:∀ (d i:Nat) (c:γ),i+d=l.length->I i c->dP st (S i c)=some (qI f e i (l.drop i) c):=by
  intro d
  induction d with
  | zero=>intro i c hi hI; have:i=l.length:=hi; subst this; rw [ib,h0 c hI,List.drop_length]; rfl
  | succ d ih =>
   intro i c hi hI
   have hlt:i<l.length:=by omega
   obtain ⟨k1,k2⟩:=h1 i c hlt hI
   rw [ib,k1,List.drop_eq_getElem_cons hlt]
   simp only [qI]
   cases hf:f i l[i] c with
   | inl c'=>exact ih (i+1) c' (by omega) (k2 c' hf)
   | inr a=>rfl
 have:=key l.length 0 c (by omega) hc
 rwa [List.drop_zero] at this
theorem BA {β σ α:Type} {st:σ->Option (σ⊕α)} (l:List β) (p:β->Bool) (S:Nat->σ) (A:Nat->α) (z:α)
  (h1:∀ i (hi:i<l.length),st (S i)=some (bif p l[i] then .inr (A i) else .inl (S (i+1)))) (h0:st (S l.length)=some (.inr z)) {s0:σ} (hs:s0=S 0) :
  (dP st s0=some z/\l.any p=false)\/∃ i,∃ hi:i<l.length,dP st s0=some (A i)/\p l[i]=true/\l.any p=true/\∀ k (hk:k<i),p (l[k]'(by omega))=false:=by
 subst hs
 have key:∀ (d i:Nat),i+d=l.length->(∀ k (hk:k<i) (hl:k<l.length),p l[k]=false)->(dP st (S i)=some z/\l.any p=false)\/∃ i',∃ hi:i'<l.length,dP st (S i)=some (A i')/\p l[i']=true/\l.any p=true/\∀ k (hk:k<i'),p (l[k]'(by omega))=false:=by
  intro d
  induction d with
  | zero =>
   intro i hi hx
   have:i=l.length:=hi
   subst this
   refine .inl ⟨by rw [ib,h0]; rfl,?_⟩
   rw [List.any_eq_false]
   intro x hm
   obtain ⟨k,hk,rfl⟩:=List.mem_iff_getElem.1 hm
   rw [hx k hk hk]; exact Bool.false_ne_true
  | succ d ih =>
   intro i hi hx
   have hlt:i<l.length:=by omega
   rw [ib,h1 i hlt]
   cases hp:p l[i] with
   | true=>exact .inr ⟨i,hlt,rfl,hp,List.any_eq_true.2 ⟨_,List.getElem_mem hlt,hp⟩,fun k hk=>hx k hk (by omega)⟩
   | false =>
    refine ih (i+1) (by omega) fun k hk hl=>?_
    by_cases e:k=i
    ·subst e; exact hp
    ·exact hx k (by omega) hl
 exact key l.length 0 (by omega) fun k hk=>absurd hk (Nat.not_lt_zero k)
theorem LJ {β σ α:Type} {st:σ->Option (σ⊕α)} (l:List β) (p:β->Bool) (S:Nat->σ) (y z:α)
  (h1:∀ i (hi:i<l.length),st (S i)=some (bif p l[i] then .inr y else .inl (S (i+1)))) (h0:st (S l.length)=some (.inr z)) {s0:σ} (hs:s0=S 0):dP st s0=some (bif l.any p then y else z):=by
 rcases BA l p S (fun _=>y) z h1 h0 hs with ⟨h,k⟩ | ⟨i,hi,h,_,k,_⟩
 ·rw [h,k]; rfl
 ·rw [h,k]; rfl
theorem getD_lt {α:Type} (l:List α) (i:Nat) (d:α) (h:i<l.length):l.getD i d=l[i]:=by simp [List.getD,h]
theorem JE (x y:UInt8) (s t:List UInt8):Op.bytesLess (x::s) (y::t)=true↔x.toNat<y.toNat\/(x.toNat=y.toNat/\Op.bytesLess s t=true):=by
 simp only [Op.bytesLess,Bool.or_eq_true,decide_eq_true_eq,Bool.and_eq_true,beq_iff_eq,UInt8.lt_iff_toNat_lt,<- UInt8.toNat_inj]
theorem ag6 (s:List UInt8):Op.bytesLess s s=false:=by
 induction s with
 | nil=>rfl
 | cons x l ih=>simp [Op.bytesLess,ih]
theorem aiW {s t:List UInt8} (h:Op.bytesLess s t=true):Op.bytesLess t s=false:=by
 cases k:Op.bytesLess t s with
 | false=>rfl
 | true =>
  exfalso
  induction s generalizing t with
  | nil=>cases t <;> simp [Op.bytesLess] at h k
  | cons x s ih =>
   cases t with
   | nil=>simp [Op.bytesLess] at h
   | cons y t =>
    rw [JE] at h k
    rcases h with h | ⟨h1,h⟩ <;> rcases k with k | ⟨k1,k⟩
    ·omega
    ·omega
    ·omega
    ·exact ih h k
theorem LM {s t u:List UInt8} (h:Op.bytesLess s t=true) (k:Op.bytesLess t u=true):Op.bytesLess s u=true:=by
 induction s generalizing t u with
 | nil=>cases u with
  | nil=>cases t <;> simp [Op.bytesLess] at k
  | cons=>rfl
 | cons x s ih =>
  cases t with
  | nil=>simp [Op.bytesLess] at h
  | cons y t =>
   cases u with
   | nil=>simp [Op.bytesLess] at k
   | cons z u =>
    rw [JE] at h k ⊢
    rcases h with h | ⟨h1,h⟩ <;> rcases k with k | ⟨k1,k⟩
    ·left; omega
    ·left; omega
    ·left; omega
    ·right; exact ⟨by omega,ih h k⟩
theorem Xd {s t:List UInt8} (h:Op.bytesLess s t=false) (k:Op.bytesLess t s=false):s=t:=by
 induction s generalizing t with
 | nil=>cases t with
  | nil=>rfl
  | cons=>simp [Op.bytesLess] at h
 | cons x s ih =>
  cases t with
  | nil=>simp [Op.bytesLess] at k
  | cons y t =>
   have h':¬ _:=fun e=>by rw [(JE x y s t).2 e] at h; cases h
   have k':¬ _:=fun e=>by rw [(JE y x t s).2 e] at k; cases k
   have e:x.toNat=y.toNat:=by
    have h1:¬ x.toNat<y.toNat:=fun e=>h' (.inl e)
    have h2:¬ y.toNat<x.toNat:=fun e=>k' (.inl e)
    omega
   have e':x=y:=UInt8.toNat_inj.1 e
   subst e'
   rw [ih (by cases q:Op.bytesLess s t with | false=>rfl | true=>exact absurd (.inr ⟨rfl,q⟩) h') (by cases q:Op.bytesLess t s with | false=>rfl | true=>exact absurd (.inr ⟨rfl,q⟩) k')]
theorem aiX {α:Type} (k n:Nat) (z:α) (l:List α):(lK k n z l).take k=l.take k:=by
 apply List.ext_getElem?
 intro i
 simp only [List.getElem?_take]
 split
 ·unfold lK
  rw [List.getElem?_mapIdx]
  have:decide (k<=i/\i<k+n)=false:=by simp; omega
  cases l[i]? with
  | none=>rfl
  | some x=>simp only [Option.map_some,this]
 ·rfl
theorem aiY {α:Type} (k n:Nat) (z:α) (l:List α):(lK k n z l).length=l.length:=by unfold lK; simp
end Go.aT
