/- Maps: making, looking up, setting, deleting. -/
import Derived.Test.YtjkhncojgilbaaaGreatDoorEngH
namespace Go.aT
open Go Go.RowKit
variable {P:Program} {T:aX} {base:Env} {a u:Ty} {kt:Nat} {w:World} {S:Nat->Prop} {m:aY} {M:Mem}
theorem wm {d:TD} {a:Ty} (h:vJ d=some a):(∃ k,d = .int k/\a = .int k)\/(d = .bool/\a = .bool)\/(d = .str/\a = .str):=by
 cases d <;> simp [vJ] at h <;> subst h <;> simp
def mD:Ty->TypeDesc
 | .int k=>.int k
 | .dm k=>.int k
 | .bool=>.bool
 | _=>.string
theorem TS (hT:bG P T) {k:Nat} {a:Ty} (h:vJ (ag T k).d=some a):P.underlying k=some (mD a):=by
 rcases wm h with ⟨q,hd,rfl⟩ | ⟨hd,rfl⟩ | ⟨hd,rfl⟩
 ·obtain ⟨_,_,_,g⟩:=hT.bJ hd (by simp)
  have e:=g.d; rw [hd] at e
  rw [g.und,vQ e.symm]; rfl
 ·obtain ⟨_,_,_,g⟩:=hT.bJ hd (by simp)
  have e:=g.d; rw [hd] at e
  rw [g.und,Cb e.symm]; rfl
 ·obtain ⟨_,_,_,g⟩:=hT.bJ hd (by simp)
  have e:=g.d; rw [hd] at e
  rw [g.und,oq e.symm]; rfl
def isKey:Ty->Bool
 | .int _=>true
 | .dm _=>true
 | .bool=>true
 | .str=>true
 | _=>false
theorem TT {d:TD} {a:Ty} (h:vJ d=some a):isKey a=true:=by
 rcases wm h with ⟨q,_,rfl⟩ | ⟨_,rfl⟩ | ⟨_,rfl⟩ <;> rfl
def cO:(t:Ty)->El t->Value
 | .int k,n=>.int k n
 | .dm k,n=>.int k n
 | .bool,b=>.bool b
 | .str,s=>.string (bytes s)
 | _,_=>Go.undef
theorem yR {w:World} {S:Nat->Prop} {m:aY} {v:Value} {t:Ty} (ht:isKey t=true) {k:El t} (h:Rel w S m v (nth (dB t k) 0)):v=cO t k:=by
 cases t with
 | int q=>change Rel w S m v (.int q k) at h; cases h; rfl
 | dm q=>change Rel w S m v (.int q k) at h; cases h; rfl
 | bool=>change Rel w S m v (.bool k) at h; cases h; rfl
 | str=>change Rel w S m v (.str k) at h; cases h; rfl
 | _=>cases ht
theorem acP {t:Ty} (ht:isKey t=true) (a b:El t):Instr.sameNow (mD t) (cO t a) (cO t b)=some (jw t a b):=by
 cases t with
 | int q=>simp [Instr.sameNow,mD,cO,jw]; rfl
 | dm q=>simp [Instr.sameNow,mD,cO,jw]; rfl
 | bool=>rfl
 | str =>
  show some (bytes a==bytes b)=some (a==b)
  rw [beq_toListBytes,yE,yE]
 | _=>cases ht
theorem Gh {t:Ty} (ht:isKey t=true) (a b:El t):jw t a b=true↔a=b:=by
 cases t with
 | int q=>exact decide_eq_true_iff
 | dm q=>exact decide_eq_true_iff
 | bool=>exact beq_iff_eq
 | str=>exact beq_iff_eq
 | _=>cases ht
theorem tK {t:Ty} (ht:isKey t=true) {kt:Nat} (hu:P.underlying kt=some (mD t)) (e:Bool) (k:El t) (w:World):(Instr.checkKey e 10000 kt (cO t k)).run P w = .ok () w:=by
 have h:∀ d:Nat,(Instr.checkKey e (d+1) kt (cO t k)).run P w = .ok () w:=fun d=>by
  cases t with
  | int q=>simp [Instr.checkKey,run_underlying hu,mD,cO]
  | dm q=>simp [Instr.checkKey,run_underlying hu,mD,cO]
  | bool=>simp [Instr.checkKey,run_underlying hu,mD,cO]
  | str=>simp [Instr.checkKey,run_underlying hu,mD,cO]
  | _=>cases ht
 exact h 9999
def gW (t u:Ty):List (El t×El u)->El t->Option Nat
 | [],_=>none
 | p::l,k=>bif jw t k p.1 then some 0 else (gW t u l k).map (· + 1)
theorem La {t u:Ty} (ht:isKey t=true) (k:El t):∀ (L:List MapEntry) (x:List (El t×El u)) (i:Nat),L.length=x.length->(∀ j (h:j<L.length) (h':j<x.length),L[j].key=cO t x[j].1) ->
  Instr.findNow (mD t) (cO t k) L i=some ((gW t u x k).bind fun j=>(L[j]?).map fun e=>(i+j,e.val))
 | [],[],i,_,_=>rfl
 | [],_::_,_,h,_=>by simp at h
 | _::_,[],_,h,_=>by simp at h
 | e::L,p::x,i,hl,hk=>by
  have h0:=hk 0 (by simp) (by simp)
  have h0:e.key=cO t p.1:=h0
  unfold Instr.findNow gW
  rw [h0,acP ht]
  cases jw t k p.1 with
  | true=>rfl
  | false =>
   show Instr.findNow _ _ L (i+1)=_
   rw [La ht k L x (i+1) (by simpa using hl) fun j h h'=>hk (j+1) (by simp; omega) (by simp; omega),cond_false]
   cases gW t u x k with
   | none=>rfl
   | some j =>
    show some ((L[j]?).map fun e=>(i+1+j,e.val))=some (((e::L)[j+1]?).map fun e=>(i+(j+1),e.val))
    rw [List.getElem?_cons_succ]
    have:i+1+j=i+(j+1):=by omega
    rw [this]
theorem wo {t u:Ty}:∀ {x:List (El t×El u)} {k:El t} {j:Nat},gW t u x k=some j->∃ h:j<x.length,jw t k x[j].1=true/\getM t u x k=some x[j].2
 | [],_,_,h=>by cases h
 | p::x,k,j,h=>by
  unfold gW at h
  unfold getM
  cases hb:jw t k p.1 with
  | true =>
   rw [hb,cond_true] at h
   injection h with h; subst h
   exact ⟨by simp,hb,by rw [cond_true]; rfl⟩
  | false =>
   rw [hb,cond_false] at h
   cases hq:gW t u x k with
   | none=>rw [hq] at h; cases h
   | some j' =>
    rw [hq] at h
    injection h with h; subst h
    obtain ⟨h1,h2,h3⟩:=wo hq
    exact ⟨by simp; omega,h2,by rw [cond_false]; exact h3⟩
theorem tL {t u:Ty}:∀ {x:List (El t×El u)} {k:El t},gW t u x k=none->getM t u x k=none/\(∀ p∈x,jw t k p.1=false)/\(∀ v,dn t u x k v=x++[(k,v)])/\iV t u x k=x
 | [],_,_=>⟨rfl,fun _ h=>absurd h List.not_mem_nil,fun _=>rfl,rfl⟩
 | p::x,k,h=>by
  unfold gW at h
  unfold getM dn iV
  cases hb:jw t k p.1 with
  | true=>rw [hb] at h; cases h
  | false =>
   rw [hb,cond_false] at h
   cases hq:gW t u x k with
   | some j'=>rw [hq] at h; cases h
   | none =>
    obtain ⟨h1,h2,h3,h4⟩:=tL hq
    refine ⟨h1,fun q hq'=>?_,fun v=>?_,?_⟩
    ·rcases List.mem_cons.1 hq' with rfl | hq'
     ·exact hb
     ·exact h2 q hq'
    ·rw [cond_false,h3 v]; rfl
    ·rw [cond_false,h4]
theorem Lb {t u:Ty}:∀ {x:List (El t×El u)} {k:El t} {j:Nat} (v:El u),gW t u x k=some j->dn t u x k v=x.set j (k,v)/\iV t u x k=x.eraseIdx j
 | [],_,_,_,h=>by cases h
 | p::x,k,j,v,h=>by
  unfold gW at h
  unfold dn iV
  cases hb:jw t k p.1 with
  | true =>
   rw [hb,cond_true] at h
   injection h with h; subst h
   exact ⟨rfl,rfl⟩
  | false =>
   rw [hb,cond_false] at h
   cases hq:gW t u x k with
   | none=>rw [hq] at h; cases h
   | some j' =>
    rw [hq] at h
    injection h with h; subst h
    obtain ⟨h1,h2⟩:=Lb v hq
    exact ⟨by rw [cond_false,h1]; rfl,by rw [cond_false,h2]; rfl⟩
theorem acQ {t u:Ty} {x:List (El t×El u)} {es:Array MapEntry} (h2:es.size=x.length) (h3:∀ i,i<x.length->Rel w S [] (sQ es i) (qX t u x i)/\Rel w S [] (sS es i) (qY t u x i)) (ht:isKey t=true) (hu1:aW u=1):es.toList.length=x.length /\
  (∀ j (h:j<es.toList.length) (h':j<x.length),es.toList[j].key=cO t x[j].1)/\(∀ j (h:j<es.toList.length) (h':j<x.length),Rel w S [] es.toList[j].key (nth (dB t x[j].1) 0)/\Rel w S [] es.toList[j].val (nth (dB u x[j].2) 0)):=by
 have key:∀ j (h:j<es.toList.length) (h':j<x.length),Rel w S [] es.toList[j].key (nth (dB t x[j].1) 0)/\Rel w S [] es.toList[j].val (nth (dB u x[j].2) 0):=fun j hj hj'=>by
  have:=h3 j hj'
  have e0:es[j]? = some es.toList[j]:=by
   rw [<- Array.getElem?_toList,List.getElem?_eq_getElem hj]
  have e1:x.getD j (aS t,aS u)=x[j]:=by simp [List.getD,hj']
  unfold sQ sS qX qY at this
  rw [Ko hu1,cond_false] at this
  rw [e0,e1] at this
  exact this
 exact ⟨by simpa using h2,fun j hj hj'=>yR ht (key j hj hj').1,key⟩
theorem Cr {l:Loc} {t u:Ty} {x:List (El t×El u)} (h:bZ w S m (some l) (.map t u x)) (ht:isKey t=true) (hu1:aW u=1):∃ (es:Array MapEntry) (ck:Nat),w.heap[l.g]? = some (.map es ck)/\es.toList.length=x.length /\
  (∀ j (h:j<es.toList.length) (h':j<x.length),es.toList[j].key=cO t x[j].1)/\(∀ j (h:j<es.toList.length) (h':j<x.length),Rel w S [] es.toList[j].key (nth (dB t x[j].1) 0)/\Rel w S [] es.toList[j].val (nth (dB u x[j].2) 0))/\yn t u es ck x:=by
 obtain ⟨es,ck,h1,h2,h3,h4⟩:=h
 have key:∀ j (h:j<es.toList.length) (h':j<x.length),Rel w S [] es.toList[j].key (nth (dB t x[j].1) 0)/\Rel w S [] es.toList[j].val (nth (dB u x[j].2) 0):=fun j hj hj'=>by
  have:=h3 j hj'
  have e0:es[j]? = some es.toList[j]:=by
   rw [<- Array.getElem?_toList,List.getElem?_eq_getElem hj]
  have e1:x.getD j (aS t,aS u)=x[j]:=by simp [List.getD,hj']
  unfold sQ sS qX qY at this
  rw [Ko hu1,cond_false] at this
  rw [e0,e1] at this
  exact this
 exact ⟨es,ck,h1,by simpa using h2,fun j hj hj'=>yR ht (key j hj hj').1,key,h4⟩
theorem Gi {T:aX} {t:Nat} {a:Ty} {q:(u:Ty)×El u} (h:yl T t=some (a,q)):∃ k e,(ag T t).d = .map k e/\vJ (ag T k).d=some a/\ic q.1 (ag T e).z=some q.2/\aW q.1=1/\(ag T e).sz=1/\BN (ag T e).d=false:=by
 unfold yl at h
 split at h
 ·rename_i k e hd
  split at h
  ·rename_i a' b' h1 h2
   split at h
   ·rename_i z h3 h4 h5 h6
    cases h
    exact ⟨k,e,hd,h1,h3,Nat.eq_of_beq_eq_true h4,Nat.eq_of_beq_eq_true h5,h6⟩
   ·cases h
  ·cases h
 ·cases h
theorem Gj (hT:bG P T) {t k e:Nat} (h:(ag T t).d = .map k e):P.underlying t=some (.map k e):=by
 obtain ⟨_,_,_,g⟩:=hT.bJ h (by simp)
 have hd:=g.d; rw [h] at hd
 rw [g.und,p8 hd.symm]
theorem Lc (hT:bG P T) {M:Mem} {t:Nat} {x:AV} {a:Ty} {q:(u:Ty)×El u} (h:BO T M t x=some (a,q)) :
  ∃ k e,(ag T t).d = .map k e/\P.underlying k=some (mD a)/\isKey a=true/\aW a=1/\ic q.1 (ag T e).z=some q.2/\aW q.1=1/\(ag T e).sz=1/\BN (ag T e).d=false:=by
 unfold BO at h
 split at h
 ·rename_i a0 q0 h0
  cases h
  obtain ⟨k,e,h1,h2,h3⟩:=Gi h0
  refine ⟨k,e,h1,?_,?_,?_,h3⟩
  ·rw [TS hT h2]
   rcases wm h2 with ⟨q,_,rfl⟩ | ⟨_,rfl⟩ | ⟨_,rfl⟩
   ·simp only [FI]; split <;> rfl
   ·rfl
   ·rfl
  ·rcases wm h2 with ⟨q,_,rfl⟩ | ⟨_,rfl⟩ | ⟨_,rfl⟩
   ·simp only [FI]; split <;> rfl
   ·rfl
   ·rfl
  ·rcases wm h2 with ⟨q,_,rfl⟩ | ⟨_,rfl⟩ | ⟨_,rfl⟩
   ·simp only [FI]; split <;> rfl
   ·rfl
   ·rfl
 ·cases h
theorem yS {t' u' t u:Ty} {l:List (El t'×El u')} {l':List (El t×El u)} (h:vK t' u' t u l=some l'):∃ (e1:t'=t) (e2:u'=u),∀ (B:(a b:Ty)->List (El a×El b)->Prop),B t' u' l->B t u l':=by
 obtain ⟨e,rfl⟩:=jU h
 cases e
 exact ⟨rfl,rfl,fun B h=>h⟩
theorem acL (hT:bG P T) (hM:aV base w S m M) (t:TypeId) (hk:aG (FK T M t).ks):cB base w S m P (FK T M t) (Instr.makeMap t none):=by
 unfold FK at hk ⊢
 split at hk
 case h_2=>exact (aH hk).elim
 rename_i a b z hm
 obtain ⟨k,e,h1,h2,h3,h4,h5,_⟩:=Gi hm
 let l:Loc:=⟨w.heap.size,0,0,0,false,[]⟩
 have hsz:aW a=1:=by rcases wm h2 with ⟨q,_,rfl⟩ | ⟨_,rfl⟩ | ⟨_,rfl⟩ <;> rfl
 obtain ⟨ht,hm⟩:=hM.alloc (.map #[] 0) l (.map a b []) rfl ⟨#[],0,Go.heap_alloc_new w _,rfl,fun i hi=>absurd hi (Nat.not_lt_zero i),⟨fun e h=>absurd h List.not_mem_nil,List.nodup_nil,.nil,hsz,(fun _=>h4),Nat.zero_le _,fun _=>⟨fun i e h=>by simp at h,rfl⟩⟩⟩
 exact ⟨_,_,_,_,by simp [Instr.makeMap]; rfl,ht,hm,.mp _ _ l (by rw [<- hM.len]; simp)⟩
theorem Cs {d:TD} {a:Ty} (h:vJ d=some a):aW a=1:=by rcases wm h with ⟨q,_,rfl⟩ | ⟨_,rfl⟩ | ⟨_,rfl⟩ <;> rfl
theorem Ct {t:Ty} {a:AV} {x:El t} (hs:aW t=1) (h:ic t [a]=some x) {w:World} {S:Nat->Prop} {m:aY} {v:Value} (hv:Rel w S m v a):Rel w S m v (nth (dB t x) 0):=by
 obtain ⟨_,h2⟩:=qc h
 exact h2 0 (by omega) _ _ _ _ hv
theorem TU (hT:bG P T) {e:Nat} {u:Ty} {z:El u} (h:ic u (ag T e).z=some z) (h1:aW u=1) (h2:(ag T e).sz=1) (h3:BN (ag T e).d=false) (w:World) (S:Nat->Prop) (m:aY):∃ v,(zeroValue e).run P w = .ok v w/\Rel w S m v (nth (dB u z) 0):=by
 obtain ⟨d,i,v,f⟩:=hT.eO (t:=e) (by omega)
 refine ⟨v,by simp [zeroValue,typeInfo,f.info,f.zero],?_⟩
 have hz:=f.zk
 have hc:v.cells = #[v]:=by
  unfold FV at hz
  rw [h3] at hz
  cases v <;> first | rfl | cases hz
 have hr:=Cg (w:=w) (S:=S) (m:=m) v.cells 0 (by rw [hc]; exact Nat.zero_lt_one)
 rw [<- f.z] at hr
 have e0:v.cells.getD 0 Go.undef=v:=by rw [hc]; rfl
 rw [e0] at hr
 obtain ⟨_,h5⟩:=qc h
 exact h5 0 (by omega) _ _ _ _ hr
theorem Ld:∀ t:Ty,1<=aW t
 | .int _=>Nat.le_refl _
 | .bool=>Nat.le_refl _
 | .str=>Nat.le_refl _
 | .list _=>Nat.le_refl _
 | .smap=>Nat.le_refl _
 | .dm _=>Nat.le_refl _
 | .pair a b=>Nat.le_trans (Ld a) (Nat.le_add_right _ _)
theorem Gl {t:Ty} {a:AV} {x:El t} (hs:aW t=1) (h:ic t [a]=some x) {w:World} {S:Nat->Prop} {m:aY} {v:Value} (hv:Rel w S m v a):Rel w S [] v (nth (dB t x) 0):=by
 have h1:=Ct hs h hv
 cases t with
 | int k=>exact (h1.ng rfl _)
 | bool=>exact (h1.ng rfl _)
 | str=>exact (h1.ng rfl _)
 | list e=>exact (h1.ng rfl _)
 | smap=>exact (h1.ng rfl _)
 | dm k=>exact (h1.ng rfl _)
 | pair a b =>
  have h1:=Ld a
  have h2:=Ld b
  have h3:aW a+aW b=1:=hs
  omega
theorem TV {t k e:TypeId} (hu:P.underlying t=some (.map k e)) {a u:Ty} (hkey:isKey a=true) (hku:P.underlying k=some (mD a)) (ok:Bool) (kk:El a) {z:Value} (hz:(zeroValue e).run P w = .ok z w) {l:Loc} {x:List (El a×El u)} {es:Array MapEntry} {ck:Nat}
  (h1:w.heap[l.g]? = some (.map es ck)) (h2:es.toList.length=x.length) (h3:∀ j (h:j<es.toList.length) (h':j<x.length),es.toList[j].key=cO a x[j].1) :
  (Instr.lookup t (.map (some l.g)) (cO a kk) ok).run P w = .ok (match (gW a u x kk).bind fun j=>es.toList[j]? with | some e=>if ok then .tuple #[e.val,.bool true] else e.val | none=>if ok then .tuple #[z,.bool false] else z) w:=by
 have hf:=La (u:=u) hkey kk es.toList x 0 h2 h3
 have hg:(getObj l.g).run P w = .ok (.map es ck) w:=by simp [getObj,Sem.run,h1]
 have hfk:(Instr.findKey k (cO a kk) es.toList).run P w = .ok ((gW a u x kk).bind fun j=>(es.toList[j]?).map fun e=>(0+j,e.val)) w:=by
  simp only [Instr.findKey,Sem.run_bind,run_underlying hku,Result.andThen_ok]
  rw [hf]; rfl
 unfold Instr.lookup
 simp only [Sem.run_bind,run_underlying hu,Result.andThen_ok,hg,Sem.run_pure,tK hkey hku,hfk]
 cases hq:gW a u x kk with
 | none=>cases ok <;> simp [hz]
 | some j =>
  obtain ⟨hj,_,_⟩:=wo hq
  have hj':j<es.toList.length:=by omega
  simp only [Option.bind_some,List.getElem?_eq_getElem hj',Option.map_some]
  cases ok <;> rfl
theorem acM (hT:bG P T) (hM:aV base w S m M) (t:TypeId) (ok:Bool) {vx vk:Value} {x k:AV} (hx:Rel w S m vx x) (hkv:Rel w S m vk k) (hk:aG (vL T M t x k ok).ks) :
  cB base w S m P (vL T M t x k ok) (Instr.lookup t vx vk ok):=by
 unfold vL at hk ⊢
 split at hk
 case h_2=>exact (aH hk).elim
 rename_i a u z hm
 obtain ⟨kt,e,h1,hku,hkey,hksz,h3,h4,h5,h6⟩:=Lc hT hm
 have hu:=Gj hT h1
 obtain ⟨zv,hz,hzr⟩:=TU hT h3 h4 h5 h6 w S m
 split at hk
 case h_2=>exact (aH hk).elim
 rename_i kk hkk
 have hvk:=yR hkey (Ct (hksz) hkk hkv)
 subst hvk
 have fin:∀ {v:Value} {y:El u} {b:Bool} {r:Option (El u)},r.getD z=y->r.isSome=b->Rel w S m v (nth (dB u y) 0)->(Instr.lookup t vx (cO a kk) ok).run P w = .ok (if ok then .tuple #[v,.bool b] else v) w ->
   cB base w S m P (ym M ok u r z) (Instr.lookup t vx (cO a kk) ok):=by
  intro v y b r e1 e2 hr hrun
  unfold ym
  rw [e1,e2]
  cases ok with
  | true=>exact .val hM hrun (.bN _ _ _ rfl fun i hi=>by
    have hi:i<2:=hi
    match i,hi with
    | 0,_=>exact hr
    | 1,_=>exact .bool _ _)
  | false=>exact .val hM hrun hr
 split at hk
 ·cases hx
  refine fin (r:=none) rfl rfl hzr ?_
  have hn:(Instr.findKey kt (cO a kk) []).run P w = .ok none w:=by
   simp only [Instr.findKey,Sem.run_bind,run_underlying hku,Result.andThen_ok]; rfl
  unfold Instr.lookup
  simp only [Sem.run_bind,run_underlying hu,Result.andThen_ok,Sem.run_pure,tK hkey hku]
  rw [hn]
  cases ok <;> simp [hz]
 ·rename_i a' u' l'
  split at hk
  case h_2=>exact (aH hk).elim
  rename_i l'' hc
  obtain ⟨_,_,hcast⟩:=yS hc
  have hx:=hcast (fun a b x=>Rel w S m vx (.mv a b x)) hx
  cases hx with
  | iL=>cases h4
  | mv _ g es ck _ _ _ hs hg hl hh1 hh2 hok =>
   obtain ⟨q2,q3,q4⟩:=acQ hl (fun i hi=>⟨hh1 i hi,hh2 i hi⟩) hkey h4
   have hrun:=TV (u:=u) hu hkey hku ok kk hz (l:=⟨g,0,0,0,false,[]⟩) hg q2 q3
   cases hq:gW a u l'' kk with
   | none =>
    rw [hq] at hrun
    refine fin (r:=getM a u l'' kk) (by rw [(tL hq).1]; rfl) (by rw [(tL hq).1]) hzr ?_
    rw [hrun]; rfl
   | some j =>
    obtain ⟨hj,_,hg⟩:=wo hq
    have hj':j<es.toList.length:=by omega
    rw [hq] at hrun
    refine fin (r:=getM a u l'' kk) (by rw [hg]; rfl) (by rw [hg]) (q4 j hj' hj).2.weak ?_
    rw [hrun]
    simp only [Option.bind_some,List.getElem?_eq_getElem hj']
    rfl
 ·rename_i i
  split at hk
  case h_2=>exact (aH hk).elim
  rename_i a' u' l' hb
  split at hk
  case h_2=>exact (aH hk).elim
  rename_i l'' hc
  cases hx with
  | gy _ _ h=>exact (by have hB:=hM.bk _ _ h; rw [hb] at hB; exact hB:False).elim
  | mp _ _ l h =>
   have hB:=eX hM h
   rw [hb] at hB
   obtain ⟨_,_,hcast⟩:=yS hc
   have hB:=hcast (fun a b x=>bZ w S m (some l) (.map a b x)) hB
   obtain ⟨es,ck,q1,q2,q3,q4,q5⟩:=Cr hB hkey h4
   have hrun:=TV (u:=u) hu hkey hku ok kk hz q1 q2 q3
   cases hq:gW a u l'' kk with
   | none =>
    rw [hq] at hrun
    refine fin (r:=getM a u l'' kk) (by rw [(tL hq).1]; rfl) (by rw [(tL hq).1]) hzr ?_
    rw [hrun]; rfl
   | some j =>
    obtain ⟨hj,_,hg⟩:=wo hq
    have hj':j<es.toList.length:=by omega
    rw [hq] at hrun
    refine fin (r:=getM a u l'' kk) (by rw [hg]; rfl) (by rw [hg]) (q4 j hj' hj).2.weak ?_
    rw [hrun]
    simp only [Option.bind_some,List.getElem?_eq_getElem hj']
    rfl
 ·exact (aH hk).elim
theorem acR {l:Loc} {t u:Ty} {x:List (El t×El u)} {es:Array MapEntry} {ck:Nat} (h1:w.heap[l.g]? = some (.map es ck)) (h2:es.toList.length=x.length)
  (h3:∀ j (h:j<es.toList.length) (h':j<x.length),Rel w S [] es.toList[j].key (nth (dB t x[j].1) 0)/\Rel w S [] es.toList[j].val (nth (dB u x[j].2) 0)) (h4:yn t u es ck x) (hu1:aW u=1:=by assumption):bZ w S m (some l) (.map t u x):=by
 refine ⟨es,ck,h1,by simpa using h2,fun j hj=>?_,h4⟩
 have hj':j<es.toList.length:=by omega
 have:=h3 j hj' hj
 have e0:es[j]? = some es.toList[j]:=by
  rw [<- Array.getElem?_toList,List.getElem?_eq_getElem hj']
 have e1:x.getD j (aS t,aS u)=x[j]:=by simp [List.getD,hj]
 unfold sQ sS qX qY
 rw [Ko hu1,cond_false]
 rw [e0,e1]
 exact this
theorem acS {t:Ty} (ht:isKey t=true) (k:El t) (n:Nat):Instr.sameBits n (cO t k) (cO t k)=true:=by
 cases t with
 | int q=>cases n <;> simp [Instr.sameBits,cO]
 | dm q=>cases n <;> simp [Instr.sameBits,cO]
 | bool=>cases n <;> simp [Instr.sameBits,cO]
 | str=>cases n <;> simp [Instr.sameBits,cO,beq_toListBytes]
 | _=>cases ht
theorem TW {t:Ty} (ht:isKey t=true) (k:El t) (w:World):(Instr.keyThatStays (cO t k) (cO t k)).run P w = .ok (cO t k) w:=by
 unfold Instr.keyThatStays
 rw [if_pos (acS ht k 10000)]; rfl
def wu (w:World) (g:Nat) (es:Array MapEntry) (ck:Nat):World:={ w with heap:=w.heap.setIfInBounds g (.map es ck) }
theorem wy {g:Nat} {es0:Array MapEntry} {ck0:Nat} (h:w.heap[g]? = some (.map es0 ck0)) (es:Array MapEntry) (ck:Nat):(setObj g (.map es ck)).run P w = .ok () (wu w g es ck):=by
 simp [setObj,Sem.run,h,wu]
theorem wz (hM:aV base w S m M) {b:Nat} {l:Loc} (h:m[b]? = some (some l)) {t u:Ty} {l0:List (El t×El u)} (hb:∃ (t0 u0:Ty) (x0:List (El t0×El u0)),blk M b = .map t0 u0 x0) {x:List (El t×El u)} {es:Array MapEntry} {ck:Nat} (h2:es.toList.length=x.length)
  (h3:∀ j (h:j<es.toList.length) (h':j<x.length),Rel w S [] es.toList[j].key (nth (dB t x[j].1) 0)/\Rel w S [] es.toList[j].val (nth (dB u x[j].2) 0)) (h4:yn t u es ck x) (hu1:aW u=1:=by assumption) :
  Trans base w S m (wu w l.g es ck) S m none/\aV base (wu w l.g es ck) S m (dA M b (.map t u x)):=by
 have hl:=hM.lt _ _ h
 have hst:∀ b,b<w.heap.size->b≠l.g->(wu w l.g es ck).heap[b]? = w.heap[b]?:=fun b _ hne=>by
  show (w.heap.setIfInBounds _ _)[b]? = _
  rw [Array.getElem?_setIfInBounds_ne (Ne.symm hne)]
 have hbel:bX base.Z w (wu w l.g es ck):=⟨rfl,rfl,rfl,by show _<=(w.heap.setIfInBounds _ _).size; simp,fun k hk=>by
  show (w.heap.setIfInBounds _ _)[k]? = _
  rw [Array.getElem?_setIfInBounds_ne (fun e=>hl.1 (by rw [e]; exact hk))]⟩
 have hS:∀ b,S b->(wu w l.g es ck).heap[b]? = w.heap[b]?:=fun b hb=>hst b (hM.sb b hb) fun e=>hl.2.2 (e▸hb)
 obtain ⟨t0,u0,x0,hb⟩:=hb
 exact hM.turn b l h (.map t u x) (fun _=>rfl) hbel hst (acR (by
  show (w.heap.setIfInBounds _ _)[l.g]? = _
  rw [Array.getElem?_setIfInBounds_self_of_lt hl.2.1]) h2 (fun j hj hj'=>⟨(h3 j hj hj').1.mono (fun _ h=>h) hS _ (fun _ _ h=>h),(h3 j hj hj').2.mono (fun _ h=>h) hS _ (fun _ _ h=>h)⟩) h4 hu1)
theorem Lf (hku:P.underlying kt=some (mD a)) (hkey:isKey a=true) (kk:El a) {x:List (El a×El u)} {es:Array MapEntry} (h2:es.toList.length=x.length) (h3:∀ j (h:j<es.toList.length) (h':j<x.length),es.toList[j].key=cO a x[j].1) (w:World) :
  (Instr.findKey kt (cO a kk) es.toList).run P w = .ok ((gW a u x kk).bind fun j=>(es.toList[j]?).map fun e=>(0+j,e.val)) w:=by
 simp only [Instr.findKey,Sem.run_bind,run_underlying hku,Result.andThen_ok]
 rw [La (u:=u) hkey kk es.toList x 0 h2 h3]; rfl
theorem yT (L:List MapEntry) (j:Nat) (f:MapEntry->MapEntry) (hf:∀ e,(f e).born=e.born):(L.modify j f).map (·.born)=L.map (·.born):=by
 induction L generalizing j with
 | nil=>cases j <;> rfl
 | cons e L ih =>
  cases j with
  | zero=>show (f e).born::_=e.born::_; rw [hf]
  | succ j=>show e.born::(L.modify j f).map (·.born)=_; rw [ih]; rfl
theorem Gm {t u:Ty} (ht:isKey t=true) {x:List (El t×El u)} (h:x.Pairwise fun a b=>a.1≠b.1) (k:El t) (v:El u):(dn t u x k v).Pairwise fun a b=>a.1≠b.1:=by
 have mem:∀ x:List (El t×El u),∀ p∈dn t u x k v,p.1=k\/p∈x:=by
  intro x
  induction x with
  | nil=>intro p hp; exact .inl (by rw [List.mem_singleton.1 hp])
  | cons q x ih =>
   intro p hp
   unfold dn at hp
   cases hb:jw t k q.1 with
   | true =>
    rw [hb,cond_true] at hp
    rcases List.mem_cons.1 hp with rfl | hp
    ·exact .inl rfl
    ·exact .inr (List.mem_cons_of_mem _ hp)
   | false =>
    rw [hb,cond_false] at hp
    rcases List.mem_cons.1 hp with rfl | hp
    ·exact .inr List.mem_cons_self
    ·exact (ih p hp).imp_right (List.mem_cons_of_mem _)
 induction x with
 | nil=>exact List.pairwise_singleton _ _
 | cons q x ih =>
  obtain ⟨h1,h2⟩:=List.pairwise_cons.1 h
  unfold dn
  cases hb:jw t k q.1 with
  | true =>
   rw [cond_true]
   have e:=(Gh ht k q.1).1 hb
   exact List.pairwise_cons.2 ⟨fun p hp=>by show k≠p.1; rw [e]; exact h1 p hp,h2⟩
  | false =>
   rw [cond_false]
   refine List.pairwise_cons.2 ⟨fun p hp=>?_,ih h2⟩
   rcases mem x p hp with e | hp
   ·rw [e]; exact fun e'=>by rw [(Gh ht k q.1).2 e'.symm] at hb; cases hb
   ·exact h1 p hp
theorem TY {t u:Ty} (x:List (El t×El u)) (k:El t):(iV t u x k).Sublist x:=by
 induction x with
 | nil=>exact .slnil
 | cons q x ih =>
  unfold iV
  cases jw t k q.1 with
  | true=>exact List.sublist_cons_self _ _
  | false=>exact ih.cons_cons _
theorem TZ {es es':Array MapEntry} {ck:Nat} {e0:MapEntry} (h:(∀ (i:Nat) (e:MapEntry),es.toList[i]? = some e->e.born=i)/\ck=es.toList.length) (hto:es'.toList=es.toList++[{ e0 with born:=ck }]) :
  (∀ (i:Nat) (e:MapEntry),es'.toList[i]? = some e->e.born=i)/\ck+1=es'.toList.length:=by
 rw [hto]
 refine ⟨fun i e he=>?_,by rw [List.length_append,List.length_singleton,h.2]⟩
 by_cases hlt:i<es.toList.length
 ·rw [List.getElem?_append_left hlt] at he; exact h.1 i e he
 ·rw [List.getElem?_append_right (by omega)] at he
  have hi:i-es.toList.length=0:=by
   have:=(List.getElem?_eq_some_iff.1 he).1
   rw [List.length_singleton] at this; omega
  rw [hi] at he
  have he:some { e0 with born:=ck }=some e:=he
  cases he
  show ck=i
  have:=h.2
  omega
theorem Lg {es es':Array MapEntry} {ck j:Nat} {f:MapEntry->MapEntry} (h:(∀ (i:Nat) (e:MapEntry),es.toList[i]? = some e->e.born=i)/\ck=es.toList.length) (hto:es'.toList=es.toList.modify j f) (hf:∀ e,(f e).born=e.born) :
  (∀ (i:Nat) (e:MapEntry),es'.toList[i]? = some e->e.born=i)/\ck=es'.toList.length:=by
 rw [hto]
 refine ⟨fun i e he=>?_,by rw [List.length_modify]; exact h.2⟩
 rw [List.getElem?_modify] at he
 cases hq:es.toList[i]? with
 | none=>rw [hq] at he; cases he
 | some e1 =>
  rw [hq] at he
  have h1:=h.1 i e1 hq
  have he:some (if j=i then f e1 else e1)=some e:=he
  cases he
  split
  ·rw [hf]; exact h1
  ·exact h1
theorem acT {t u:Ty} (x:List (El t×El u)) (k:El t):match gW t u x k with | some j=>iF t u x k=j/\(getM t u x k).isSome=true | none=>iF t u x k=x.length/\getM t u x k=none:=by
 induction x with
 | nil=>exact ⟨rfl,rfl⟩
 | cons p x ih =>
  unfold gW iF getM
  cases hb:jw t k p.1 with
  | true=>exact ⟨rfl,rfl⟩
  | false =>
   simp only [cond_false]
   revert ih
   cases gW t u x k with
   | none=>exact fun h=>⟨by rw [h.1]; rfl,h.2⟩
   | some j=>exact fun h=>⟨by rw [h.1],h.2⟩
theorem T9 (hT:bG P T) (hM:aV base w S m M) (t:TypeId) {vx vk vv:Value} {x k v:AV} (hx:Rel w S m vx x) (hkv:Rel w S m vk k) (hvv:Rel w S m vv v) (hk:aG (sM ae T M t x k v).ks) :
  vU base w S m P (sM ae T M t x k v) (Instr.mapUpdate t vx vk vv):=by
 unfold sM at hk ⊢
 split at hk
 case h_2=>exact (aH hk).elim
 rename_i a u z hm
 obtain ⟨kt,e,h1,hku,hkey,hksz,h3,h4,h5,h6⟩:=Lc hT hm
 have hu:=Gj hT h1
 split at hk
 case h_2=>exact (aH hk).elim
 rename_i kk y hkk hy
 have hvk:=yR hkey (Ct (hksz) hkk hkv)
 have hkr:=Gl (hksz) hkk hkv
 have hvr:=Gl h4 hy hvv
 subst hvk
 split at hk
 case h_2=>exact (aH hk).elim
 rename_i i
 split at hk
 case h_2=>exact (aH hk).elim
 rename_i a' u' l' hb
 split at hk
 case h_2=>exact (aH hk).elim
 rename_i l'' hc
 have hlen:(dn a u l'' kk y).length<=maxLen:=by
  have hk:ae.ble (dn a u l'' kk y).length 9223372036854775807=true:=hk
  simpa [ae,maxLen] using hk
 cases hx with
 | gy _ _ h=>exact (by have hB:=hM.bk _ _ h; rw [hb] at hB; exact hB:False).elim
 | mp _ _ l h =>
  have hB:=eX hM h
  rw [hb] at hB
  obtain ⟨_,_,hcast⟩:=yS hc
  have hB:=hcast (fun a b x=>bZ w S m (some l) (.map a b x)) hB
  obtain ⟨es,ck,q1,q2,q3,q4,q5⟩:=Cr hB hkey h4
  have hg:(getObj l.g).run P w = .ok (.map es ck) w:=by simp [getObj,Sem.run,q1]
  have hfk:=Lf (u:=u) hku hkey kk q2 q3 w
  cases hq:gW a u l'' kk with
  | none =>
   obtain ⟨n1,n2,n3,n4⟩:=tL hq
   rw [hq] at hfk
   have hfk:(Instr.findKey kt (cO a kk) es.toList).run P w = .ok none w:=hfk
   rw [n3 y] at hlen ⊢
   have hto:(es.push { key:=cO a kk,val:=vv,born:=ck }).toList=es.toList++[{ key:=cO a kk,val:=vv,born:=ck }]:=Array.toList_push
   obtain ⟨ht,hm'⟩:=wz (t:=a) (u:=u) (x:=l''++[(kk,y)]) (es:=es.push { key:=cO a kk,val:=vv,born:=ck }) (ck:=ck+1) (l0:=l'') hM h ⟨_,_,_,hb⟩ (by rw [hto]; simp [q2]) (fun j hj hj'=>by
     rw [List.getElem_of_eq hto]
     by_cases hlt:j<es.toList.length
     ·rw [List.getElem_append_left hlt,List.getElem_append_left (by omega)]; exact q4 j hlt (by omega)
     ·have e1:j=es.toList.length:=by rw [hto] at hj; simp at hj; simp at hlt; simp; omega
      subst e1
      rw [List.getElem_append_right (Nat.le_refl _),List.getElem_append_right (by omega)]
      simp only [q2,Nat.sub_self,List.getElem_cons_zero]
      exact ⟨hkr,hvr⟩) ⟨fun e he=>by
       rw [hto] at he
       rcases List.mem_append.1 he with he | he
       ·have:=q5.born e he; omega
       ·rw [List.mem_singleton.1 he]; exact Nat.lt_succ_self _,by
       rw [hto,List.map_append,List.nodup_append]
       refine ⟨q5.once,(List.nodup_cons.2 ⟨List.not_mem_nil,List.nodup_nil⟩),fun b hb c hc=>?_⟩
       obtain ⟨e,he,rfl⟩:=List.mem_map.1 hb
       rw [List.mem_singleton.1 hc]
       have:=q5.born e he
       exact Nat.ne_of_lt this,by rw [<- n3 y]; exact Gm hkey q5.keys kk y,hksz,(fun _=>h4),hlen,fun ha=>TZ (e0:={ key:=cO a kk,val:=vv,born:=ck }) (q5.idx ha) hto⟩
   refine ⟨_,S,m,?_,ht,hm',rfl⟩
   unfold Instr.mapUpdate
   simp only [Sem.run_bind,run_underlying hu,Result.andThen_ok,hg,tK hkey hku,hfk]
   exact wy q1 _ _
  | some j =>
   obtain ⟨hj,hje,_⟩:=wo hq
   have hj':j<es.toList.length:=by omega
   obtain ⟨p1,_⟩:=Lb y hq
   have hkeq:kk=l''[j].1:=(Gh hkey _ _).1 hje
   rw [hq] at hfk
   have hfk:(Instr.findKey kt (cO a kk) es.toList).run P w = .ok (some (j,es.toList[j].val)) w:=by
    rw [hfk]; simp only [Option.bind_some,List.getElem?_eq_getElem hj',Option.map_some,Nat.zero_add]
   rw [p1] at hlen ⊢
   have hto:(es.modify j fun e=>{ e with key:=cO a kk,val:=vv }).toList=es.toList.modify j fun e=>{ e with key:=cO a kk,val:=vv }:=Array.toList_modify
   obtain ⟨ht,hm'⟩:=wz (t:=a) (u:=u) (x:=l''.set j (kk,y)) (es:=es.modify j fun e=>{ e with key:=cO a kk,val:=vv }) (ck:=ck) (l0:=l'') hM h ⟨_,_,_,hb⟩ (by rw [hto]; simp [q2]) (fun i hi hi'=>by
     rw [List.getElem_of_eq hto,List.getElem_modify,List.getElem_set]
     rw [hto,List.length_modify] at hi
     rw [List.length_set] at hi'
     by_cases e:j=i
     ·rw [if_pos e,if_pos e]; exact ⟨hkr,hvr⟩
     ·rw [if_neg e,if_neg e]; exact q4 i hi hi') ⟨fun e he=>by
       rw [hto] at he
       have hmem:e.born∈(es.toList.modify j fun e=>{ e with key:=cO a kk,val:=vv }).map (·.born):=List.mem_map_of_mem he
       rw [yT _ _ (fun e=>{ e with key:=cO a kk,val:=vv }) (fun _=>rfl)] at hmem
       obtain ⟨e0,he0,e1⟩:=List.mem_map.1 hmem
       rw [<- e1]; exact q5.born e0 he0,by
       rw [hto,yT _ _ (fun e=>{ e with key:=cO a kk,val:=vv }) (fun _=>rfl)]; exact q5.once,by rw [<- p1]; exact Gm hkey q5.keys kk y,hksz,(fun _=>h4),hlen,fun ha=>Lg (q5.idx ha) hto fun _=>rfl⟩
   refine ⟨_,S,m,?_,ht,hm',rfl⟩
   have hold:((es[j]?).map (·.key)).getD (cO a kk)=cO a kk:=by
    rw [<- Array.getElem?_toList,List.getElem?_eq_getElem hj']
    show es.toList[j].key=_
    rw [q3 j hj' hj,hkeq]
   unfold Instr.mapUpdate
   simp only [Sem.run_bind,run_underlying hu,Result.andThen_ok,hg,tK hkey hku,hfk,hold,TW hkey]
   exact wy q1 _ _
theorem aV.grow (h:aV base w S m M) {S':Nat->Prop} (hS:∀ g,S g->S' g) (hb:∀ g,S' g->g<w.heap.size) (hno:∀ (i:Nat) (l:Loc),m[i]? = some (some l)->¬ S' l.g) (hnx:∀ (i:Nat) (l:Loc),m[i]? = some (some l)->∀ g∈l.ext,S' g->S g):aV base w S' m M:=by
 have hrel:∀ {n:aY} {v x},Rel w S n v x->Rel w S' n v x:=fun hr=>hr.mono hS (fun _ _=>rfl) _ (fun _ _ h=>h)
 refine ⟨h.len,hb,fun i l hi=>?_,fun i l hi=>⟨(h.lt i l hi).1,(h.lt i l hi).2.1,hno i l hi⟩,h.inj,h.fu,h.iO,h.pin,fun i l hi=>(h.ext i l hi).to (fun _ _ h=>h) (Nat.le_refl _) (fun b hb h=>.inl (hnx i l hi b hb h)) fun j l' hj=>.inl ⟨l',hj,rfl,.inl rfl⟩⟩
 have hB:=h.bk i l hi
 cases l with
 | none=>revert hB; cases blk M i <;> exact fun h=>h
 | some l =>
  revert hB
  cases blk M i with
  | dead=>exact fun h=>h
  | dz x y=>exact fun hf=>hf.keep hS (fun _ _=>rfl) rfl fun _ _=>rfl
  | cells e cs=>rintro ⟨vs,h1,h2,h3,h4⟩; exact ⟨vs,h1,h2,h3,fun i hi=>hrel (h4 i hi)⟩
  | rows e sz n c=>rintro ⟨h0,h1,h2,h3,vs,h4,h5,h6⟩; exact ⟨h0,h1,h2,h3,vs,h4,h5,fun i hi j hj=>⟨(h6 i hi j hj).1,hrel (h6 i hi j hj).2⟩⟩
  | bC e ty x=>rintro ⟨h0,h1,h2,h3,vs,h4,h5,h6⟩; exact ⟨h0,h1,h2,h3,vs,h4,h5,fun i hi j hj=>⟨(h6 i hi j hj).1,hrel (h6 i hi j hj).2⟩⟩
  | dV e ty x=>rintro ⟨h0,h1,h2,h3,vs,fz,h4,h5,h6⟩; exact ⟨h0,h1,h2,h3,vs,fz,h4,h5,fun i hi j hj=>⟨(h6 i hi j hj).1,hrel (h6 i hi j hj).2⟩⟩
  | arr e ty x=>rintro ⟨vs,h4,h5,h6⟩; exact ⟨vs,h4,h5,fun i hi=>⟨(h6 i hi).1,hrel (h6 i hi).2⟩⟩
  | map ty uy x=>rintro ⟨es,ck,h4,h5,h6,h7⟩; exact ⟨es,ck,h4,h5,fun i hi=>⟨hrel (h6 i hi).1,hrel (h6 i hi).2⟩,h7⟩
  | dW s pos=>exact fun h=>h
theorem aV.give (hM:aV base w S m M) {b e:Nat} {u:Ty} {l:List (El u)} (hb:blk M b = .bC e u l) {v:Value} (hv:Rel w S m v (.bz b)) :
  ∃ S':Nat->Prop,Trans base w S m w S' (m.set b none) (some b)/\aV base w S' (m.set b none) (iI b (dA M b .dead))/\Rel w S' (m.set b none) v (.bF u l false):=by
 have hblt:b<aB M:=mi _ _ (by rw [hb]; intro e; cases e)
 obtain ⟨ol,hol⟩:∃ ol,m[b]? = some ol:=⟨m[b]'(by rw [hM.len]; exact hblt),List.getElem?_eq_getElem _⟩
 have hBr:=hM.bk b ol hol
 rw [hb] at hBr
 obtain ⟨ht,hm⟩:=hM.move b ol hol none .dead (by rw [hb]; rfl) (bX.refl _ _) (fun _ _ _=>rfl) (fun l2 e=>by cases e) trivial
 let S':Nat->Prop:=fun g=>S g\/∃ l,ol=some l/\g=l.g
 have hS:∀ g,S g->S' g:=fun _ h=>.inl h
 refine ⟨S',⟨ht.below,fun _ h=>.inl h,fun g hg=>hg.elim .inl (fun ⟨l,e,h⟩=>.inr (h▸(hM.lt b l (e▸hol)).1)),ht.st,ht.lm⟩,
  hm.grow hS (fun g hg=>hg.elim (hM.sb g) fun ⟨l,e,h⟩=>h▸(hM.lt b l (e▸hol)).2.1) (fun i l hi hs=>hs.elim (hm.lt i l hi).2.2 fun ⟨l1,e,h⟩=>?_) (fun i l hi g hg hs=>hs.elim id fun ⟨l1,e,h⟩=>?_),?_⟩
 rotate_left
 ·subst e
  by_cases hne:i=b
  ·subst hne; rw [List.getElem?_set_self (by rw [hM.len]; exact hblt)] at hi; cases hi
  ·rw [List.getElem?_set_ne (Ne.symm hne)] at hi
   exact absurd h.symm ((hM.ext i l hi).far g hg b l1 hol).1
 rotate_right
 ·subst e
  by_cases hne:i=b
  ·subst hne; rw [List.getElem?_set_self (by rw [hM.len]; exact hblt)] at hi; cases hi
  ·rw [List.getElem?_set_ne (Ne.symm hne)] at hi
   exact hne (hM.inj i b l l1 hi hol h)
 ·cases hv with
  | bz _ i l' h hc =>
   rw [hol] at h; injection h with h; subst h
   obtain ⟨q1,q2,q3,q4,vs,q5,q6,q7⟩:=hBr
   refine Le.bF id rfl q2 (fun _ _ _ _=>Le.refl _) _ _ _ _ ?_
   refine .slice _ _ _ _ _ _ _ _ (fun i j=>vs.getD (i*aW u+j) Go.undef) (.inr ⟨_,rfl,rfl⟩) (by omega) hc.2 (fun h=>by simp at h) (fun i hi j hj=>⟨?_,(q7 i (by omega) j hj).1⟩) (fun i hi j hj=>(q7 i (by omega) j hj).2.mono hS (fun _ _=>rfl) _ (fun _ _ h=>h))
   rw [Nat.zero_add]
   refine iB q5 ?_
   have:=fP (off:=j) (k:=1) (show i<l'.n by omega) (show j+1<=aW u by omega)
   have h8:l'.n*aW u<=l'.cap*aW u:=Nat.mul_le_mul_right _ hc.1
   omega
  | fD _ aa i h =>
   rw [hol] at h; injection h with h; subst h
   have hB:l.length=0:=hBr
   exact Le.bF id rfl hB.symm (fun _ _ _ _=>Le.refl _) _ _ _ _ (.dL _ _ _ _ _ _ (Nat.zero_le _) (fun h=>by simp at h))
theorem acO (hT:bG P T) (hM:aV base w S m M) (t:TypeId) {vx vk vv:Value} {x k v:AV} (hx:Rel w S m vx x) (hkv:Rel w S m vk k) (hvv:Rel w S m vv v) (hk:aG (FL ae T M t x k v).ks) :
  vU base w S m P (FL ae T M t x k v) (Instr.mapUpdate t vx vk vv):=by
 unfold FL at hk ⊢
 split at hk
 ·rename_i b
  split at hk
  case h_2=>exact (aH hk).elim
  rename_i e u l hb
  obtain ⟨S',ht,hm,hv⟩:=hM.give hb hvv
  obtain ⟨w2,S2,m2,r1,r2,r3,r4⟩:=T9 hT hm t (ht.rel hx) (ht.rel hkv) hv (by
   have:aG (R5 b (sM ae T (iI b (dA M b .dead)) t (jv b x) (jv b k) (.bF u l false))).ks:=hk
   exact this)
  have e0:(sM ae T (iI b (dA M b .dead)) t (jv b x) (jv b k) (.bF u l false)).inv=none:=by
   unfold sM bad
   repeat' split
   all_goals rfl
  have r2:Trans base w S' (m.set b none) w2 S2 m2 none:=e0▸r2
  exact ⟨w2,S2,m2,r1,⟨⟨r2.below.os,r2.below.tape,r2.below.output,r2.below.size,r2.below.block⟩,fun g hg=>r2.sub g (ht.sub g hg),fun g hg=>(r2.up g hg).elim (ht.up g) .inr,fun g hg=>r2.st g (ht.sub g hg),fun i l hi hl=>by
   obtain ⟨l1,h1,h2⟩:=ht.lm i l hi hl
   obtain ⟨l2,h3,h4⟩:=r2.lm i l1 (Kz i) h1
   exact ⟨l2,h3,h2.trans h4⟩⟩,r3,r4⟩
 ·exact T9 hT hM t hx hkv hvv hk
theorem Ua {α:Type} (L:List α) (j i:Nat) (h:i<(L.eraseIdx j).length) (hj:j<L.length):∃ (i':Nat) (h':i'<L.length),(L.eraseIdx j)[i]=L[i']/\i'=if i<j then i else i+1:=by
 have hl:(L.eraseIdx j).length=L.length-1:=List.length_eraseIdx_of_lt hj
 by_cases hlt:i<j
 ·exact ⟨i,by omega,by rw [List.getElem_eraseIdx_of_lt h hlt],by rw [if_pos hlt]⟩
 ·exact ⟨i+1,by omega,by rw [List.getElem_eraseIdx_of_ge h (by omega)],by rw [if_neg hlt]⟩
theorem acN (hT:bG P T) (hM:aV base w S m M) (t kt0 ty:TypeId) {vx vk:Value} {x k:AV} (hx:Rel w S m vx x) (hkv:Rel w S m vk k) (hk:aG (FM T M t x k).ks) :
  cB base w S m P (FM T M t x k) (Builtin.delete_ #[t,kt0] ty #[vx,vk]):=by
 unfold FM at hk ⊢
 split at hk
 case h_2=>exact (aH hk).elim
 rename_i a u z hm
 obtain ⟨kt,e,h1,hku,hkey,hksz,h3,h4,h5,h6⟩:=Lc hT hm
 have hu:=Gj hT h1
 split at hk
 case h_2=>exact (aH hk).elim
 rename_i kk hkk
 have hvk:=yR hkey (Ct (hksz) hkk hkv)
 subst hvk
 have htup:∀ {w':World},Rel w' S m (.tuple #[]) (.bN []):=.bN _ _ _ rfl fun i hi=>absurd hi (Nat.not_lt_zero i)
 split at hk
 ·cases hx
  refine .val hM (v:=.tuple #[]) ?_ htup
  have hck:=tK hkey hku true kk w
  unfold Builtin.delete_
  simp [run_underlying hu,hck]
 ·rename_i i
  split at hk
  case h_2=>exact (aH hk).elim
  rename_i a' u' l' hb
  split at hk
  case h_2=>exact (aH hk).elim
  rename_i l'' hc hint
  cases hx with
  | gy _ _ h=>exact (by have hB:=hM.bk _ _ h; rw [hb] at hB; exact hB:False).elim
  | mp _ _ l h =>
   have hB:=eX hM h
   rw [hb] at hB
   obtain ⟨_,_,hcast⟩:=yS hc
   have hB:=hcast (fun a b x=>bZ w S m (some l) (.map a b x)) hB
   obtain ⟨es,ck,q1,q2,q3,q4,q5⟩:=Cr hB hkey h4
   have hg:(getObj l.g).run P w = .ok (.map es ck) w:=by simp [getObj,Sem.run,q1]
   have hfk:=Lf (u:=u) hku hkey kk q2 q3 w
   have hck:=fun b=>tK hkey hku b kk w
   cases hq:gW a u l'' kk with
   | none =>
    obtain ⟨n1,n2,n3,n4⟩:=tL hq
    rw [hq] at hfk
    have hfk:(Instr.findKey kt (cO a kk) es.toList).run P w = .ok none w:=hfk
    rw [n4]
    obtain ⟨ht,hm'⟩:=wz (t:=a) (u:=u) (x:=l'') (es:=es) (ck:=ck) (l0:=l'') hM h ⟨_,_,_,hb⟩ q2 q4 q5
    refine ⟨.tuple #[],_,S,m,?_,ht,hm',htup⟩
    unfold Builtin.delete_
    simp [run_underlying hu,hck,hg,hfk,wy q1]
   | some j =>
    obtain ⟨hj,hje,_⟩:=wo hq
    have hj':j<es.toList.length:=by omega
    obtain ⟨_,p2⟩:=Lb (aS u) hq
    rw [hq] at hfk
    have hfk:(Instr.findKey kt (cO a kk) es.toList).run P w = .ok (some (j,es.toList[j].val)) w:=by
     rw [hfk]; simp only [Option.bind_some,List.getElem?_eq_getElem hj',Option.map_some,Nat.zero_add]
    have hsub:=TY l'' kk
    rw [p2] at hsub ⊢
    have hto:(es.eraseIdxIfInBounds j).toList=es.toList.eraseIdx j:=Array.toList_eraseIdxIfInBounds
    have hl1:(es.toList.eraseIdx j).length=es.toList.length-1:=List.length_eraseIdx_of_lt hj'
    have hl2:(l''.eraseIdx j).length=l''.length-1:=List.length_eraseIdx_of_lt hj
    obtain ⟨ht,hm'⟩:=wz (t:=a) (u:=u) (x:=l''.eraseIdx j) (es:=es.eraseIdxIfInBounds j) (ck:=ck) (l0:=l'') hM h ⟨_,_,_,hb⟩ (by rw [hto,hl1,hl2,q2]) (fun i hi hi'=>by
      rw [List.getElem_of_eq hto]
      rw [hto] at hi
      obtain ⟨i1,g1,e1,e2⟩:=Ua es.toList j i hi hj'
      obtain ⟨i2,g2,e3,e4⟩:=Ua l'' j i hi' hj
      have e5:i1=i2:=by rw [e2,e4]
      subst e5
      rw [e1,e3]
      exact q4 i1 g1 g2) ⟨fun e he=>by
       rw [hto] at he
       exact q5.born e ((List.eraseIdx_sublist _ _).mem he),by
       rw [hto]
       exact ((List.eraseIdx_sublist es.toList j).map _).nodup q5.once,q5.keys.sublist hsub,hksz,(fun _=>h4),Nat.le_trans hsub.length_le q5.few,fun ha=>by rw [hint] at ha; cases ha⟩
    refine ⟨.tuple #[],_,S,m,?_,ht,hm',htup⟩
    unfold Builtin.delete_
    simp [run_underlying hu,hck,hg,hfk,wy q1]
 ·exact (aH hk).elim
theorem ab1 (hT:bG P T) (hM:aV base w S m M) (t:TypeId) {vx vk:Value} {x k:AV} (hx:Rel w S m vx x) (hkv:Rel w S m vk k) (hk:aG (FN ae T M t x k).ks) :
  cB base w S m P (FN ae T M t x k) (Instr.mapEntry t vx vk):=by
 unfold FN at hk ⊢
 split at hk
 case h_2=>exact (aH hk).elim
 rename_i a u z hm
 obtain ⟨kt,e,h1,h2,h3,h4,h5,h6⟩:=Gi hm
 have hu:=Gj hT h1
 have hku:=TS hT h2
 have hkey:=TT h2
 split at hk
 case h_2=>exact (aH hk).elim
 rename_i kk hkk hint
 have hvk:=yR hkey (Ct (Cs h2) hkk hkv)
 have hkr:=Gl (Cs h2) hkk hkv
 subst hvk
 split at hk
 case h_2=>exact (aH hk).elim
 rename_i i
 split at hk
 case h_2=>exact (aH hk).elim
 rename_i a' u' l' hb
 split at hk
 case h_2=>exact (aH hk).elim
 rename_i l'' hc
 have hlen:(fK a u l'' kk z).length<=maxLen:=by
  have hk:ae.ble (fK a u l'' kk z).length 9223372036854775807=true:=hk
  simpa [ae,maxLen] using hk
 obtain ⟨zv,hz1,hz2⟩:=TU hT h3 h4 h5 h6 w S []
 cases hx with
 | gy _ _ h=>exact (by have hB:=hM.bk _ _ h; rw [hb] at hB; exact hB:False).elim
 | mp _ _ l h =>
  have hB:=eX hM h
  rw [hb] at hB
  obtain ⟨_,_,hcast⟩:=yS hc
  have hB:=hcast (fun a b x=>bZ w S m (some l) (.map a b x)) hB
  obtain ⟨es,ck,q1,q2,q3,q4,q5⟩:=Cr hB hkey h4
  have hg:(getObj l.g).run P w = .ok (.map es ck) w:=by simp [getObj,Sem.run,q1]
  have hfk:=Lf (u:=u) hku hkey kk q2 q3 w
  obtain ⟨i1,i2⟩:=q5.idx hint
  have hpos:=acT (t:=a) (u:=u) l'' kk
  have hwf:∀ n:Nat,n<maxLen->(Lit.int .i64 (n:Int)).wf=true:=fun n hn=>(tq _ _).2 (by show (-9223372036854775808:Int)<=_/\_<=(9223372036854775807:Int); unfold maxLen at hn; omega)
  cases hq:gW a u l'' kk with
  | none =>
   obtain ⟨n1,n2,n3,n4⟩:=tL hq
   rw [hq] at hfk hpos
   have hfk:(Instr.findKey kt (cO a kk) es.toList).run P w = .ok none w:=hfk
   have he:fK a u l'' kk z=l''++[(kk,z)]:=by unfold fK; rw [n1]
   rw [he] at hlen ⊢
   rw [hpos.1,n1]
   have hto:(es.push { key:=cO a kk,val:=zv,born:=ck }).toList=es.toList++[{ key:=cO a kk,val:=zv,born:=ck }]:=Array.toList_push
   obtain ⟨ht,hm'⟩:=wz (t:=a) (u:=u) (x:=l''++[(kk,z)]) (es:=es.push { key:=cO a kk,val:=zv,born:=ck }) (ck:=ck+1) (l0:=l'') hM h ⟨_,_,_,hb⟩ (by rw [hto]; simp [q2]) (fun j hj hj'=>by
     rw [List.getElem_of_eq hto]
     by_cases hlt:j<es.toList.length
     ·rw [List.getElem_append_left hlt,List.getElem_append_left (by omega)]; exact q4 j hlt (by omega)
     ·have e1:j=es.toList.length:=by rw [hto] at hj; simp at hj; simp at hlt; simp; omega
      subst e1
      rw [List.getElem_append_right (Nat.le_refl _),List.getElem_append_right (by omega)]
      simp only [q2,Nat.sub_self,List.getElem_cons_zero]
      exact ⟨hkr,hz2⟩) ⟨fun e he=>by
       rw [hto] at he
       rcases List.mem_append.1 he with he | he
       ·have:=q5.born e he; omega
       ·rw [List.mem_singleton.1 he]; exact Nat.lt_succ_self _,by
       rw [hto,List.map_append,List.nodup_append]
       refine ⟨q5.once,(List.nodup_cons.2 ⟨List.not_mem_nil,List.nodup_nil⟩),fun b hb c hc=>?_⟩
       obtain ⟨e,he,rfl⟩:=List.mem_map.1 hb
       rw [List.mem_singleton.1 hc]
       have:=q5.born e he
       exact Nat.ne_of_lt this,by rw [<- n3 z]; exact Gm hkey q5.keys kk z,Cs h2,(fun _=>h4),hlen,fun ha=>TZ (e0:={ key:=cO a kk,val:=zv,born:=ck }) (q5.idx ha) hto⟩
   refine ⟨.tuple #[zv,goInt ck],_,S,m,?_,ht,hm',?_⟩
   ·unfold Instr.mapEntry
    simp only [Sem.run_bind,run_underlying hu,Result.andThen_ok,hg,tK hkey hku,hfk,hz1,wy q1]
    rfl
   ·have hck:ck=l''.length:=by rw [i2,q2]
    refine .bN _ _ _ rfl fun i hi=>?_
    match i,hi with
    | 0,_=>exact (hz2.mono (fun _ h=>ht.sub _ h) (fun b hb=>ht.st b hb) _ (fun i l h=>by simp at h))
    | 1,_ =>
     show Rel _ S m (.int .i64 (ck:Int)) (.int .i64 (l''.length:Nat))
     rw [hck]
     exact .int _ _ _ (hwf _ (by rw [List.length_append,List.length_singleton] at hlen; omega))
  | some j =>
   obtain ⟨hj,hje,hgm⟩:=wo hq
   have hj':j<es.toList.length:=by omega
   have hkeq:kk=l''[j].1:=(Gh hkey _ _).1 hje
   rw [hq] at hfk hpos
   have hfk:(Instr.findKey kt (cO a kk) es.toList).run P w = .ok (some (j,es.toList[j].val)) w:=by
    rw [hfk]; simp only [Option.bind_some,List.getElem?_eq_getElem hj',Option.map_some,Nat.zero_add]
   have he:fK a u l'' kk z=l'':=by unfold fK; rw [hgm]
   rw [he] at hlen ⊢
   rw [hpos.1,hgm]
   have hto:(es.modify j fun e=>{ e with key:=cO a kk }).toList=es.toList.modify j fun e=>{ e with key:=cO a kk }:=Array.toList_modify
   have hkk2:es.toList[j].key=cO a kk:=by rw [q3 j hj' hj,hkeq]
   obtain ⟨ht,hm'⟩:=wz (t:=a) (u:=u) (x:=l'') (es:=es.modify j fun e=>{ e with key:=cO a kk }) (ck:=ck) (l0:=l'') hM h ⟨_,_,_,hb⟩ (by rw [hto]; simp [q2]) (fun i hi hi'=>by
     rw [List.getElem_of_eq hto,List.getElem_modify]
     rw [hto,List.length_modify] at hi
     by_cases e:j=i
     ·subst e
      rw [if_pos rfl]
      exact ⟨by show Rel w S [] (cO a kk) _; rw [<- hkk2]; exact (q4 j hi hi').1,(q4 j hi hi').2⟩
     ·rw [if_neg e]; exact q4 i hi hi') ⟨fun e he=>by
       rw [hto] at he
       have hmem:e.born∈(es.toList.modify j fun e=>{ e with key:=cO a kk }).map (·.born):=List.mem_map_of_mem he
       rw [yT _ _ (fun e=>{ e with key:=cO a kk }) (fun _=>rfl)] at hmem
       obtain ⟨e0,he0,e1⟩:=List.mem_map.1 hmem
       rw [<- e1]; exact q5.born e0 he0,by
       rw [hto,yT _ _ (fun e=>{ e with key:=cO a kk }) (fun _=>rfl)]; exact q5.once,q5.keys,Cs h2,(fun _=>h4),hlen,fun ha=>Lg (q5.idx ha) hto fun _=>rfl⟩
   refine ⟨.tuple #[es.toList[j].val,goInt j],_,S,m,?_,ht,hm',?_⟩
   ·have hold:((es[j]?).map (·.key)).getD (cO a kk)=cO a kk:=by
     rw [<- Array.getElem?_toList,List.getElem?_eq_getElem hj']
     exact hkk2
    have hborn:((es[j]?).map (fun x=>(x.born:Int))).getD 0=(j:Int):=by
     rw [<- Array.getElem?_toList,List.getElem?_eq_getElem hj']
     exact congrArg Nat.cast (i1 j _ (List.getElem?_eq_getElem hj'))
    unfold Instr.mapEntry
    simp only [Sem.run_bind,run_underlying hu,Result.andThen_ok,hg,tK hkey hku,hfk,hold,TW hkey,wy q1,hborn]
    rfl
   ·refine .bN _ _ _ rfl fun i hi=>?_
    match i,hi with
    | 0,_=>exact ((q4 j hj' hj).2.mono (fun _ h=>ht.sub _ h) (fun b hb=>ht.st b hb) _ (fun i l h=>by simp at h))
    | 1,_=>exact .int _ _ _ (hwf _ (by omega))
theorem ab2 (hT:bG P T) (hM:aV base w S m M) (t:TypeId) {vx vs vv:Value} {x s v:AV} (hx:Rel w S m vx x) (hsv:Rel w S m vs s) (hvv:Rel w S m vv v) (hk:aG (FO ae T M t x s v).ks) :
  vU base w S m P (FO ae T M t x s v) (Instr.entryStore t vx vs vv):=by
 unfold FO at hk ⊢
 split at hk
 case h_2=>exact (aH hk).elim
 rename_i a u z hm
 obtain ⟨kt,e,h1,h2,h3,h4,h5,h6⟩:=Gi hm
 have hkey:=TT h2
 split at hk
 case h_2=>exact (aH hk).elim
 rename_i y hy hint
 have hvr:=Gl h4 hy hvv
 split at hk
 case h_2=>exact (aH hk).elim
 rename_i i n
 split at hk
 case h_2=>exact (aH hk).elim
 rename_i a' u' l' hb
 split at hk
 case h_2=>exact (aH hk).elim
 rename_i l'' hc
 have hn:0<=n/\n<l''.length:=by
  have hk:ae.aD n l''.length=true:=hk
  simpa [ae] using hk
 obtain ⟨j,rfl⟩:=Int.eq_ofNat_of_zero_le hn.1
 have hj:j<l''.length:=by omega
 cases hsv
 cases hx with
 | gy _ _ h=>exact (by have hB:=hM.bk _ _ h; rw [hb] at hB; exact hB:False).elim
 | mp _ _ l h =>
  have hB:=eX hM h
  rw [hb] at hB
  obtain ⟨_,_,hcast⟩:=yS hc
  have hB:=hcast (fun a b x=>bZ w S m (some l) (.map a b x)) hB
  obtain ⟨es,ck,q1,q2,q3,q4,q5⟩:=Cr hB hkey h4
  have hg:(getObj l.g).run P w = .ok (.map es ck) w:=by simp [getObj,Sem.run,q1]
  obtain ⟨i1,i2⟩:=q5.idx hint
  have hj':j<es.toList.length:=by omega
  have hjs:j<es.size:=by simpa using hj'
  have hfi:es.findIdx? (fun e=>(e.born:Int)==(j:Int))=some j:=by
   rw [Array.findIdx?_eq_some_iff_getElem]
   refine ⟨hjs,?_,fun i hi=>?_⟩
   ·have:=i1 j es[j] (by rw [Array.getElem?_toList,Array.getElem?_eq_getElem hjs])
    rw [this]; exact beq_self_eq_true _
   ·have his:i<es.size:=by omega
    have:=i1 i es[i] (by rw [Array.getElem?_toList,Array.getElem?_eq_getElem his])
    rw [this]
    simp; omega
  have hto:(es.modify j fun e=>{ e with val:=vv }).toList=es.toList.modify j fun e=>{ e with val:=vv }:=Array.toList_modify
  have hkeys:(l''.modify j fun q=>(q.1,y)).map (·.1)=l''.map (·.1):=by
   refine List.ext_getElem (by simp) fun i hi hi'=>?_
   rw [List.getElem_map,List.getElem_map,List.getElem_modify]
   split <;> rfl
  obtain ⟨ht,hm'⟩:=wz (t:=a) (u:=u) (x:=l''.modify j fun q=>(q.1,y)) (es:=es.modify j fun e=>{ e with val:=vv }) (ck:=ck) (l0:=l'') hM h ⟨_,_,_,hb⟩ (by rw [hto]; simp [q2]) (fun i hi hi'=>by
    rw [List.getElem_of_eq hto,List.getElem_modify,List.getElem_modify]
    rw [hto,List.length_modify] at hi
    rw [List.length_modify] at hi'
    by_cases e:j=i
    ·subst e
     rw [if_pos rfl,if_pos rfl]
     exact ⟨(q4 j hi hi').1,hvr⟩
    ·rw [if_neg e,if_neg e]; exact q4 i hi hi') ⟨fun e he=>by
      rw [hto] at he
      have hmem:e.born∈(es.toList.modify j fun e=>{ e with val:=vv }).map (·.born):=List.mem_map_of_mem he
      rw [yT _ _ (fun e=>{ e with val:=vv }) (fun _=>rfl)] at hmem
      obtain ⟨e0,he0,e1⟩:=List.mem_map.1 hmem
      rw [<- e1]; exact q5.born e0 he0,by
      rw [hto,yT _ _ (fun e=>{ e with val:=vv }) (fun _=>rfl)]; exact q5.once,by
      have:=List.pairwise_map.2 q5.keys
      rw [<- hkeys] at this
      exact List.pairwise_map.1 this,Cs h2,(fun _=>h4),by rw [List.length_modify]; exact q5.few,fun ha=>Lg (q5.idx ha) hto fun _=>rfl⟩
  refine ⟨_,S,m,?_,ht,hm',rfl⟩
  unfold Instr.entryStore
  simp only [Sem.run_bind,hg,Result.andThen_ok,asInt,asIntOf]
  simp only [Sem.run_bind,Sem.run_pure,Result.andThen_ok,hfi]
  exact wy q1 _ _
theorem acU (hT:bG P T) (hM:aV base w S m M) (t:TypeId) {vx vh vm:Value} {x h g:AV} (hx:Rel w S m vx x) (hh:Rel w S m vh h) (hg:Rel w S m vm g)
  (hk:aG (BJ ae T M t x h g).ks):cB base w S m P (BJ ae T M t x h g) (Instr.sliceAt t vx none (some vh) (some vm)):=by
 unfold BJ at hk ⊢
 split at hk
 case h_2=>exact (aH hk).elim
 rename_i e htd
 split at hk
 case h_2=>exact (aH hk).elim
 rename_i u l f kd k kd' k' hpos
 split at hk
 case h_2=>exact (aH hk).elim
 rename_i hkd hsz
 have hkd:=of_decide_eq_true hkd
 subst hkd
 have hk':ae.and (ae.eq k k') (ae.df k l.length)=true:=by simpa [cz,aG] using hk
 have hk2:k=k'/\ae.df k l.length=true:=by
  simp only [ae,Bool.and_eq_true,decide_eq_true_eq] at hk'
  exact ⟨hk'.1,by simpa [ae] using hk'.2⟩
 obtain ⟨rfl,hin⟩:=hk2
 have e1:vm=vh:=by cases hh; cases hg; rfl
 have hr:pK ae T M t (.bF u l f) (.tmp 0) (.tmp 0) (.int kd k)=cz M (ae.df k l.length) (.bF u (l.take (ae.toNat k)) true):=by
  unfold pK
  simp only [htd,hpos,hsz]
 have:=KV hT hM t (vm:=vm) (.tmp 0) (.tmp 0) hx hh (fun _ _ e=>by cases e) (fun _ _ e=>by cases e) (fun _ _ _=>e1) (by rw [hr]; simpa [cz,aG] using hin)
 rw [hr] at this
 exact this
theorem abX (hT:bG P T) (hM:aV base w S m M) (t:TypeId) {vx vh vm:Value} {x h g:AV} (hi mx:Operand) (hx:Rel w S m vx x) (hh:Rel w S m vh h) (hg:Rel w S m vm g)
  (hhi:∀ k n,hi = .const (.int k n)->vh = .int k n) (hmx:∀ k n,mx = .const (.int k n)->vm = .int k n) (hsame:∀ i,hi = .tmp i->mx = .tmp i->vm=vh)
  (hk:aG (vD ae T M t x hi mx h g).ks):cB base w S m P (vD ae T M t x hi mx h g) (Instr.sliceAt t vx none (some vh) (some vm)):=by
 unfold vD at hk ⊢
 split at hk
 ·rename_i i j
  split at hk
  ·rename_i hij
   exact KV hT hM t _ _ hx hh hhi hmx hsame hk
  ·exact acU hT hM t hx hh hg hk
 ·exact KV hT hM t _ _ hx hh hhi hmx hsame hk
end Go.aT
