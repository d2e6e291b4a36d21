/- What an abstract value says of a value: the relation, and how it is carried from world to world. -/
import Derived.Test.YtjkhncojgilbaaaGreatDoorEngA
import Derived.Test.YtjkhncojgilbaaaGreatDoorGlo
namespace Go.aT
open Go Go.RowKit
structure Loc where
 g:Nat
 cap:Nat
 sz:Nat
 n:Nat
 st:Bool
 ext:List Nat:=[]
def Loc.fz (l:Loc):Nat×Nat:=match l.st with | true=>(l.cap*l.sz,l.cap*l.sz+1) | false=>(0,0)
abbrev aY:=List (Option Loc)
def sQ (es:Array MapEntry) (i:Nat):Value:=((es[i]?).map (·.key)).getD Go.undef
def sS (es:Array MapEntry) (i:Nat):Value:=((es[i]?).map (·.val)).getD Go.undef
def qX (t u:Ty) (x:List (El t×El u)) (i:Nat):AV:=nth (dB t (x.getD i (aS t,aS u)).1) 0
def qY (t u:Ty) (x:List (El t×El u)) (i:Nat):AV:=bif xY u then .agg (dB u (x.getD i (aS t,aS u)).2) else nth (dB u (x.getD i (aS t,aS u)).2) 0
theorem Ko {u:Ty} (h:aW u=1):xY u=false:=by
 unfold xY
 split
 ·cases h
 ·rfl
structure yn (t u:Ty) (es:Array MapEntry) (ck:Nat) (x:List (El t×El u)):Prop where
 born:∀ e∈es.toList,e.born<ck
 once:(es.toList.map (·.born)).Nodup
 keys:x.Pairwise fun a b=>a.1≠b.1
 szk:aW t=1
 szv:xY u=false->aW u=1
 few:x.length<=maxLen
 idx:FJ t=true->(∀ (i:Nat) (e:MapEntry),es.toList[i]? = some e->e.born=i)/\ck=es.toList.length
inductive Rel (w:World) (S:Nat->Prop):aY->Value->AV->Prop
 |undef (m:aY) (v:Value):Rel w S m v .undef
 |int (m:aY) (k:IntKind) (n:Int) (h:(Lit.int k n).wf=true):Rel w S m (.int k n) (.int k n)
 |bool (m:aY) (b:Bool):Rel w S m (.bool b) (.bool b)
 |str (m:aY) (s:List UInt8) (h:s.length<=maxLen):Rel w S m (.string (bytes s)) (.str s)
 |agg (m:aY) (vs:Array Value) (cs:List AV) (hl:vs.size=au cs) (h1:∀ i,i<au cs->(vs.getD i Go.undef).oneCell'=true)
   (h:∀ i,i<au cs->Rel w S m (vs.getD i Go.undef) (nth cs i)):Rel w S m (.agg vs) (.agg cs)
 |bN (m:aY) (vs:Array Value) (cs:List AV) (hl:vs.size=au cs) (h:∀ i,i<au cs->Rel w S m (vs.getD i Go.undef) (nth cs i)):Rel w S m (.tuple vs) (.bN cs)
 |dG (m:aY):Rel w S m (.pointer none) .dG
 |bS (m:aY) (b o n:Nat) (c:Nat->AV) (f:Nat->Value) (hs:S b) (hc:∀ j,j<n->w.cell? ⟨b,o+j,none⟩=some (f j)/\(f j).oneCell'=true)
   (h:∀ j,j<n->Rel w S [] (f j) (c j)):Rel w S m (.pointer (some ⟨b,o,none⟩)) (.bS n c)
 |ref (m:aY) (i off:Nat) (l:Loc) (h:m[i]? = some (some l)):Rel w S m (.pointer (some ⟨l.g,off,none⟩)) (.ref i off)
 |jR (m:aY) (i:Nat):Rel w S m (.pointer none) (.dJ i)
 |dJ (m:aY) (i:Nat) (l:Loc) (h:m[i]? = some (some l)):Rel w S m (.pointer (some ⟨l.g,0,none⟩)) (.dJ i)
 |fA (m:aY) (i n:Nat) (l:Loc) (h:m[i]? = some (some l)) (hn:n<=maxLen):Rel w S m (.slice (some ⟨l.g,0,none⟩) n n) (.fA i n)
 |mp (m:aY) (i:Nat) (l:Loc) (h:m[i]? = some (some l)):Rel w S m (.map (some l.g)) (.mp i)
 |gy (m:aY) (i:Nat) (h:m[i]? = some none):Rel w S m (.map none) (.mp i)
 |sub (m:aY) (i j:Nat) (l:Loc) (g:Nat) (h:m[i]? = some (some l)) (hj:l.ext[j]? = some g):Rel w S m (.map (some g)) (.sub i j)
 |mv (m:aY) (b:Nat) (es:Array MapEntry) (ck:Nat) (t u:Ty) (x:List (El t×El u)) (hs:S b) (hg:w.heap[b]? = some (.map es ck)) (hl:es.size=x.length) (h1:∀ i,i<x.length->Rel w S [] (sQ es i) (qX t u x i))
   (h2:∀ i,i<x.length->Rel w S [] (sS es i) (qY t u x i)) (hok:yn t u es ck x):Rel w S m (.map (some b)) (.mv t u x)
 |iL (m:aY):Rel w S m (.map none) (.mv .str xX [])
 |iq (m:aY) (b o n:Nat) (cs:List AV) (f:Nat->Value) (hs:S b) (hn:n<=maxLen) (hl:n=au cs) (hc:∀ j,j<au cs->w.cell? ⟨b,o+j,none⟩=some (f j)/\(f j).oneCell'=true)
   (h:∀ j,j<au cs->Rel w S m (f j) (nth cs j)):Rel w S m (.slice (some ⟨b,o,none⟩) n n) (.dN 0 cs)
 |iM (m:aY) (b o i:Nat) (cs:List AV) (f:Nat->Value) (hs:S b) (hi:i<au cs) (hc:∀ j,j<au cs->w.cell? ⟨b,o+j,none⟩=some (f j)/\(f j).oneCell'=true)
   (h:∀ j,j<au cs->Rel w S m (f j) (nth cs j)):Rel w S m (.pointer (some ⟨b,o+i,none⟩)) (.dN (i+1) cs)
 |bY (m:aY) (i r off:Nat) (l:Loc) (h:m[i]? = some (some l)) (hr:r<l.n):Rel w S m (.pointer (some ⟨l.g,r*l.sz+off,none⟩)) (.bY i r off)
 |slice (m:aY) (b o sz n cap:Nat) (full:Bool) (c:Nat->Nat->AV) (f:Nat->Nat->Value) (hs:S b) (hn:n<=cap) (hcap:cap<=maxLen) (hf:full=true->cap=n)
   (hc:∀ i,i<n->∀ j,j<sz->w.cell? ⟨b,o+i*sz+j,none⟩=some (f i j)/\(f i j).oneCell'=true)
   (h:∀ i,i<n->∀ j,j<sz->Rel w S [] (f i j) (c i j)):Rel w S m (.slice (some ⟨b,o,none⟩) n cap) (.slice sz n full c)
 |dL (m:aY) (a:Option Addr) (cap sz:Nat) (full:Bool) (c:Nat->Nat->AV) (hcap:cap<=maxLen) (hf:full=true->cap=0):Rel w S m (.slice a 0 cap) (.slice sz 0 full c)
 |bF (m:aY) (t:Ty) (l:List (El t)) (full:Bool) (v:Value) (h:Rel w S m v (.slice (aW t) l.length full (vw t l))):Rel w S m v (.bF t l full)
 |bR (m:aY):Rel w S m (.slice none 0 0) .bR
 |emp (m:aY) (a:Option Addr):Rel w S m (.slice a 0 0) .emp
 |tail (m:aY) (a:Option Addr) (i lo n cp:Nat) (hn:n<=cp/\cp<=maxLen) (h:0<n->∃ l:Loc,m[i]? = some (some l)/\a=some ⟨l.g,lo*l.sz,none⟩/\lo+n<=l.n):Rel w S m (.slice a n cp) (.tail i lo n)
 |eZ (m:aY) (a:Option Addr) (i:Nat) (h:m[i]? = some none):Rel w S m (.slice a 0 0) (.own i 0)
 |own (m:aY) (i n:Nat) (l:Loc) (h:m[i]? = some (some l)) (hn:n<=l.n) (hc:l.n<=l.cap/\l.cap<=maxLen):Rel w S m (.slice (some ⟨l.g,0,none⟩) n l.cap) (.own i n)
 |fD (m:aY) (a:Option Addr) (i:Nat) (h:m[i]? = some none):Rel w S m (.slice a 0 0) (.bz i)
 |bz (m:aY) (i:Nat) (l:Loc) (h:m[i]? = some (some l)) (hc:l.n<=l.cap/\l.cap<=maxLen):Rel w S m (.slice (some ⟨l.g,0,none⟩) l.n l.cap) (.bz i)
 |fn (m:aY) (f:Fn) (fs cs:Array Value) (as bs:List AV) (hl:fs.size=au as) (hl':cs.size=au bs)
   (h1:∀ i,i<au as->(fs.getD i Go.undef).oneCell'=true) (h1':∀ i,i<au bs->(cs.getD i Go.undef).oneCell'=true)
   (h:∀ i,i<au as->Rel w S m (fs.getD i Go.undef) (nth as i)) (h':∀ i,i<au bs->Rel w S m (cs.getD i Go.undef) (nth bs i)):Rel w S m (.func f fs cs) (.fn f as bs)
 |bu (m:aY):Rel w S m .nilFunc .bu
 |dZ (m:aY):Rel w S m (.map none) .dZ
 |gM (m:aY):Rel w S m .nilIface .gM
 |iw (m:aY) (vs:Array Value) (cs:List AV) (hl:vs.size=au cs+1) (h0:vs.getD 0 Go.undef = .bool true) (h:∀ i,i<au cs->Rel w S [] (vs.getD (i+1) Go.undef) (nth cs i)):Rel w S m (.tuple vs) (.sF true cs)
 |eU (m:aY) (id:Nat) (fs cs:Array Value) (as bs:List AV) (hl0:fs.size=au as) (hl:cs.size=au bs) (h0:∀ i,i<au as->Rel w S [] (fs.getD i Go.undef) (nth as i)) (h:∀ i,i<au bs->Rel w S [] (cs.getD i Go.undef) (nth bs i)):Rel w S m (.func (.func id) fs cs) (.eU id as bs)
 |eG (m:aY) (b:Bool) (n:Nat) (h:b=true->n=0):Rel w S m (.bool b) (.eG n)
 |iN (m:aY) (cs:List AV):Rel w S m (.tuple #[.bool false]) (.sF false cs)
theorem og (l:List AV):au l=l.length:=by induction l with | nil=>rfl | cons a l ih=>simp [au,ih]
theorem oh (l:Mem):aB l=l.length:=by induction l with | nil=>rfl | cons a l ih=>simp [aB,ih]
theorem pY (l:List AV) (i:Nat):nth l i=l.getD i .undef:=by
 induction l generalizing i with
 | nil=>rfl
 | cons a l ih=>cases i with
  | zero=>rfl
  | succ i=>simpa [nth] using ih i
theorem qZ (l:Mem) (i:Nat):blk l i=l.getD i .dead:=by
 induction l generalizing i with
 | nil=>rfl
 | cons a l ih=>cases i with
  | zero=>rfl
  | succ i=>simpa [blk] using ih i
theorem put_eq (l:List AV) (i:Nat) (v:AV):put l i v=l.set i v:=by
 induction l generalizing i with
 | nil=>rfl
 | cons a l ih=>cases i with
  | zero=>rfl
  | succ i=>simpa [put] using ih i
theorem R6 (l:Mem) (i:Nat) (v:bT):dA l i v=l.set i v:=by
 induction l generalizing i with
 | nil=>rfl
 | cons a l ih=>cases i with
  | zero=>rfl
  | succ i=>simpa [dA] using ih i
theorem R7 (l:Mem) (b:bT):fI l b=l++[b]:=by induction l with | nil=>rfl | cons a l ih=>simp [fI,ih]
theorem kF (k l:List AV):bK k l=k++l:=by induction k with | nil=>rfl | cons a k ih=>simp [bK,ih]
theorem R8 (n:Nat) (l:List AV):takeN n l=l.take n:=by
 induction n generalizing l with
 | zero=>simp [takeN]
 | succ n ih=>cases l with
  | nil=>simp [takeN]
  | cons a l=>simp [takeN,ih]
theorem R9 (n:Nat) (l:List AV):jP n l=l.drop n:=by
 induction n generalizing l with
 | zero=>simp [jP]
 | succ n ih=>cases l with
  | nil=>simp [jP]
  | cons a l=>simp [jP,ih]
theorem kV (c:Nat->AV) (i n:Nat):au (tab c i n)=n:=by
 induction n generalizing i with
 | zero=>rfl
 | succ n ih=>simp [tab,au,ih]
theorem sU (c:Nat->AV) (i n j:Nat) (h:j<n):nth (tab c i n) j=c (i+j):=by
 induction n generalizing i j with
 | zero=>omega
 | succ n ih=>cases j with
  | zero=>rfl
  | succ j=>simp only [tab,nth]; rw [ih (i+1) j (by omega)]; congr 1; omega
theorem Kq (n:Nat) (l:List AV) (h:n<=au l):au (takeN n l)=n:=by
 rw [og] at *; rw [R8]; simp; omega
theorem Kr (n:Nat) (l:List AV):au (jP n l)=au l-n:=by
 rw [og,og,R9]; simp
theorem Kt (l:List AV) (off n j:Nat) (h:j<n):nth (takeN n (jP off l)) j=nth l (off+j):=by
 rw [pY,pY,R8,R9]
 simp [List.getD,List.getElem?_take,h]
theorem jS (l:List AV) (i j:Nat) (v:AV):nth (put l i v) j=if i=j/\i<au l then v else nth l j:=by
 rw [pY,pY,put_eq,og]
 simp only [List.getD,List.getElem?_set]
 split
 ·subst_vars; split
  ·simp_all
  ·rename_i h; simp [h,List.getElem?_eq_none (Nat.le_of_not_lt h)]
 ·rename_i h; simp [h]
theorem lQ (l:List AV) (i:Nat) (v:AV):au (put l i v)=au l:=by rw [og,og,put_eq]; simp
theorem kW (l:List AV) (i:Nat) (h:au l<=i):nth l i = .undef:=by
 rw [pY]; rw [og] at h; simp [List.getD,List.getElem?_eq_none h]
theorem lS (k l:List AV) (i:Nat):nth (bK k l) i=if i<au k then nth k i else nth l (i-au k):=by
 rw [pY,pY,pY,kF,og]
 simp only [List.getD,List.getElem?_append]
 split <;> rfl
theorem kY (k l:List AV):au (bK k l)=au k+au l:=by simp [og,kF]
theorem vN (l:Mem) (b:bT):aB (fI l b)=aB l+1:=by simp [oh,R7]
theorem jy (l:Mem) (b:bT) (i:Nat):blk (fI l b) i=if i=aB l then b else blk l i:=by
 rw [qZ,qZ,R7,oh]
 simp only [List.getD,List.getElem?_append]
 split
 ·rename_i h; rw [if_neg (by omega)]
 ·rename_i h
  split
  ·subst_vars; simp
  ·rw [List.getElem?_eq_none (by simp; omega),List.getElem?_eq_none (by omega)]
theorem gF (l:Mem) (b:bT) (i j:Nat):blk (dA l i b) j=if i=j/\i<aB l then b else blk l j:=by
 rw [qZ,qZ,R6,oh]
 simp only [List.getD,List.getElem?_set]
 split
 ·subst_vars; split
  ·simp_all
  ·rename_i h; simp [h,List.getElem?_eq_none (Nat.le_of_not_lt h)]
 ·rename_i h; simp [h]
theorem kG (l:Mem) (i:Nat) (b:bT):aB (dA l i b)=aB l:=by simp [oh,R6]
theorem aar (l:Mem) (i:Nat):dA l i (blk l i)=l:=by
 induction l generalizing i with
 | nil=>rfl
 | cons a l ih=>cases i with
  | zero=>rfl
  | succ i=>simp [dA,blk,ih]
theorem mi (l:Mem) (i:Nat) (h:blk l i≠.dead):i<aB l:=by
 rw [qZ] at h; rw [oh]
 by_cases hi:i<l.length
 ·exact hi
 ·exact absurd (by simp [List.getD,List.getElem?_eq_none (Nat.le_of_not_lt hi)]) h
theorem jT {x i:Nat} (e:x≠i):Nat.beq x i=false:=by
 cases h:Nat.beq x i
 ·rfl
 ·exact absurd (Nat.eq_of_beq_eq_true h) e
theorem Rel.Sa {w w':World} {S S':Nat->Prop} (hS:∀ b,S b->S' b) (hw:∀ b o v,S b->w.cell? ⟨b,o,none⟩=some v->w'.cell? ⟨b,o,none⟩=some v) (hmp:∀ b es ck,S b->w.heap[b]? = some (.map es ck)->w'.heap[b]? = some (.map es ck)) {m:aY} {v:Value} {a:AV} (h:Rel w S m v a) :
  ∀ m':aY,(∀ (i:Nat) (l:Option Loc),m[i]? = some l->m'[i]? = some l)->Rel w' S' m' v a:=by
 induction h with
 | undef=>intro m' _; exact .undef _ _
 | int _ k n h=>intro m' _; exact .int _ _ _ h
 | bool=>intro m' _; exact .bool _ _
 | str _ s h=>intro m' _; exact .str _ _ h
 | agg _ vs cs hl h1 h ih=>intro m' hm; exact .agg _ _ _ hl h1 fun i hi=>ih i hi m' hm
 | bN _ vs cs hl h ih=>intro m' hm; exact .bN _ _ _ hl fun i hi=>ih i hi m' hm
 | dG=>intro m' _; exact .dG _
 | bS _ b o n c f hs hc h ih =>
  intro m' hm
  refine .bS _ _ _ _ _ f (hS _ hs) (fun j hj=>⟨?_,(hc j hj).2⟩) fun j hj=>ih j hj [] (fun _ _ h=>h)
  exact hw _ _ _ hs (hc j hj).1
 | ref _ i off l h=>intro m' hm; exact .ref _ _ _ _ (hm _ _ h)
 | jR=>intro m' _; exact .jR _ _
 | dJ _ i l h=>intro m' hm; exact .dJ _ _ _ (hm _ _ h)
 | fA _ i n l h hn=>intro m' hm; exact .fA _ _ _ _ (hm _ _ h) hn
 | mp _ i l h=>intro m' hm; exact .mp _ _ _ (hm _ _ h)
 | gy _ i h=>intro m' hm; exact .gy _ _ (hm _ _ h)
 | sub _ i j l g h hj=>intro m' hm; exact .sub _ _ _ _ _ (hm _ _ h) hj
 | mv _ b es ck t u x hs hg hl h1 h2 hok ih1 ih2=>intro m' hm; exact .mv _ b es ck _ _ _ (hS _ hs) (hmp b es ck hs hg) hl (fun i hi=>ih1 i hi [] (fun _ _ h=>h)) (fun i hi=>ih2 i hi [] (fun _ _ h=>h)) hok
 | iL=>intro m' _; exact .iL _
 | iq _ b o n cs f hs hn hl hc h ih=>intro m' hm; exact .iq _ _ _ _ _ f (hS _ hs) hn hl (fun j hj=>⟨hw _ _ _ hs (hc j hj).1,(hc j hj).2⟩) fun j hj=>ih j hj m' hm
 | iM _ b o i cs f hs hi hc h ih=>intro m' hm; exact .iM _ _ _ _ _ f (hS _ hs) hi (fun j hj=>⟨hw _ _ _ hs (hc j hj).1,(hc j hj).2⟩) fun j hj=>ih j hj m' hm
 | bY _ i r off l h hr=>intro m' hm; exact .bY _ _ _ _ _ (hm _ _ h) hr
 | slice _ b o sz n cap full c f hs hn hcap hf hc h ih =>
  intro m' hm
  refine .slice _ _ _ _ _ _ _ _ f (hS _ hs) hn hcap hf (fun i hi j hj=>⟨?_,(hc i hi j hj).2⟩) fun i hi j hj=>ih i hi j hj [] (fun _ _ h=>h)
  exact hw _ _ _ hs (hc i hi j hj).1
 | dL _ a cap sz full c hcap hf=>intro m' _; exact .dL _ _ _ _ _ _ hcap hf
 | bR=>intro m' _; exact .bR _
 | emp _ a=>intro m' _; exact .emp _ _
 | tail _ a i lo n cp hn h=>intro m' hm; exact .tail _ _ _ _ _ _ hn fun h0=>let ⟨l,h1,h2⟩:=h h0; ⟨l,hm _ _ h1,h2⟩
 | eZ _ a i h=>intro m' hm; exact .eZ _ _ _ (hm _ _ h)
 | own _ i n l h hn hc=>intro m' hm; exact .own _ _ _ _ (hm _ _ h) hn hc
 | bF _ t l full v h ih=>intro m' hm; exact .bF _ _ _ _ _ (ih m' hm)
 | fD _ a i h=>intro m' hm; exact .fD _ _ _ (hm _ _ h)
 | bz _ i l h hc=>intro m' hm; exact .bz _ _ _ (hm _ _ h) hc
 | fn _ f fs cs as bs hl hl' h1 h1' h h' ih ih'=>intro m' hm; exact .fn _ _ _ _ _ _ hl hl' h1 h1' (fun i hi=>ih i hi m' hm) fun i hi=>ih' i hi m' hm
 | bu=>intro m' _; exact .bu _
 | dZ=>intro m' _; exact .dZ _
 | gM=>intro m' _; exact .gM _
 | iw _ vs cs hl h0 h ih=>intro m' hm; exact .iw _ _ _ hl h0 fun i hi=>ih i hi [] (fun _ _ h=>h)
 | eU _ id fs cs as0 bs hl0 hl h0 h ih0 ih=>intro m' _; exact .eU _ _ _ _ _ _ hl0 hl (fun i hi=>ih0 i hi [] (fun _ _ h=>h)) fun i hi=>ih i hi [] (fun _ _ h=>h)
 | eG _ b n h=>intro m' _; exact .eG _ _ _ h
 | iN=>intro m' _; exact .iN _ _
theorem Rel.mono {w w':World} {S S':Nat->Prop} (hS:∀ b,S b->S' b) (hw:∀ b,S b->w'.heap[b]? = w.heap[b]?) {m:aY} {v:Value} {a:AV} (h:Rel w S m v a) :
  ∀ m':aY,(∀ (i:Nat) (l:Option Loc),m[i]? = some l->m'[i]? = some l)->Rel w' S' m' v a :=
 h.Sa hS (fun b _ _ hs hc=>by rw [<- hc]; exact World.cell?_of_block (hw b hs)) (fun b _ _ hs hc=>by rw [<- hc]; exact hw b hs)
inductive jA:Option Loc->Option Loc->Prop
 |refl (l:Option Loc):jA l l
 |ext (l:Loc) (e:List Nat):jA (some l) (some { l with ext:=l.ext++e })
theorem jA.BS {l:Option Loc} (h:jA none l):l=none:=by cases h; rfl
theorem jA.nu {l:Loc} {l':Option Loc} (h:jA (some l) l'):∃ e,l'=some { l with ext:=l.ext++e }:=by
 cases h with
 | refl=>exact ⟨[],by simp⟩
 | ext _ e=>exact ⟨e,rfl⟩
theorem jA.trans {a b c:Option Loc} (h:jA a b) (k:jA b c):jA a c:=by
 cases h with
 | refl=>exact k
 | ext l e =>
  obtain ⟨e',rfl⟩:=k.nu
  show jA (some l) (some { l with ext:=(l.ext++e)++e' })
  rw [List.append_assoc]
  exact .ext l (e++e')
def q8 (m m':aY):Prop:=∀ (i:Nat) (l:Option Loc),m[i]? = some l->∃ l',m'[i]? = some l'/\jA l l'
theorem q8.nu {m m':aY} (hm:q8 m m') {i:Nat} {l:Loc} (h:m[i]? = some (some l)):∃ e,m'[i]? = some (some { l with ext:=l.ext++e }):=by
 obtain ⟨l',h1,h2⟩:=hm _ _ h
 obtain ⟨e,rfl⟩:=h2.nu
 exact ⟨e,h1⟩
theorem q8.BS {m m':aY} (hm:q8 m m') {i:Nat} (h:m[i]? = some none):m'[i]? = some none:=by
 obtain ⟨l',h1,h2⟩:=hm _ _ h
 rw [h2.BS] at h1
 exact h1
theorem Rel.longer {w:World} {S:Nat->Prop} {m:aY} {v:Value} {a:AV} (h:Rel w S m v a):∀ m':aY,q8 m m'->Rel w S m' v a:=by
 induction h with
 | undef=>intro m' _; exact .undef _ _
 | int _ k n h=>intro m' _; exact .int _ _ _ h
 | bool=>intro m' _; exact .bool _ _
 | str _ s h=>intro m' _; exact .str _ _ h
 | agg _ vs cs hl h1 h ih=>intro m' hm; exact .agg _ _ _ hl h1 fun i hi=>ih i hi m' hm
 | bN _ vs cs hl h ih=>intro m' hm; exact .bN _ _ _ hl fun i hi=>ih i hi m' hm
 | dG=>intro m' _; exact .dG _
 | bS _ b o n c f hs hc h ih=>intro m' hm; exact .bS _ _ _ _ _ f hs hc h
 | ref _ i off l h=>intro m' hm; obtain ⟨e,h1⟩:=hm.nu h; exact Rel.ref _ _ _ { l with ext:=l.ext++e } h1
 | jR=>intro m' _; exact .jR _ _
 | dJ _ i l h=>intro m' hm; obtain ⟨e,h1⟩:=hm.nu h; exact Rel.dJ _ _ { l with ext:=l.ext++e } h1
 | fA _ i n l h hn=>intro m' hm; obtain ⟨e,h1⟩:=hm.nu h; exact Rel.fA _ _ _ { l with ext:=l.ext++e } h1 hn
 | mp _ i l h=>intro m' hm; obtain ⟨e,h1⟩:=hm.nu h; exact Rel.mp _ _ { l with ext:=l.ext++e } h1
 | gy _ i h=>intro m' hm; exact .gy _ _ (hm.BS h)
 | sub _ i j l g h hj=>intro m' hm; obtain ⟨e,h1⟩:=hm.nu h; exact Rel.sub _ _ _ { l with ext:=l.ext++e } _ h1 (by show (l.ext++e)[j]? = _; rw [List.getElem?_append_left (List.getElem?_eq_some_iff.1 hj).1]; exact hj)
 | mv _ b es ck t u x hs hg hl h1 h2 hok ih1 ih2=>intro m' hm; exact .mv _ b es ck _ _ _ hs hg hl h1 h2 hok
 | iL=>intro m' _; exact .iL _
 | iq _ b o n cs f hs hn hl hc h ih=>intro m' hm; exact .iq _ _ _ _ _ f hs hn hl hc fun j hj=>ih j hj m' hm
 | iM _ b o i cs f hs hi hc h ih=>intro m' hm; exact .iM _ _ _ _ _ f hs hi hc fun j hj=>ih j hj m' hm
 | bY _ i r off l h hr=>intro m' hm; obtain ⟨e,h1⟩:=hm.nu h; exact Rel.bY _ _ _ _ { l with ext:=l.ext++e } h1 hr
 | slice _ b o sz n cap full c f hs hn hcap hf hc h ih=>intro m' hm; exact .slice _ _ _ _ _ _ _ _ f hs hn hcap hf hc h
 | dL _ a cap sz full c hcap hf=>intro m' _; exact .dL _ _ _ _ _ _ hcap hf
 | bR=>intro m' _; exact .bR _
 | emp _ a=>intro m' _; exact .emp _ _
 | tail _ a i lo n cp hn h =>
  intro m' hm
  refine .tail _ _ _ _ _ _ hn fun h0=>?_
  obtain ⟨l,h1,h2⟩:=h h0
  obtain ⟨e,h1⟩:=hm.nu h1
  exact ⟨{ l with ext:=l.ext++e },h1,h2⟩
 | eZ _ a i h=>intro m' hm; exact .eZ _ _ _ (hm.BS h)
 | own _ i n l h hn hc=>intro m' hm; obtain ⟨e,h1⟩:=hm.nu h; exact Rel.own _ _ _ { l with ext:=l.ext++e } h1 hn hc
 | bF _ t l full v h ih=>intro m' hm; exact .bF _ _ _ _ _ (ih m' hm)
 | fD _ a i h=>intro m' hm; exact .fD _ _ _ (hm.BS h)
 | bz _ i l h hc=>intro m' hm; obtain ⟨e,h1⟩:=hm.nu h; exact Rel.bz _ _ { l with ext:=l.ext++e } h1 hc
 | fn _ f fs cs as bs hl hl' h1 h1' h h' ih ih'=>intro m' hm; exact .fn _ _ _ _ _ _ hl hl' h1 h1' (fun i hi=>ih i hi m' hm) fun i hi=>ih' i hi m' hm
 | bu=>intro m' _; exact .bu _
 | dZ=>intro m' _; exact .dZ _
 | gM=>intro m' _; exact .gM _
 | iw _ vs cs hl h0 h ih=>intro m' hm; exact .iw _ _ _ hl h0 h
 | eU _ id fs cs as0 bs hl0 hl h0 h ih0 ih=>intro m' _; exact .eU _ _ _ _ _ _ hl0 hl h0 h
 | eG _ b n h=>intro m' _; exact .eG _ _ _ h
 | iN=>intro m' _; exact .iN _ _
theorem q8.between {m m':aY} {x:Nat} (hm:∀ (i:Nat) (l:Option Loc),hit x i=false->m[i]? = some l->∃ l',m'[i]? = some l'/\jA l l') :
  ∃ m1:aY,q8 m m1/\∀ (i:Nat) (l:Option Loc),hit x i=false->m1[i]? = some l->m'[i]? = some l:=by
 refine ⟨(List.range m.length).map fun i=>if hit x i=true then (m[i]?).getD none else (m'[i]?).getD none,fun i l hi=>?_,fun i l hne hi=>?_⟩
 ·have hlt:i<m.length:=(List.getElem?_eq_some_iff.1 hi).1
  by_cases e:hit x i=true
  ·refine ⟨l,?_,.refl _⟩
   rw [List.getElem?_map,List.getElem?_range hlt]
   show some (if hit x i=true then (m[i]?).getD none else (m'[i]?).getD none)=_
   rw [if_pos e,hi]; rfl
  ·obtain ⟨l',h1,h2⟩:=hm i l (by simpa using e) hi
   refine ⟨l',?_,h2⟩
   rw [List.getElem?_map,List.getElem?_range hlt]
   show some (if hit x i=true then (m[i]?).getD none else (m'[i]?).getD none)=_
   rw [if_neg e,h1]; rfl
 ·by_cases hlt:i<m.length
  ·rw [List.getElem?_map,List.getElem?_range hlt] at hi
   have hi:some (if hit x i=true then (m[i]?).getD none else (m'[i]?).getD none)=some l:=hi
   rw [if_neg (by rw [hne]; exact Bool.false_ne_true)] at hi
   obtain ⟨l',h1,_⟩:=hm i _ hne (List.getElem?_eq_getElem hlt)
   rw [h1] at hi ⊢
   exact hi
  ·rw [List.getElem?_map,List.getElem?_eq_none (by simp; omega)] at hi
   cases hi
theorem Rel.yu {w:World} {S:Nat->Prop} {m:aY} {v:Value} {sz n:Nat} {full:Bool} {c:Nat->Nat->AV} (h:Rel w S m v (.slice sz n full c)) (m':aY):Rel w S m' v (.slice sz n full c):=by
 cases h with
 | slice _ b o _ _ cap _ _ f hs hn hcap hf hc h=>exact .slice _ _ _ _ _ _ _ _ f hs hn hcap hf hc h
 | dL _ a cap _ _ _ hcap hf=>exact .dL _ _ _ _ _ _ hcap hf
theorem Rel.yw {w:World} {S:Nat->Prop} {m:aY} {v:Value} {sz n:Nat} {full:Bool} {c:Nat->Nat->AV} (h:Rel w S m v (.slice sz n full c)):∃ a cap,v = .slice a n cap/\n<=cap/\cap<=maxLen/\(full=true->cap=n) /\
  (n=0\/∃ (b o:Nat) (f:Nat->Nat->Value),a=some ⟨b,o,none⟩/\S b/\(∀ i,i<n->∀ j,j<sz->w.cell? ⟨b,o+i*sz+j,none⟩=some (f i j)/\(f i j).oneCell'=true)/\∀ i,i<n->∀ j,j<sz->Rel w S [] (f i j) (c i j)):=by
 cases h with
 | slice _ b o _ _ cap _ _ f hs hn hcap hf hc h=>exact ⟨_,cap,rfl,hn,hcap,hf,.inr ⟨b,o,f,rfl,hs,hc,h⟩⟩
 | dL _ a cap _ _ _ hcap hf=>exact ⟨a,cap,rfl,Nat.zero_le _,hcap,hf,.inl rfl⟩
theorem Rel.weak {w:World} {S:Nat->Prop} {m:aY} {v:Value} {a:AV} (h:Rel w S [] v a):Rel w S m v a :=
 h.mono (fun _ h=>h) (fun _ _=>rfl) m (fun i l h=>by simp at h)
theorem Ku (i:Nat):hit i i=true:=by unfold hit; rw [Nat.beq_refl]
theorem vO {x i:Nat} (h:hit x i=false):i≠x:=fun e=>by subst e; rw [Ku] at h; cases h
theorem Rel.yx {w w':World} {S S':Nat->Prop} (hS:∀ b,S b->S' b) (hw:∀ b,S b->w'.heap[b]? = w.heap[b]?) {m m':aY} {x:Nat} (hm:∀ (i:Nat) (l:Option Loc),hit x i=false->m[i]? = some l->m'[i]? = some l)
  {v:Value} {a:AV} (h:Rel w S m v a):(∀ cs,a≠.agg cs)->Rel w' S' m' v (eT x a):=by
 intro hag
 cases h with
 | undef=>exact .undef _ _
 | int _ k n h=>exact .int _ _ _ h
 | bool=>exact .bool _ _
 | str _ s h=>exact .str _ _ h
 | agg _ vs cs hl h1 h=>exact absurd rfl (hag cs)
 | bN _ vs cs hl h=>exact .undef _ _
 | dG=>exact .dG _
 | bS _ b o n c f hs hc h=>exact (Rel.bS _ b o n c f hs hc h:Rel w S [] _ _).mono hS hw _ (fun i l h=>by simp at h)
 | ref _ i off l h =>
  simp only [aT.eT]
  cases e:hit x i with
  | true=>exact .undef _ _
  | false=>exact .ref _ _ _ _ (hm _ _ e h)
 | jR _ i =>
  simp only [aT.eT]
  split
  ·exact .undef _ _
  ·exact .jR _ _
 | dJ _ i l h =>
  simp only [aT.eT]
  cases e:hit x i with
  | true=>exact .undef _ _
  | false=>exact .dJ _ _ _ (hm _ _ e h)
 | fA _ i n l h hn =>
  simp only [aT.eT]
  cases e:hit x i with
  | true=>exact .undef _ _
  | false=>exact .fA _ _ _ _ (hm _ _ e h) hn
 | mp _ i l h =>
  simp only [aT.eT]
  cases e:hit x i with
  | true=>exact .undef _ _
  | false=>exact .mp _ _ _ (hm _ _ e h)
 | gy _ i h =>
  simp only [aT.eT]
  cases e:hit x i with
  | true=>exact .undef _ _
  | false=>exact .gy _ _ (hm _ _ e h)
 | sub _ i j l g h hj =>
  simp only [aT.eT]
  cases e:hit x i with
  | true=>exact .undef _ _
  | false=>exact .sub _ _ _ _ _ (hm _ _ e h) hj
 | iq=>exact .undef _ _
 | iM=>exact .undef _ _
 | bY _ i r off l h hr =>
  simp only [aT.eT]
  cases e:hit x i with
  | true=>exact .undef _ _
  | false=>exact .bY _ _ _ _ _ (hm _ _ e h) hr
 | slice _ b o sz n cap full c f hs hn hcap hf hc h=>exact (Rel.slice _ b o sz n cap full c f hs hn hcap hf hc h:Rel w S [] _ _).mono hS hw _ (fun i l h=>by simp at h)
 | iL=>exact .iL _
 | mv _ b es ck t u y hs hg hl h1 h2 hok=>exact (Rel.mv [] b es ck t u y hs hg hl h1 h2 hok:Rel w S [] _ _).mono hS hw _ (fun i l h=>by simp at h)
 | dL _ a cap sz full c hcap hf=>exact .dL _ _ _ _ _ _ hcap hf
 | bR=>exact .bR _
 | emp _ a=>exact .emp _ _
 | tail _ a i lo n cp hn h =>
  simp only [aT.eT]
  cases e:hit x i with
  | true=>exact .undef _ _
  | false=>exact .tail _ _ _ _ _ _ hn fun h0=>let ⟨l,h1,h2⟩:=h h0; ⟨l,hm _ _ e h1,h2⟩
 | eZ _ a i h =>
  simp only [aT.eT]
  cases e:hit x i with
  | true=>exact .undef _ _
  | false=>exact .eZ _ _ _ (hm _ _ e h)
 | own _ i n l h hn hc =>
  simp only [aT.eT]
  cases e:hit x i with
  | true=>exact .undef _ _
  | false=>exact .own _ _ _ _ (hm _ _ e h) hn hc
 | bF _ t l full v h =>
  exact .bF _ _ _ _ _ ((h.yu []).mono hS hw _ (fun i l h=>by simp at h))
 | fD _ a i h =>
  simp only [aT.eT]
  cases e:hit x i with
  | true=>exact .undef _ _
  | false=>exact .fD _ _ _ (hm _ _ e h)
 | bz _ i l h hc =>
  simp only [aT.eT]
  cases e:hit x i with
  | true=>exact .undef _ _
  | false=>exact .bz _ _ _ (hm _ _ e h) hc
 | fn _ f fs cs as bs hl hl' h1 h1' h h'=>exact .undef _ _
 | bu=>exact .bu _
 | dZ=>exact .dZ _
 | gM=>exact .gM _
 | iw _ vs cs hl h0 h=>exact .iw _ _ _ hl h0 fun i hi=>(h i hi).mono hS hw _ (fun _ _ h=>h)
 | eU _ id fs cs as0 bs hl0 hl h0 h=>exact .eU _ _ _ _ _ _ hl0 hl (fun i hi=>(h0 i hi).mono hS hw _ (fun _ _ h=>h)) fun i hi=>(h i hi).mono hS hw _ (fun _ _ h=>h)
 | eG _ b n h=>exact .eG _ _ _ h
 | iN=>exact .iN _ _
theorem kZ (b:Nat) (l:List AV):au (nk b l)=au l:=by induction l with | nil=>rfl | cons a l ih=>simp [nk,au,ih]
theorem BU (b:Nat) (l:List AV) (i:Nat):nth (nk b l) i=eT b (nth l i):=by
 induction l generalizing i with
 | nil=>rfl
 | cons a l ih=>cases i with
  | zero=>rfl
  | succ i=>simpa [nk,nth] using ih i
theorem Kv (b:Nat) (l:List AV) (i:Nat):nth (pM b l) i=jv b (nth l i):=by
 induction l generalizing i with
 | nil=>rfl
 | cons a l ih=>cases i with
  | zero=>rfl
  | succ i=>simpa [pM,nth] using ih i
theorem Kw (b:Nat) (l:List AV):au (pM b l)=au l:=by induction l with | nil=>rfl | cons a l ih=>simp [pM,au,ih]
theorem vP (b:Nat) (l:Mem) (i:Nat):blk (iI b l) i=nX b (blk l i):=by
 induction l generalizing i with
 | nil=>rfl
 | cons a l ih=>cases i with
  | zero=>rfl
  | succ i=>simpa [iI,blk] using ih i
theorem FQ (b:Nat) (l:Mem):aB (iI b l)=aB l:=by induction l with | nil=>rfl | cons a l ih=>simp [iI,aB,ih]
theorem Rel.yz {w:World} {S:Nat->Prop} {m:aY} {v:Value} {a:AV} (h:Rel w S m v a) (h1:v.oneCell'=true):∀ cs,a≠.agg cs:=by
 rintro cs rfl
 cases h
 simp [Value.oneCell'] at h1
theorem Rel.BV {w w':World} {S S':Nat->Prop} (hS:∀ b,S b->S' b) (hw:∀ b,S b->w'.heap[b]? = w.heap[b]?) {m m':aY} {x:Nat} (hm:∀ (i:Nat) (l:Option Loc),hit x i=false->m[i]? = some l->m'[i]? = some l)
  {v:Value} {a:AV} (h:Rel w S m v a):Rel w' S' m' v (aT.sK x a):=by
 by_cases ha:∃ cs,a = .agg cs
 ·obtain ⟨cs,rfl⟩:=ha
  cases h with
  | agg _ vs cs hl h1 h =>
   refine .agg _ _ _ (by rw [kZ]; exact hl) (fun i hi=>h1 i (by rwa [kZ] at hi)) fun i hi=>?_
   rw [kZ] at hi
   rw [BU]
   exact Rel.yx hS hw hm (h i hi) ((h i hi).yz (h1 i hi))
 ·by_cases hf:∃ f as bs,a = .fn f as bs
  ·obtain ⟨f,as,bs,rfl⟩:=hf
   cases h with
   | fn _ f fs cs as bs hl hl' h1 h1' h h' =>
    refine .fn _ _ _ _ _ _ (by rw [kZ]; exact hl) (by rw [kZ]; exact hl') (fun i hi=>h1 i (by rwa [kZ] at hi)) (fun i hi=>h1' i (by rwa [kZ] at hi)) (fun i hi=>?_) (fun i hi=>?_)
    ·rw [kZ] at hi
     rw [BU]
     exact Rel.yx hS hw hm (h i hi) ((h i hi).yz (h1 i hi))
    ·rw [kZ] at hi
     rw [BU]
     exact Rel.yx hS hw hm (h' i hi) ((h' i hi).yz (h1' i hi))
  ·have e:aT.sK x a=aT.eT x a:=by
    cases a <;> first | rfl | (exact absurd ⟨_,rfl⟩ ha) | (exact absurd ⟨_,_,_,rfl⟩ hf)
   rw [e]
   exact Rel.yx hS hw hm h (fun cs e=>ha ⟨cs,e⟩)
theorem sV (b:Nat) (l:List AV):au (vI b l)=au l:=by induction l with | nil=>rfl | cons a l ih=>simp [vI,au,ih]
theorem Ky (b:Nat) (l:List AV) (i:Nat):nth (vI b l) i=aT.sK b (nth l i):=by
 induction l generalizing i with
 | nil=>rfl
 | cons a l ih=>cases i with
  | zero=>rfl
  | succ i=>simpa [vI,nth] using ih i
theorem Rel.Sb {w w':World} {S S':Nat->Prop} (hS:∀ b,S b->S' b) (hw:∀ b,S b->w'.heap[b]? = w.heap[b]?) {m m':aY} {x:Nat} (hm:∀ (i:Nat) (l:Option Loc),hit x i=false->m[i]? = some l->m'[i]? = some l)
  {v:Value} {a:AV} (h:Rel w S m v a):Rel w' S' m' v (aT.jv x a):=by
 by_cases ht:∃ vs,a = .bN vs
 ·obtain ⟨vs,rfl⟩:=ht
  cases h with
  | bN _ us _ hl h =>
   refine .bN _ _ _ (by rw [sV]; exact hl) fun i hi=>?_
   rw [sV] at hi
   rw [Ky]
   exact (h i hi).BV hS hw hm
 ·by_cases hl:∃ k vs,a = .dN k vs
  ·obtain ⟨k,vs,rfl⟩:=hl
   cases h with
   | iq _ b o n _ f hs hn hl hc h =>
    refine .iq _ _ _ _ _ f (hS _ hs) hn (by rw [sV]; exact hl) (fun j hj=>?_) fun j hj=>?_
    ·rw [sV] at hj
     exact ⟨by rw [<- (hc j hj).1]; exact World.cell?_of_block (hw b hs),(hc j hj).2⟩
    ·rw [sV] at hj
     rw [Ky]
     exact (h j hj).BV hS hw hm
   | iM _ b o i _ f hs hi hc h =>
    refine .iM _ _ _ _ _ f (hS _ hs) (by rw [sV]; exact hi) (fun j hj=>?_) fun j hj=>?_
    ·rw [sV] at hj
     exact ⟨by rw [<- (hc j hj).1]; exact World.cell?_of_block (hw b hs),(hc j hj).2⟩
    ·rw [sV] at hj
     rw [Ky]
     exact (h j hj).BV hS hw hm
  have e:aT.jv x a=aT.sK x a:=by
   cases a <;> first | rfl | (exact absurd ⟨_,rfl⟩ ht) | (exact absurd ⟨_,_,rfl⟩ hl)
  rw [e]
  exact h.BV hS hw hm
theorem Rel.eT {w w':World} {S S':Nat->Prop} (hS:∀ b,S b->S' b) (hw:∀ b,S b->w'.heap[b]? = w.heap[b]?) {m m':aY} {x:Nat} (hm:∀ (i:Nat) (l:Option Loc),i≠x->m[i]? = some l->m'[i]? = some l)
  {v:Value} {a:AV} (h:Rel w S m v a):(∀ cs,a≠.agg cs)->Rel w' S' m' v (aT.eT x a):=Rel.yx hS hw (fun i l hi=>hm i l (vO hi)) h
theorem Rel.sK {w w':World} {S S':Nat->Prop} (hS:∀ b,S b->S' b) (hw:∀ b,S b->w'.heap[b]? = w.heap[b]?) {m m':aY} {x:Nat} (hm:∀ (i:Nat) (l:Option Loc),i≠x->m[i]? = some l->m'[i]? = some l)
  {v:Value} {a:AV} (h:Rel w S m v a):Rel w' S' m' v (aT.sK x a):=Rel.BV hS hw (fun i l hi=>hm i l (vO hi)) h
theorem Rel.jv {w w':World} {S S':Nat->Prop} (hS:∀ b,S b->S' b) (hw:∀ b,S b->w'.heap[b]? = w.heap[b]?) {m m':aY} {x:Nat} (hm:∀ (i:Nat) (l:Option Loc),i≠x->m[i]? = some l->m'[i]? = some l)
  {v:Value} {a:AV} (h:Rel w S m v a):Rel w' S' m' v (aT.jv x a):=Rel.Sb hS hw (fun i l hi=>hm i l (vO hi)) h
def BX (w:World) (S:Nat->Prop) (g:Nat) (y:List (El .str×El (.int .i64))):Prop :=
 ∃ (es:Array MapEntry) (ck:Nat),w.heap[g]? = some (.map es ck)/\es.size=y.length/\(∀ i,i<y.length->Rel w S [] (sQ es i) (qX .str (.int .i64) y i)/\Rel w S [] (sS es i) (qY .str (.int .i64) y i))/\yn .str (.int .i64) es ck y
structure aas (es:Array MapEntry) (ck:Nat) (x:List (List UInt8×(Int×(List UInt8×Int)))):Prop where
 born:∀ e∈es.toList,e.born<ck
 once:(es.toList.map (·.born)).Nodup
 keys:x.Pairwise fun a b=>a.1≠b.1
 few:x.length<=maxLen
def BZ (w:World) (S:Nat->Prop) (l:Loc) (x:List (List UInt8×(Int×(List UInt8×Int)))) (y:List (List (List UInt8×Int))):Prop :=
 l.ext.length+1=y.length/\y≠[]/\(∃ (es:Array MapEntry) (ck:Nat),w.heap[l.g]? = some (.map es ck)/\es.size=x.length /\
  (∀ i p,x[i]? = some p->sQ es i = .string (bytes p.1)/\p.1.length<=maxLen/\∃ j g:Nat,p.2.2.2=(j:Int)/\l.ext[j]? = some g/\sS es i = .agg #[.int .i64 p.2.1,.string (bytes p.2.2.1),.map (some g)]/\(Lit.int .i64 p.2.1).wf=true/\p.2.2.1.length<=maxLen)/\aas es ck x) /\
 ∀ (j g:Nat),l.ext[j]? = some g->BX w S g (y.getD (j+1) [])
theorem BX.keep {w w':World} {S S':Nat->Prop} {g:Nat} {y:List (El .str×El (.int .i64))} (h:BX w S g y) (hS:∀ b,S b->S' b) (hst:∀ b,S b->w'.heap[b]? = w.heap[b]?) (hg:w'.heap[g]? = w.heap[g]?):BX w' S' g y:=by
 obtain ⟨es,ck,h1,h2,h3,h4⟩:=h
 exact ⟨es,ck,hg.trans h1,h2,fun i hi=>⟨(h3 i hi).1.mono hS hst _ (fun _ _ h=>h),(h3 i hi).2.mono hS hst _ (fun _ _ h=>h)⟩,h4⟩
theorem BZ.keep {w w':World} {S S':Nat->Prop} {l:Loc} {x:List (List UInt8×(Int×(List UInt8×Int)))} {y:List (List (List UInt8×Int))} (h:BZ w S l x y) (hS:∀ b,S b->S' b) (hst:∀ b,S b->w'.heap[b]? = w.heap[b]?)
  (hg:w'.heap[l.g]? = w.heap[l.g]?) (he:∀ b∈l.ext,w'.heap[b]? = w.heap[b]?):BZ w' S' l x y:=by
 obtain ⟨h1,h2,⟨es,ck,h3,h4,h5,h6⟩,h7⟩:=h
 exact ⟨h1,h2,⟨es,ck,hg.trans h3,h4,h5,h6⟩,fun j g hj=>(h7 j g hj).keep hS hst (he g (List.mem_of_getElem? hj))⟩
def bZ (w:World) (S:Nat->Prop) (m:aY):Option Loc->bT->Prop
 | _,.dead=>True
 | some l,.cells e cs=>∃ vs:Array Value,w.heap[l.g]? = some (.cells vs e (0,0))/\vs.size=au cs/\(∀ i,i<au cs->(vs.getD i Go.undef).oneCell'=true)/\∀ i,i<au cs->Rel w S m (vs.getD i Go.undef) (nth cs i)
 | some l,.rows e sz n c=>l.sz=sz/\l.n=n/\n<=l.cap/\l.cap<=maxLen/\∃ vs:Array Value,w.heap[l.g]? = some (.cells vs e l.fz)/\vs.size=l.cap*sz /\
   ∀ i,i<n->∀ j,j<sz->(vs.getD (i*sz+j) Go.undef).oneCell'=true/\Rel w S [] (vs.getD (i*sz+j) Go.undef) (c i j)
 | none,.rows _ _ n _=>n=0
 | some l,.bC e t x=>l.sz=aW t/\l.n=x.length/\x.length<=l.cap/\l.cap<=maxLen/\∃ vs:Array Value,w.heap[l.g]? = some (.cells vs e l.fz)/\vs.size=l.cap*aW t /\
   ∀ i,i<x.length->∀ j,j<aW t->(vs.getD (i*aW t+j) Go.undef).oneCell'=true/\Rel w S [] (vs.getD (i*aW t+j) Go.undef) (vw t x i j)
 | none,.bC _ _ x=>x.length=0
 | some l,.dV e t x=>l.sz=aW t/\l.n=x.length/\x.length<=l.cap/\l.cap<=maxLen/\∃ (vs:Array Value) (fz:Nat×Nat),w.heap[l.g]? = some (.cells vs e fz)/\vs.size=l.cap*aW t /\
   ∀ i,i<x.length->∀ j,j<aW t->(vs.getD (i*aW t+j) Go.undef).oneCell'=true/\Rel w S [] (vs.getD (i*aW t+j) Go.undef) (vw t x i j)
 | none,.dV _ _ x=>x.length=0
 | some l,.arr e t x=>∃ vs:Array Value,w.heap[l.g]? = some (.cells vs e (0,0))/\vs.size=x.length/\∀ i,i<x.length->(vs.getD i Go.undef).oneCell'=true/\Rel w S [] (vs.getD i Go.undef) (vw t x i 0)
 | some l,.map t u x=>∃ (es:Array MapEntry) (ck:Nat),w.heap[l.g]? = some (.map es ck)/\es.size=x.length/\(∀ i,i<x.length->Rel w S [] (sQ es i) (qX t u x i)/\Rel w S [] (sS es i) (qY t u x i))/\yn t u es ck x
 | some l,.dW s pos=>w.heap[l.g]? = some (.stringIter (bytes s) pos)/\s.length<=maxLen
 | some l,.dz x y=>BZ w S l x y
 | none,.dz x y=>x=[]/\y=[]
 | none,_=>False
structure bX (Z:Nat->Prop) (w w':World):Prop where
 os:w'.os=w.os
 tape:w'.tape=w.tape
 output:w'.output=w.output
 size:w.heap.size<=w'.heap.size
 block:∀ k,Z k->w'.heap[k]? = w.heap[k]?
theorem bX.refl (Z:Nat->Prop) (w:World):bX Z w w:=⟨rfl,rfl,rfl,Nat.le_refl _,fun _ _=>rfl⟩
theorem bX.trans {Z:Nat->Prop} {a b c:World} (h:bX Z a b) (k:bX Z b c):bX Z a c :=
 ⟨k.os.trans h.os,k.tape.trans h.tape,k.output.trans h.output,Nat.le_trans h.size k.size,fun i hi=>(k.block i hi).trans (h.block i hi)⟩
theorem bX.mono {Z Z':Nat->Prop} {w w':World} (h:bX Z w w') (hZ:∀ k,Z' k->Z k):bX Z' w w':=⟨h.os,h.tape,h.output,h.size,fun k hk=>h.block k (hZ k hk)⟩
theorem bX.drew {Z:Nat->Prop} {a w:World} (h:bX Z a w):bX Z a w.drew:=⟨h.os,h.tape,h.output,h.size,h.block⟩
theorem bX.alloc {Z:Nat->Prop} {a w:World} (h:bX Z a w) (hZ:∀ b,Z b->b<w.heap.size) (o:Obj):bX Z a (w.alloc o) :=
 ⟨h.os,h.tape,h.output,by have:=h.size; simp; omega,fun k hk=>(Below.heap_alloc w o k (hZ k hk)).trans (h.block k hk)⟩
theorem aat {B:Nat} {w w':World} (h:Below B w w') {Z:Nat->Prop} (hZ:∀ k,Z k->k<B):bX Z w w':=⟨h.os,h.tape,h.output,h.size,fun k hk=>h.block k (hZ k hk)⟩
theorem bX.below {B:Nat} {w w':World} (h:bX (fun k=>k<B) w w'):Below B w w':=⟨h.os,h.tape,h.output,h.size,h.block⟩
structure Env where
 Z:Nat->Prop
 pin:Nat->Option Loc
 gz:∀ g,g∈yA->Z g
 old:Nat->Prop
 oz:∀ g,old g->Z g
structure rf (Z S:Nat->Prop) (n:Nat) (m:aY) (i:Nat) (l:Loc):Prop where
 nd:l.ext.Nodup
 out:∀ b∈l.ext,¬ Z b/\b<n/\¬ S b
 far:∀ b∈l.ext,∀ (j:Nat) (l':Loc),m[j]? = some (some l')->l'.g≠b/\(i≠j->b ∉ l'.ext)
theorem rf.nil {Z S:Nat->Prop} {n:Nat} {m:aY} {i:Nat} {l:Loc} (h:l.ext=[]):rf Z S n m i l:=by
 refine ⟨by rw [h]; exact List.nodup_nil,fun b hb=>?_,fun b hb=>?_⟩ <;> (rw [h] at hb; cases hb)
theorem rf.re {Z S:Nat->Prop} {n:Nat} {m:aY} {i:Nat} {l l':Loc} (h:rf Z S n m i l) (e:l'.ext=l.ext):rf Z S n m i l' :=
 ⟨by rw [e]; exact h.nd,fun b hb=>h.out b (e▸hb),fun b hb=>h.far b (e▸hb)⟩
theorem rf.to {Z Z' S S':Nat->Prop} {n n':Nat} {m m':aY} {i:Nat} {l:Loc} (h:rf Z S n m i l) (hZ:∀ b,b<n->Z' b->Z b) (hn:n<=n') (hS:∀ b,b∈l.ext->S' b->S b\/n<=b)
  (hm:∀ (j:Nat) (l':Loc),m'[j]? = some (some l')->(∃ l'',m[j]? = some (some l'')/\l'.g=l''.g/\(l'.ext=l''.ext\/l'.ext=[]))\/(n<=l'.g/\l'.ext=[])):rf Z' S' n' m' i l:=by
 refine ⟨h.nd,fun b hb=>?_,fun b hb j l' hj=>?_⟩
 ·obtain ⟨h1,h2,h3⟩:=h.out b hb
  refine ⟨fun z=>h1 (hZ b h2 z),Nat.lt_of_lt_of_le h2 hn,fun s=>?_⟩
  rcases hS b hb s with s | s
  ·exact h3 s
  ·omega
 ·have h2:=(h.out b hb).2.1
  rcases hm j l' hj with ⟨l'',k1,k2,k3⟩ | ⟨k1,k2⟩
  ·obtain ⟨f1,f2⟩:=h.far b hb j l'' k1
   refine ⟨by rw [k2]; exact f1,fun e=>?_⟩
   rcases k3 with k3 | k3
   ·rw [k3]; exact f2 e
   ·rw [k3]; exact fun h=>by cases h
  ·exact ⟨by omega,fun _=>by rw [k2]; exact fun h=>by cases h⟩
structure aV (base:Env) (w:World) (S:Nat->Prop) (m:aY) (M:Mem):Prop where
 len:m.length=aB M
 sb:∀ b,S b->b<w.heap.size
 bk:∀ (i:Nat) (l:Option Loc),m[i]? = some l->bZ w S m l (blk M i)
 lt:∀ (i:Nat) (l:Loc),m[i]? = some (some l)->¬ base.Z l.g/\l.g<w.heap.size/\¬ S l.g
 inj:∀ (i j:Nat) (l l':Loc),m[i]? = some (some l)->m[j]? = some (some l')->l.g=l'.g->i=j
 fu:∀ b,base.Z b->b<w.heap.size
 iO:GL w
 pin:∀ (i:Nat) (l:Loc),base.pin i=some l->m[i]? = some (some l)/\isCells (blk M i)=true
 ext:∀ (i:Nat) (l:Loc),m[i]? = some (some l)->rf base.Z S w.heap.size m i l
theorem aV.gl {base:Env} {w w':World} {S:Nat->Prop} {m:aY} {M:Mem} (h:aV base w S m M) (hp:∀ k,base.Z k->w'.heap[k]? = w.heap[k]?):GL w':=h.iO.mono fun g hg=>hp g (base.gz g hg)
theorem aV.new {base:Env} {w:World} {S:Nat->Prop} {m:aY} {M:Mem} (h:aV base w S m M) {g:Nat} (hg:w.heap.size<=g):¬ base.Z g:=fun hb=>by have:=h.fu g hb; omega
def om (inv:Option Nat) (i:Nat):Prop:=∀ b,inv=some b->hit b i=false
theorem aau {inv:Option Nat} {i:Nat} (h:om inv i):inv≠some i:=fun e=>absurd (h i e) (by rw [Ku]; simp)
theorem Kz (i:Nat):om none i:=fun _ e=>by cases e
structure Trans (base:Env) (w:World) (S:Nat->Prop) (m:aY) (w':World) (S':Nat->Prop) (m':aY) (inv:Option Nat):Prop where
 below:bX base.Z w w'
 sub:∀ b,S b->S' b
 up:∀ b,S' b->S b\/¬ base.Z b
 st:∀ b,S b->w'.heap[b]? = w.heap[b]?
 lm:∀ (i:Nat) (l:Option Loc),om inv i->m[i]? = some l->∃ l',m'[i]? = some l'/\jA l l'
theorem sW {m m':aY} {inv:Option Nat} (h:∀ (i:Nat) (l:Option Loc),inv≠some i->m[i]? = some l->m'[i]? = some l):∀ (i:Nat) (l:Option Loc),om inv i->m[i]? = some l->∃ l',m'[i]? = some l'/\jA l l' :=
 fun i l hi hl=>⟨l,h i l (aau hi) hl,.refl _⟩
theorem FR {m m' m'':aY} (h:∀ (i:Nat) (l:Option Loc),om none i->m[i]? = some l->∃ l',m'[i]? = some l'/\jA l l') (k:∀ (i:Nat) (l:Option Loc),om none i->m'[i]? = some l->∃ l',m''[i]? = some l'/\jA l l') :
  ∀ (i:Nat) (l:Option Loc),om none i->m[i]? = some l->∃ l',m''[i]? = some l'/\jA l l':=fun i l hi hl=>by
 obtain ⟨l1,h1,h2⟩:=h i l hi hl
 obtain ⟨l2,h3,h4⟩:=k i l1 hi h1
 exact ⟨l2,h3,h2.trans h4⟩
theorem Trans.refl (base:Env) (w:World) (S:Nat->Prop) (m:aY):Trans base w S m w S m none :=
 ⟨bX.refl _ _,fun _ h=>h,fun _ h=>.inl h,fun _ _=>rfl,sW fun _ _ _ h=>h⟩
def fx:Option Nat->AV->AV
 | none,a=>a
 | some b,a=>jv b a
theorem Trans.rel {base:Env} {w w':World} {S S':Nat->Prop} {m m':aY} {inv:Option Nat} (h:Trans base w S m w' S' m' inv) {v:Value} {a:AV} (hr:Rel w S m v a):Rel w' S' m' v (fx inv a):=by
 cases inv with
 | none=>exact (hr.mono h.sub h.st m fun _ _ h=>h).longer _ fun i l=>h.lm i l (Kz i)
 | some b =>
  obtain ⟨m1,q1,q2⟩:=q8.between (x:=b) (m:=m) (m':=m') fun i l hi=>h.lm i l (fun b' e=>by cases e; exact hi)
  exact (hr.longer _ q1).Sb h.sub h.st q2
theorem KA (x:Nat) (B:bT):isCells (nX x B)=isCells B:=by cases B <;> rfl
theorem aV.KC {base:Env} {w:World} {S:Nat->Prop} {m:aY} {M:Mem} (h:aV base w S m M) (l₀:Option Loc) (B:bT) (i:Nat) (l:Loc) (hi:base.pin i=some l) :
  (m++[l₀])[i]? = some (some l)/\isCells (blk (fI M B) i)=true:=by
 obtain ⟨h1,h2⟩:=h.pin i l hi
 have hlt:i<m.length:=(List.getElem?_eq_some_iff.1 h1).1
 refine ⟨by rw [List.getElem?_append_left hlt]; exact h1,?_⟩
 rw [jy,if_neg (by rw [<- h.len]; omega)]
 exact h2
theorem aV.alloc {base:Env} {w:World} {S:Nat->Prop} {m:aY} {M:Mem} (h:aV base w S m M) (o:Obj) (l:Loc) (B:bT) (hl:l.g=w.heap.size)
  (hB:bZ (w.alloc o) S (m++[some l]) (some l) B) (hx:l.ext=[]:=by rfl) :
  Trans base w S m (w.alloc o) S (m++[some l]) none/\aV base (w.alloc o) S (m++[some l]) (fI M B):=by
 have hheap:∀ b,b<w.heap.size->(w.alloc o).heap[b]? = w.heap[b]?:=fun b hb=>Below.heap_alloc w o b hb
 have hst:∀ b,S b->(w.alloc o).heap[b]? = w.heap[b]?:=fun b hb=>hheap b (h.sb b hb)
 have hlm:∀ (i:Nat) (l':Option Loc),m[i]? = some l'->(m++[some l])[i]? = some l':=fun i l' hi=>by
  rw [List.getElem?_append_left (by exact (List.getElem?_eq_some_iff.1 hi).1)]; exact hi
 have hsplit:∀ (i:Nat) (l':Option Loc),(m++[some l])[i]? = some l'->m[i]? = some l'\/(i=m.length/\l'=some l):=fun i l' hi=>by
  by_cases hlt:i<m.length
  ·rw [List.getElem?_append_left hlt] at hi; exact .inl hi
  ·have:i=m.length:=by
    have:=(List.getElem?_eq_some_iff.1 hi).1
    simp at this; omega
   subst this
   simp at hi
   exact .inr ⟨rfl,hi.symm⟩
 refine ⟨⟨(bX.refl _ _).alloc h.fu _,fun _ h=>h,fun _ h=>.inl h,hst,sW fun i l' _ hi=>hlm i l' hi⟩,?_⟩
 refine ⟨by simp [vN,h.len],fun b hb=>by have:=h.sb b hb; simp; omega,?_,?_,?_,fun b hb=>by have:=h.fu b hb; simp; omega,h.gl fun k hk=>hheap k (h.fu k hk),h.KC _ _,fun i l' hi=>?_⟩
 rotate_right
 ·rcases hsplit i _ hi with hi' | ⟨rfl,e⟩
  ·refine (h.ext i l' hi').to (fun b _ h=>h) (by simp) (fun b _ h=>.inl h) fun j l'' hj=>?_
   rcases hsplit j _ hj with hj' | ⟨rfl,e⟩
   ·exact .inl ⟨l'',hj',rfl,.inl rfl⟩
   ·injection e with e; subst e; exact .inr ⟨by omega,hx⟩
  ·injection e with e; subst e; exact .nil hx
 ·intro i l' hi
  rcases hsplit i l' hi with hi' | ⟨rfl,rfl⟩
  ·have hlt:i<m.length:=(List.getElem?_eq_some_iff.1 hi').1
   rw [jy,if_neg (by rw [<- h.len]; omega)]
   have hb:=h.bk i l' hi'
   have hrel:∀ v a,Rel w S m v a->Rel (w.alloc o) S (m++[some l]) v a:=fun v a hr=>hr.mono (fun _ h=>h) hst _ hlm
   have hrel0:∀ v a,Rel w S [] v a->Rel (w.alloc o) S [] v a:=fun v a hr=>hr.mono (fun _ h=>h) hst _ (fun _ _ h=>h)
   cases l' with
   | none=>revert hb; cases blk M i <;> exact fun h=>h
   | some l₀ =>
    have hlt':=(h.lt i l₀ hi').2.1
    revert hb
    cases blk M i with
    | dead=>exact fun h=>h
    | cells e cs=>rintro ⟨vs,h1,h2,h3,h4⟩; exact ⟨vs,(hheap _ hlt').trans h1,h2,h3,fun i hi=>hrel _ _ (h4 i hi)⟩
    | rows e sz n c=>rintro ⟨h0,h1,h2,h3,vs,h4,h5,h6⟩; exact ⟨h0,h1,h2,h3,vs,(hheap _ hlt').trans h4,h5,fun i hi j hj=>⟨(h6 i hi j hj).1,hrel0 _ _ (h6 i hi j hj).2⟩⟩
    | bC e ty x=>rintro ⟨h0,h1,h2,h3,vs,h4,h5,h6⟩; exact ⟨h0,h1,h2,h3,vs,(hheap _ hlt').trans h4,h5,fun i hi j hj=>⟨(h6 i hi j hj).1,hrel0 _ _ (h6 i hi j hj).2⟩⟩
    | dV e ty x=>rintro ⟨h0,h1,h2,h3,vs,fz,h4,h5,h6⟩; exact ⟨h0,h1,h2,h3,vs,fz,(hheap _ hlt').trans h4,h5,fun i hi j hj=>⟨(h6 i hi j hj).1,hrel0 _ _ (h6 i hi j hj).2⟩⟩
    | arr e ty x=>rintro ⟨vs,h4,h5,h6⟩; exact ⟨vs,(hheap _ hlt').trans h4,h5,fun i hi=>⟨(h6 i hi).1,hrel0 _ _ (h6 i hi).2⟩⟩
    | map ty uy x=>rintro ⟨es,ck,h4,h5,h6,h7⟩; exact ⟨es,ck,(hheap _ hlt').trans h4,h5,fun i hi=>⟨hrel0 _ _ (h6 i hi).1,hrel0 _ _ (h6 i hi).2⟩,h7⟩
    | dW s pos=>rintro ⟨h1,h2⟩; exact ⟨(hheap _ hlt').trans h1,h2⟩
    | dz x y=>exact fun hf=>hf.keep (fun _ h=>h) hst (hheap _ hlt') fun b hb=>hheap b ((h.ext i l₀ hi').out b hb).2.1
  ·rw [jy,if_pos h.len]; exact hB
 ·intro i l' hi
  rcases hsplit i (some l') hi with hi' | ⟨rfl,e⟩
  ·have:=h.lt i l' hi'; exact ⟨this.1,by simp; omega,this.2.2⟩
  ·injection e with e; subst e
   exact ⟨h.new (by omega),by simp [hl],fun hs=>by have:=h.sb _ hs; omega⟩
 ·intro i j l1 l2 hi hj e
  rcases hsplit i _ hi with hi' | ⟨rfl,e1⟩ <;> rcases hsplit j _ hj with hj' | ⟨rfl,e2⟩
  ·exact h.inj i j _ _ hi' hj' e
  ·injection e2 with e2; subst e2; have:=(h.lt i l1 hi').2.1; omega
  ·injection e1 with e1; subst e1; have:=(h.lt j l2 hj').2.1; omega
  ·rfl
theorem aV.drew {base:Env} {w:World} {S:Nat->Prop} {m:aY} {M:Mem} (h:aV base w S m M):aV base w.drew S m M:=by
 have hrel:∀ m v a,Rel w S m v a->Rel w.drew S m v a:=fun m v a hr=>Rel.mono (w:=w) (w':=w.drew) (fun _ h=>h) (fun _ _=>rfl) hr _ (fun _ _ h=>h)
 refine ⟨h.len,h.sb,fun i l hi=>?_,h.lt,h.inj,h.fu,h.gl fun _ _=>rfl,h.pin,h.ext⟩
 have hb:=h.bk i l hi
 cases l with
 | none=>revert hb; cases blk M i <;> exact fun h=>h
 | some l₀ =>
  revert hb
  cases blk M i with
  | dead=>exact fun h=>h
  | cells e cs=>rintro ⟨vs,h1,h2,h3,h4⟩; exact ⟨vs,h1,h2,h3,fun i hi=>hrel _ _ _ (h4 i hi)⟩
  | rows e sz n c=>rintro ⟨h0,h1,h2,h3,vs,h4,h5,h6⟩; exact ⟨h0,h1,h2,h3,vs,h4,h5,fun i hi j hj=>⟨(h6 i hi j hj).1,hrel _ _ _ (h6 i hi j hj).2⟩⟩
  | bC e ty x=>rintro ⟨h0,h1,h2,h3,vs,h4,h5,h6⟩; exact ⟨h0,h1,h2,h3,vs,h4,h5,fun i hi j hj=>⟨(h6 i hi j hj).1,hrel _ _ _ (h6 i hi j hj).2⟩⟩
  | dV e ty x=>rintro ⟨h0,h1,h2,h3,vs,fz,h4,h5,h6⟩; exact ⟨h0,h1,h2,h3,vs,fz,h4,h5,fun i hi j hj=>⟨(h6 i hi j hj).1,hrel _ _ _ (h6 i hi j hj).2⟩⟩
  | arr e ty x=>rintro ⟨vs,h4,h5,h6⟩; exact ⟨vs,h4,h5,fun i hi=>⟨(h6 i hi).1,hrel _ _ _ (h6 i hi).2⟩⟩
  | map ty uy x=>rintro ⟨es,ck,h4,h5,h6,h7⟩; exact ⟨es,ck,h4,h5,fun i hi=>⟨hrel _ _ _ (h6 i hi).1,hrel _ _ _ (h6 i hi).2⟩,h7⟩
  | dW s pos=>exact fun h=>h
  | dz x y=>exact fun hf=>hf.keep (fun _ h=>h) (fun _ _=>rfl) rfl fun _ _=>rfl
theorem Trans.FT {base:Env} {w w':World} {S S':Nat->Prop} {m m':aY} {inv:Option Nat} (h:Trans base w.drew S m w' S' m' inv):Trans base w S m w' S' m' inv :=
 ⟨(bX.refl base.Z w).drew.trans h.below,h.sub,h.up,h.st,h.lm⟩
theorem aV.FU {base:Env} {w:World} {S:Nat->Prop} {m:aY} {M:Mem} (h:aV base w S m M) (B:bT) (hB:bZ w S (m++[none]) none B) :
  Trans base w S m w S (m++[none]) none/\aV base w S (m++[none]) (fI M B):=by
 have hlm:∀ (i:Nat) (l':Option Loc),m[i]? = some l'->(m++[none])[i]? = some l':=fun i l' hi=>by
  rw [List.getElem?_append_left (by exact (List.getElem?_eq_some_iff.1 hi).1)]; exact hi
 have hsplit:∀ (i:Nat) (l':Option Loc),(m++[none])[i]? = some l'->m[i]? = some l'\/(i=m.length/\l'=none):=fun i l' hi=>by
  by_cases hlt:i<m.length
  ·rw [List.getElem?_append_left hlt] at hi; exact .inl hi
  ·have:i=m.length:=by
    have:=(List.getElem?_eq_some_iff.1 hi).1
    simp at this; omega
   subst this
   simp at hi
   exact .inr ⟨rfl,hi.symm⟩
 refine ⟨⟨bX.refl _ _,fun _ h=>h,fun _ h=>.inl h,fun _ _=>rfl,sW fun i l' _ hi=>hlm i l' hi⟩,?_⟩
 refine ⟨by simp [vN,h.len],h.sb,?_,?_,?_,h.fu,h.iO,h.KC _ _,fun i l' hi=>?_⟩
 rotate_right
 ·rcases hsplit i _ hi with hi' | ⟨rfl,e⟩
  ·refine (h.ext i l' hi').to (fun b _ h=>h) (Nat.le_refl _) (fun b _ h=>.inl h) fun j l'' hj=>?_
   rcases hsplit j _ hj with hj' | ⟨rfl,e⟩
   ·exact .inl ⟨l'',hj',rfl,.inl rfl⟩
   ·cases e
  ·cases e
 ·intro i l' hi
  rcases hsplit i l' hi with hi' | ⟨rfl,rfl⟩
  ·have hlt:i<m.length:=(List.getElem?_eq_some_iff.1 hi').1
   rw [jy,if_neg (by rw [<- h.len]; omega)]
   have hb:=h.bk i l' hi'
   have hrel:∀ v a,Rel w S m v a->Rel w S (m++[none]) v a:=fun v a hr=>hr.mono (fun _ h=>h) (fun _ _=>rfl) _ hlm
   cases l' with
   | none=>revert hb; cases blk M i <;> exact fun h=>h
   | some l₀ =>
    revert hb
    cases blk M i with
    | dead=>exact fun h=>h
    | cells e cs=>rintro ⟨vs,h1,h2,h3,h4⟩; exact ⟨vs,h1,h2,h3,fun i hi=>hrel _ _ (h4 i hi)⟩
    | rows e sz n c=>exact fun h=>h
    | bC e ty x=>exact fun h=>h
    | dV e ty x=>exact fun h=>h
    | arr e ty x=>exact fun h=>h
    | map ty uy x=>exact fun h=>h
    | dW s pos=>exact fun h=>h
    | dz x y=>exact fun h=>h
  ·rw [jy,if_pos h.len]; exact hB
 ·intro i l' hi
  rcases hsplit i (some l') hi with hi' | ⟨rfl,e⟩
  ·exact h.lt i l' hi'
  ·simp at e
 ·intro i j l1 l2 hi hj e
  rcases hsplit i _ hi with hi' | ⟨rfl,e1⟩ <;> rcases hsplit j _ hj with hj' | ⟨rfl,e2⟩
  ·exact h.inj i j _ _ hi' hj' e
  ·simp at e2
  ·simp at e1
  ·simp at e1
theorem aV.KD {base:Env} {w:World} {S:Nat->Prop} {m:aY} {M:Mem} (h:aV base w S m M) (o:Obj) :
  Trans base w S m (w.alloc o) (fun b=>S b\/b=w.heap.size) m none/\aV base (w.alloc o) (fun b=>S b\/b=w.heap.size) m M:=by
 have hheap:∀ b,b<w.heap.size->(w.alloc o).heap[b]? = w.heap[b]?:=fun b hb=>Below.heap_alloc w o b hb
 have hst:∀ b,S b->(w.alloc o).heap[b]? = w.heap[b]?:=fun b hb=>hheap b (h.sb b hb)
 refine ⟨⟨(bX.refl _ _).alloc h.fu _,fun _ h=>.inl h,fun b hb=>hb.elim .inl (fun e=>.inr (h.new (by omega))),hst,sW fun i l' _ hi=>hi⟩,?_⟩
 refine ⟨h.len,?_,?_,?_,h.inj,fun b hb=>by have:=h.fu b hb; simp; omega,h.gl fun k hk=>hheap k (h.fu k hk),h.pin,fun i l' hi=>(h.ext i l' hi).to (fun b _ h=>h) (by simp) (fun b _ h=>h.imp id fun e=>by omega) fun j l'' hj=>.inl ⟨l'',hj,rfl,.inl rfl⟩⟩
 ·rintro b (hb | rfl)
  ·have:=h.sb b hb; simp; omega
  ·simp
 ·intro i l' hi
  have hb:=h.bk i l' hi
  have hrel:∀ m v a,Rel w S m v a->Rel (w.alloc o) (fun b=>S b\/b=w.heap.size) m v a:=fun m v a hr=>hr.mono (fun _ h=>.inl h) hst _ (fun _ _ h=>h)
  cases l' with
  | none=>revert hb; cases blk M i <;> exact fun h=>h
  | some l₀ =>
   have hlt':=(h.lt i l₀ hi).2.1
   revert hb
   cases blk M i with
   | dead=>exact fun h=>h
   | cells e cs=>rintro ⟨vs,h1,h2,h3,h4⟩; exact ⟨vs,(hheap _ hlt').trans h1,h2,h3,fun i hi=>hrel _ _ _ (h4 i hi)⟩
   | rows e sz n c=>rintro ⟨h0,h1,h2,h3,vs,h4,h5,h6⟩; exact ⟨h0,h1,h2,h3,vs,(hheap _ hlt').trans h4,h5,fun i hi j hj=>⟨(h6 i hi j hj).1,hrel _ _ _ (h6 i hi j hj).2⟩⟩
   | bC e ty x=>rintro ⟨h0,h1,h2,h3,vs,h4,h5,h6⟩; exact ⟨h0,h1,h2,h3,vs,(hheap _ hlt').trans h4,h5,fun i hi j hj=>⟨(h6 i hi j hj).1,hrel _ _ _ (h6 i hi j hj).2⟩⟩
   | dV e ty x=>rintro ⟨h0,h1,h2,h3,vs,fz,h4,h5,h6⟩; exact ⟨h0,h1,h2,h3,vs,fz,(hheap _ hlt').trans h4,h5,fun i hi j hj=>⟨(h6 i hi j hj).1,hrel _ _ _ (h6 i hi j hj).2⟩⟩
   | arr e ty x=>rintro ⟨vs,h4,h5,h6⟩; exact ⟨vs,(hheap _ hlt').trans h4,h5,fun i hi=>⟨(h6 i hi).1,hrel _ _ _ (h6 i hi).2⟩⟩
   | map ty uy x=>rintro ⟨es,ck,h4,h5,h6,h7⟩; exact ⟨es,ck,(hheap _ hlt').trans h4,h5,fun i hi=>⟨hrel _ _ _ (h6 i hi).1,hrel _ _ _ (h6 i hi).2⟩,h7⟩
   | dW s pos=>rintro ⟨h1,h2⟩; exact ⟨(hheap _ hlt').trans h1,h2⟩
   | dz x y=>exact fun hf=>hf.keep (fun _ h=>.inl h) hst (hheap _ hlt') fun b hb=>hheap b ((h.ext i l₀ hi).out b hb).2.1
 ·intro i l' hi
  have:=h.lt i l' hi
  refine ⟨this.1,by simp; omega,?_⟩
  rintro (hs | e)
  ·exact this.2.2 hs
  ·omega
theorem aV.turn {base:Env} {w w':World} {S:Nat->Prop} {m:aY} {M:Mem} (h:aV base w S m M) (i₀:Nat) (l:Loc) (h0:m[i₀]? = some (some l)) (B:bT)
  (hkind:isCells (blk M i₀)=true->isCells B=true) (hbelow:bX base.Z w w') (hst:∀ b,b<w.heap.size->b≠l.g->w'.heap[b]? = w.heap[b]?) (hB:bZ w' S m (some l) B) :
  Trans base w S m w' S m none/\aV base w' S m (dA M i₀ B):=by
 have hl:=h.lt i₀ l h0
 have hS:∀ b,S b->w'.heap[b]? = w.heap[b]?:=fun b hb=>hst b (h.sb b hb) (fun e=>hl.2.2 (e▸hb))
 refine ⟨⟨hbelow,fun _ h=>h,fun _ h=>.inl h,hS,sW fun _ _ _ h=>h⟩,?_⟩
 refine ⟨by rw [kG]; exact h.len,fun b hb=>Nat.lt_of_lt_of_le (h.sb b hb) hbelow.size,?_,fun i l' hi=>⟨(h.lt i l' hi).1,Nat.lt_of_lt_of_le (h.lt i l' hi).2.1 hbelow.size,(h.lt i l' hi).2.2⟩,h.inj,fun b hb=>Nat.lt_of_lt_of_le (h.fu b hb) hbelow.size,h.gl hbelow.block,fun i l' hi=>⟨(h.pin i l' hi).1,?_⟩,fun i l' hi=>(h.ext i l' hi).to (fun b _ h=>h) hbelow.size (fun b _ h=>.inl h) fun j l'' hj=>.inl ⟨l'',hj,rfl,.inl rfl⟩⟩
 rotate_left
 ·rw [gF]
  split
  ·rename_i e
   exact hkind (by rw [e.1]; exact (h.pin i l' hi).2)
  ·exact (h.pin i l' hi).2
 intro i l' hi
 rw [gF]
 by_cases e:i₀=i
 ·subst e
  rw [if_pos ⟨rfl,by rw [<- h.len]; exact (List.getElem?_eq_some_iff.1 h0).1⟩]
  rw [h0] at hi; injection hi with hi; subst hi; exact hB
 ·rw [if_neg (fun x=>e x.1)]
  have hb:=h.bk i l' hi
  have hrel:∀ m v a,Rel w S m v a->Rel w' S m v a:=fun m v a hr=>hr.mono (fun _ h=>h) hS _ (fun _ _ h=>h)
  cases l' with
  | none=>revert hb; cases blk M i <;> exact fun h=>h
  | some l₁ =>
   have hlt':=(h.lt i l₁ hi).2.1
   have hne:l₁.g≠l.g:=fun e'=>e (h.inj i₀ i l l₁ h0 hi e'.symm)
   revert hb
   cases blk M i with
   | dead=>exact fun h=>h
   | cells e cs=>rintro ⟨vs,h1,h2,h3,h4⟩; exact ⟨vs,(hst _ hlt' hne).trans h1,h2,h3,fun i hi=>hrel _ _ _ (h4 i hi)⟩
   | rows e sz n c=>rintro ⟨h0,h1,h2,h3,vs,h4,h5,h6⟩; exact ⟨h0,h1,h2,h3,vs,(hst _ hlt' hne).trans h4,h5,fun i hi j hj=>⟨(h6 i hi j hj).1,hrel _ _ _ (h6 i hi j hj).2⟩⟩
   | bC e ty x=>rintro ⟨h0,h1,h2,h3,vs,h4,h5,h6⟩; exact ⟨h0,h1,h2,h3,vs,(hst _ hlt' hne).trans h4,h5,fun i hi j hj=>⟨(h6 i hi j hj).1,hrel _ _ _ (h6 i hi j hj).2⟩⟩
   | dV e ty x=>rintro ⟨h0,h1,h2,h3,vs,fz,h4,h5,h6⟩; exact ⟨h0,h1,h2,h3,vs,fz,(hst _ hlt' hne).trans h4,h5,fun i hi j hj=>⟨(h6 i hi j hj).1,hrel _ _ _ (h6 i hi j hj).2⟩⟩
   | arr e ty x=>rintro ⟨vs,h4,h5,h6⟩; exact ⟨vs,(hst _ hlt' hne).trans h4,h5,fun i hi=>⟨(h6 i hi).1,hrel _ _ _ (h6 i hi).2⟩⟩
   | map ty uy x=>rintro ⟨es,ck,h4,h5,h6,h7⟩; exact ⟨es,ck,(hst _ hlt' hne).trans h4,h5,fun i hi=>⟨hrel _ _ _ (h6 i hi).1,hrel _ _ _ (h6 i hi).2⟩,h7⟩
   | dW s pos=>rintro ⟨h1,h2⟩; exact ⟨(hst _ hlt' hne).trans h1,h2⟩
   | dz x y=>exact fun hf=>hf.keep (fun _ h=>h) hS (hst _ hlt' hne) fun b hb=>hst b ((h.ext i l₁ hi).out b hb).2.1 fun e=>((h.ext i l₁ hi).far b hb i₀ l h0).1 e.symm
theorem aV.move {base:Env} {w w':World} {S:Nat->Prop} {m:aY} {M:Mem} (h:aV base w S m M) (i₀:Nat) (l₀:Option Loc) (h0:m[i₀]? = some l₀) (l:Option Loc) (B:bT)
  (hrows:isCells (blk M i₀)=false) (hbelow:bX base.Z w w') (hst:∀ b,b<w.heap.size->(∀ l₁,l₀=some l₁->b≠l₁.g)->w'.heap[b]? = w.heap[b]?)
  (hg:∀ l₂,l=some l₂->((∃ l₁,l₀=some l₁/\l₂.g=l₁.g)\/w.heap.size<=l₂.g)/\l₂.g<w'.heap.size)
  (hB:bZ w' S (m.set i₀ l) l (nX i₀ B)) (hx:∀ l₂,l=some l₂->l₂.ext=[]\/∃ l₁,l₀=some l₁/\l₂.ext=l₁.ext/\l₂.g=l₁.g:=by (rintro _ ⟨⟩ <;> first | exact .inl rfl | exact .inr ⟨_,rfl,rfl,rfl⟩)) :
  Trans base w S m w' S (m.set i₀ l) (some i₀)/\aV base w' S (m.set i₀ l) (iI i₀ (dA M i₀ B)):=by
 have hi₀:i₀<m.length:=(List.getElem?_eq_some_iff.1 h0).1
 have hS:∀ b,S b->w'.heap[b]? = w.heap[b]?:=fun b hb=>hst b (h.sb b hb) (fun l₁ e e'=>by subst e; exact (h.lt i₀ l₁ h0).2.2 (e'▸hb))
 have hlm:∀ (i:Nat) (l':Option Loc),i≠i₀->m[i]? = some l'->(m.set i₀ l)[i]? = some l':=fun i l' hi hl'=>by rw [List.getElem?_set_ne (Ne.symm hi)]; exact hl'
 have hml:∀ (i:Nat) (l':Option Loc),(m.set i₀ l)[i]? = some l'->(i≠i₀/\m[i]? = some l')\/(i=i₀/\l'=l):=fun i l' hi=>by
  by_cases e:i=i₀
  ·subst e; rw [List.getElem?_set_self hi₀] at hi; injection hi with hi; exact .inr ⟨rfl,hi.symm⟩
  ·rw [List.getElem?_set_ne (Ne.symm e)] at hi; exact .inl ⟨e,hi⟩
 refine ⟨⟨hbelow,fun _ h=>h,fun _ h=>.inl h,hS,sW fun i l' hi hl'=>hlm i l' (fun e=>hi (by rw [e])) hl'⟩,?_⟩
 refine ⟨by rw [FQ,kG,List.length_set]; exact h.len,fun b hb=>Nat.lt_of_lt_of_le (h.sb b hb) hbelow.size,?_,?_,?_,fun b hb=>Nat.lt_of_lt_of_le (h.fu b hb) hbelow.size,h.gl hbelow.block,fun i l' hi=>?_,fun i l' hi=>?_⟩
 rotate_right
 ·have key:∀ (j:Nat) (l'':Loc),(m.set i₀ l)[j]? = some (some l'')->(∃ l3,m[j]? = some (some l3)/\l''.g=l3.g/\(l''.ext=l3.ext\/l''.ext=[]))\/(w.heap.size<=l''.g/\l''.ext=[]):=fun j l'' hj=>by
   rcases hml j _ hj with ⟨_,hj'⟩ | ⟨rfl,e⟩
   ·exact .inl ⟨l'',hj',rfl,.inl rfl⟩
   ·rcases hx l'' e.symm with hq | ⟨l₁,rfl,e1,e2⟩
    ·rcases (hg l'' e.symm).1 with ⟨l₁,rfl,e1⟩ | hge
     ·exact .inl ⟨l₁,h0,e1,.inr hq⟩
     ·exact .inr ⟨hge,hq⟩
    ·exact .inl ⟨l₁,h0,e2,.inl e1⟩
  rcases hml i _ hi with ⟨_,hi'⟩ | ⟨rfl,e⟩
  ·exact (h.ext i l' hi').to (fun b _ h=>h) hbelow.size (fun b _ h=>.inl h) key
  ·rcases hx l' e.symm with hq | ⟨l₁,rfl,e1,e2⟩
   ·exact .nil hq
   ·exact ((h.ext i l₁ h0).to (fun b _ h=>h) hbelow.size (fun b _ h=>.inl h) key).re e1
 rotate_right
 ·obtain ⟨h1,h2⟩:=h.pin i l' hi
  have hne:i≠i₀:=fun e=>by subst e; rw [hrows] at h2; cases h2
  refine ⟨hlm i _ hne h1,?_⟩
  rw [vP,KA,gF,if_neg (fun x=>hne x.1.symm)]
  exact h2
 ·intro i l' hi
  rw [vP,gF]
  rcases hml i l' hi with ⟨e,hi'⟩ | ⟨rfl,rfl⟩
  ·rw [if_neg (fun x=>e x.1.symm)]
   have hb:=h.bk i l' hi'
   have hrel:∀ v a,Rel w S m v a->v.oneCell'=true->Rel w' S (m.set i₀ l) v (eT i₀ a):=fun v a hr h1=>hr.eT (fun _ h=>h) hS hlm (hr.yz h1)
   have hrel0:∀ v a,Rel w S [] v a->Rel w' S [] v a:=fun v a hr=>hr.mono (fun _ h=>h) hS _ (fun _ _ h=>h)
   cases l' with
   | none=>revert hb; cases blk M i <;> exact fun h=>h
   | some l₁ =>
    have hlt':=(h.lt i l₁ hi').2.1
    have hne:∀ l₂,l₀=some l₂->l₁.g≠l₂.g:=fun l₂ e₂ e'=>by subst e₂; exact e (h.inj i i₀ l₁ l₂ hi' h0 e')
    revert hb
    cases blk M i with
    | dead=>exact fun h=>h
    | cells e cs =>
     rintro ⟨vs,h1,h2,h3,h4⟩
     refine ⟨vs,(hst _ hlt' hne).trans h1,by rw [kZ]; exact h2,fun i hi=>h3 i (by rwa [kZ] at hi),fun i hi=>?_⟩
     rw [kZ] at hi
     rw [BU]; exact hrel _ _ (h4 i hi) (h3 i hi)
    | rows e sz n c=>rintro ⟨h0,h1,h2,h3,vs,h4,h5,h6⟩; exact ⟨h0,h1,h2,h3,vs,(hst _ hlt' hne).trans h4,h5,fun i hi j hj=>⟨(h6 i hi j hj).1,hrel0 _ _ (h6 i hi j hj).2⟩⟩
    | bC e ty x=>rintro ⟨h0,h1,h2,h3,vs,h4,h5,h6⟩; exact ⟨h0,h1,h2,h3,vs,(hst _ hlt' hne).trans h4,h5,fun i hi j hj=>⟨(h6 i hi j hj).1,hrel0 _ _ (h6 i hi j hj).2⟩⟩
    | dV e ty x=>rintro ⟨h0,h1,h2,h3,vs,fz,h4,h5,h6⟩; exact ⟨h0,h1,h2,h3,vs,fz,(hst _ hlt' hne).trans h4,h5,fun i hi j hj=>⟨(h6 i hi j hj).1,hrel0 _ _ (h6 i hi j hj).2⟩⟩
    | arr e ty x=>rintro ⟨vs,h4,h5,h6⟩; exact ⟨vs,(hst _ hlt' hne).trans h4,h5,fun i hi=>⟨(h6 i hi).1,hrel0 _ _ (h6 i hi).2⟩⟩
    | map ty uy x=>rintro ⟨es,ck,h4,h5,h6,h7⟩; exact ⟨es,ck,(hst _ hlt' hne).trans h4,h5,fun i hi=>⟨hrel0 _ _ (h6 i hi).1,hrel0 _ _ (h6 i hi).2⟩,h7⟩
    | dW s pos=>rintro ⟨h1,h2⟩; exact ⟨(hst _ hlt' hne).trans h1,h2⟩
    | dz x y=>exact fun hf=>hf.keep (fun _ h=>h) hS (hst _ hlt' hne) fun b hb=>hst b ((h.ext i l₁ hi').out b hb).2.1 fun l₂ e₂ e=>((h.ext i l₁ hi').far b hb i₀ l₂ (e₂▸h0)).1 e.symm
  ·rw [if_pos ⟨rfl,by rw [<- h.len]; exact hi₀⟩]; exact hB
 ·intro i l' hi
  rcases hml i (some l') hi with ⟨e,hi'⟩ | ⟨rfl,e⟩
  ·have:=h.lt i l' hi'; exact ⟨this.1,Nat.lt_of_lt_of_le this.2.1 hbelow.size,this.2.2⟩
  ·obtain ⟨hg1,hg2⟩:=hg l' e.symm
   rcases hg1 with ⟨l₁,rfl,e₁⟩ | hge
   ·rw [e₁]; have:=h.lt i l₁ h0; exact ⟨this.1,by rw [<- e₁]; exact hg2,this.2.2⟩
   ·exact ⟨h.new hge,hg2,fun hs=>by have:=h.sb _ hs; omega⟩
 ·intro i j l1 l2 hi hj e
  have key:∀ (i:Nat) (l1 l2:Loc),i≠i₀->m[i]? = some (some l1)->some l2=l->l1.g=l2.g->False:=fun i l1 l2 hne hi e2 e=>by
   obtain ⟨hg1,_⟩:=hg l2 e2.symm
   rcases hg1 with ⟨l₁,rfl,e₁⟩ | hge
   ·exact hne (h.inj i i₀ l1 l₁ hi h0 (e.trans e₁))
   ·have:=(h.lt i l1 hi).2.1; omega
  rcases hml i _ hi with ⟨e1,hi'⟩ | ⟨rfl,e1⟩ <;> rcases hml j _ hj with ⟨e2,hj'⟩ | ⟨rfl,e2⟩
  ·exact h.inj i j _ _ hi' hj' e
  ·exact (key i l1 l2 e1 hi' e2 e).elim
  ·exact (key j l2 l1 e2 hj' e1 e.symm).elim
  ·rfl
end Go.aT
