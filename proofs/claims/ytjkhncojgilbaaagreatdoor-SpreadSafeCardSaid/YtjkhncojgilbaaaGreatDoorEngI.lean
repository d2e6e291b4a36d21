/- Calls: what a callee's contract gives. Then: every operation of the abstract machine is sound. -/
import Derived.Test.YtjkhncojgilbaaaGreatDoorEngH
namespace Go.aT
open Go Go.RowKit
variable {P:Program} {T:aX} {base:Env} {w:World} {S:Nat->Prop} {m:aY} {M:Mem}
def lh (w:World) (S:Nat->Prop) (m:aY) (vs:Array Value) (as:List AV):Prop :=
 vs.size=au as/\∀ i,i<au as->Rel w S m (vs.getD i Go.undef) (nth as i)
def oD (w w':World) (S:Nat->Prop):Nat->Prop:=fun b=>S b\/(w.heap.size<=b/\b<w'.heap.size)
def yO (w w':World) (S:Nat->Prop) (v:Value) (e sz n:Nat) (c:Nat->Nat->AV):Prop :=
 ((∃ a,v = .slice a 0 0)/\n=0)\/∃ (l:Loc) (vs:Array Value),v = .slice (some ⟨l.g,0,none⟩) n l.cap/\w.heap.size<=l.g/\l.g<w'.heap.size /\
   l.sz=sz/\l.n=n/\n<=l.cap/\l.cap<=maxLen/\w'.heap[l.g]? = some (.cells vs e l.fz)/\vs.size=l.cap*sz /\
   ∀ i,i<n->∀ j,j<sz->(vs.getD (i*sz+j) Go.undef).oneCell'=true/\Rel w' (fun b=>oD w w' S b/\b≠l.g) [] (vs.getD (i*sz+j) Go.undef) (c i j)
def Ga (w w':World) (S:Nat->Prop) (v:Value):CR->Prop
 | .val a=>Rel w' (oD w w' S) [] v a
 | .fresh e sz n c=>yO w w' S v e sz n c
 | .nY e u l=>yO w w' S v e (aW u) l.length (vw u l)
 | .pU e u l=>yO w w' S v e (aW u) l.length (vw u l)
def yP (w:World) (S:Nat->Prop) (r:CR) (e:Ending) (w':World):Prop:=∃ v,e = .returned v/\Below w.heap.size w w'/\Ga w w' S v r
def Via (P:Program) (f:FuncId) (vs:Array Value) (w:World) (R:Ending->World->Prop):Prop :=
 ((callFunc f vs).run P w = .ok (.enter f vs) w/\Calls P f vs w R)\/∃ v w',(callFunc f vs).run P w = .ok (.value v) w'/\R (.returned v) w'
def iX (P:Program) (f:Nat) (args:List AV) (r:CR):Prop :=
 ∀ (w:World) (S:Nat->Prop) (vs:Array Value),GL w->(∀ b,S b->b<w.heap.size)->lh w S [] vs args->Via P f vs w (yP w S r)
def Td (Z:Env) (w:World) (S:Nat->Prop) (m:aY) (r:R) (e:Ending) (w':World):Prop :=
 ∃ v S' m',e = .returned v/\Trans Z w S m w' S' m' r.inv/\aV Z w' S' m' (r.m)/\Rel w' S' m' v r.v
def nz (P:Program) (f:Nat) (args:List AV) (M:Mem) (r:R):Prop :=
 ∀ (Z:Env) (w:World) (S:Nat->Prop) (m:aY) (vs:Array Value),aV Z w S m M->lh w S m vs args->Via P f vs w (Td Z w S m r)
structure Sound (P:Program) (call:dD):Prop where
 pu:∀ id args r ks,call.pu ae id args=some ⟨r,ks⟩->aG ks->iX P id args r
 me:∀ id args M r,call.me ae id args M=some r->aG r.ks->nz P id args M r
def kH (base:Env) (S:Nat->Prop) (w:World):Nat->Prop:=fun b=>(S b\/¬ base.Z b)/\b<w.heap.size
theorem Rel.all {base:Env} {v:Value} {a:AV} (hsb:∀ b,S b->b<w.heap.size) (h:Rel w S m v a):Rel w (kH base S w) m v a:=h.mono (fun b h=>⟨.inl h,hsb b h⟩) (fun _ _=>rfl) _ (fun _ _ h=>h)
theorem cK (f:AV->AV) (l:List AV):au (mapA f l)=au l:=by induction l with | nil=>rfl | cons a l ih=>simp [mapA,au,ih]
theorem fG (f:AV->AV) (l:List AV) (i:Nat) (hi:i<au l):nth (mapA f l) i=f (nth l i):=by
 induction l generalizing i with
 | nil=>simp [au] at hi
 | cons a l ih=>cases i with
  | zero=>rfl
  | succ i=>simpa [mapA,nth] using ih i (by simp [au] at hi; omega)
theorem Gb (hM:aV base w S m M) {v:Value} {b n:Nat} (h:Rel w S m v (.own b n)) {e sz n':Nat} {c:Nat->Nat->AV} (hb:blk M b = .rows e sz n' c):Rel w (kH base S w) [] v (.slice sz n false fun i j=>c i j):=by
 cases h with
 | eZ=>exact .dL _ _ _ _ _ _ (by unfold maxLen; omega) (fun h=>by simp at h)
 | own _ _ _ l h0 hn hc =>
  have hB:=eX hM h0
  rw [hb] at hB
  obtain ⟨k1,k2,k3,k4,vs,k5,k6,k7⟩:=hB
  subst k1 k2
  refine .slice _ _ _ _ _ _ _ _ (fun i j=>vs.getD (i*l.sz+j) Go.undef) ⟨.inr (hM.lt _ _ h0).1,(hM.lt _ _ h0).2.1⟩ (by omega) hc.2 (fun h=>by simp at h) (fun i hi j hj=>⟨?_,(k7 i (by omega) j hj).1⟩) (fun i hi j hj=>(k7 i (by omega) j hj).2.all hM.sb)
  rw [Nat.zero_add]
  refine iB k5 ?_
  have:=fP (off:=j) (k:=1) (show i<l.n by omega) (show j+1<=l.sz by omega)
  have h8:l.n*l.sz<=l.cap*l.sz:=Nat.mul_le_mul_right _ k3
  omega
theorem KX (hM:aV base w S m M) {v:Value} {b lo n:Nat} (h:Rel w S m v (.tail b lo n)) {e sz n':Nat} {c:Nat->Nat->AV} (hb:blk M b = .rows e sz n' c):Rel w (kH base S w) [] v (.slice sz n false fun i j=>c (lo+i) j):=by
 cases h with
 | tail _ a _ _ _ cp hn h =>
  by_cases hn0:n=0
  ·subst hn0
   exact .dL _ _ _ _ _ _ hn.2 (fun h=>by simp at h)
  ·obtain ⟨l,h0,rfl,hle⟩:=h (by omega)
   have hB:=eX hM h0
   rw [hb] at hB
   obtain ⟨k1,k2,k3,k4,vs,k5,k6,k7⟩:=hB
   subst k1 k2
   refine .slice _ _ _ _ _ _ _ _ (fun i j=>vs.getD ((lo+i)*l.sz+j) Go.undef) ⟨.inr (hM.lt _ _ h0).1,(hM.lt _ _ h0).2.1⟩ hn.1 hn.2 (fun h=>by simp at h) (fun i hi j hj=>⟨?_,(k7 (lo+i) (by omega) j hj).1⟩) (fun i hi j hj=>(k7 (lo+i) (by omega) j hj).2.all hM.sb)
   rw [<- Nat.add_mul]
   refine iB k5 ?_
   have:=fP (off:=j) (k:=1) (show lo+i<l.n by omega) (show j+1<=l.sz by omega)
   have h8:l.n*l.sz<=l.cap*l.sz:=Nat.mul_le_mul_right _ k3
   omega
theorem KY (hM:aV base w S m M) {v:Value} {b i off:Nat} (h:Rel w S m v (.bY b i off)) {e sz n:Nat} {c:Nat->Nat->AV} (hb:blk M b = .rows e sz n c):Rel w (kH base S w) [] v (.bS (sz-off) fun j=>c i (off+j)):=by
 cases h with
 | bY _ _ _ _ l h0 hr =>
  have hB:=eX hM h0
  rw [hb] at hB
  obtain ⟨k1,k2,k3,k4,vs,k5,k6,k7⟩:=hB
  subst k1 k2
  refine .bS _ _ _ _ _ (fun j=>vs.getD (i*l.sz+(off+j)) Go.undef) ⟨.inr (hM.lt _ _ h0).1,(hM.lt _ _ h0).2.1⟩ (fun j hj=>⟨?_,(k7 i hr (off+j) (by omega)).1⟩) (fun j hj=>(k7 i hr (off+j) (by omega)).2.all hM.sb)
  rw [Nat.add_assoc]
  refine iB k5 ?_
  have:=fP (off:=off+j) (k:=1) hr (show off+j+1<=l.sz by omega)
  have h8:l.n*l.sz<=l.cap*l.sz:=Nat.mul_le_mul_right _ k3
  omega
theorem Te (hM:aV base w S m M) {v:Value} {b:Nat} (h:Rel w S m v (.bz b)) {e:Nat} {u:Ty} {l:List (El u)} (hb:blk M b = .bC e u l):Rel w (kH base S w) [] v (.bF u l false) :=
 Le.bF id rfl rfl (fun _ _ _ _=>Le.refl _) _ _ _ _ (Gb hM.un (h.Ce hM hb) (by rw [gB,hb]; rfl))
theorem Tf (hM:aV base w S m M) {v:Value} {b n:Nat} (h:Rel w S m v (.own b n)) {e:Nat} {u:Ty} {l:List (El u)} (hb:blk M b = .bC e u l):Rel w (kH base S w) [] v (.bF u (l.take n) false):=by
 have h1:=Gb hM.un h (e:=e) (sz:=aW u) (n':=l.length) (c:=vw u l) (by rw [gB,hb]; rfl)
 have hlen:n=(l.take n).length:=by
  cases h with
  | eZ _ a _ h=>simp
  | own _ _ _ l' h hn hc =>
   have hB:=hM.bk _ _ h
   rw [hb] at hB
   have:l'.n=l.length:=hB.2.1
   simp; omega
 exact Le.bF id rfl hlen (fun i hi j hj=>by rw [qd _ _ _ _ _ hi]; exact Le.refl _) _ _ _ _ h1
theorem Tg (hM:aV base w S m M) {v:Value} {b lo n:Nat} (h:Rel w S m v (.tail b lo n)) {e:Nat} {u:Ty} {l:List (El u)} (hb:blk M b = .bC e u l):Rel w (kH base S w) [] v (.bF u ((l.drop lo).take n) false):=by
 have h1:=KX hM.un h (e:=e) (sz:=aW u) (n':=l.length) (c:=vw u l) (by rw [gB,hb]; rfl)
 have hlen:n=((l.drop lo).take n).length:=by
  cases h with
  | tail _ a _ _ _ cp hn h =>
   by_cases h0:n=0
   ·subst h0; simp
   ·obtain ⟨l',h1,_,h2⟩:=h (by omega)
    have hB:=hM.bk _ _ h1
    rw [hb] at hB
    have:l'.n=l.length:=hB.2.1
    simp; omega
 exact Le.bF id rfl hlen (fun i hi j hj=>by rw [qd _ _ _ _ _ hi,Cf]; exact Le.refl _) _ _ _ _ h1
theorem Ti (hM:aV base w S m M) {v:Value} {b i off:Nat} (h:Rel w S m v (.bY b i off)) {e:Nat} {u:Ty} {l:List (El u)} (hb:blk M b = .bC e u l):Rel w (kH base S w) [] v (.bS (aW u-off) fun j=>nth (jk u l i) (off+j)) :=
 KY hM.un h (e:=e) (n:=l.length) (c:=vw u l) (by rw [gB,hb]; rfl)
theorem abP (hM:aV base w S m M) {i:Nat} {l:Loc} (h0:m[i]? = some (some l)) {g:Nat} (hg:g∈l.ext) {y:List (List UInt8×Int)} (hy:BX w S g y):Rel w (kH base S w) [] (.map (some g)) (.mv .str (.int .i64) y):=by
 obtain ⟨es,ck,q1,q2,q3,q4⟩:=hy
 have ho:=(hM.ext _ _ h0).out g hg
 exact .mv _ _ es ck _ _ _ ⟨.inr ho.1,ho.2.1⟩ q1 q2 (fun i hi=>(q3 i hi).1.all hM.sb) (fun i hi=>(q3 i hi).2.all hM.sb) q4
theorem Tj (hM:aV base w S m M) {i:Nat} {l:Loc} (h0:m[i]? = some (some l)) {x:List (List UInt8×(Int×(List UInt8×Int)))} {y:List (List (List UInt8×Int))} (hB:BZ w S l x y):Rel w (kH base S w) [] (.map (some l.g)) (.mv .str xX (uS x y)):=by
 obtain ⟨_,_,⟨es,ck,f3,f4,f5,f6⟩,f7⟩:=hB
 have hlen:(uS x y).length=x.length:=List.length_map _
 refine .mv _ _ es ck _ _ _ ⟨.inr (hM.lt _ _ h0).1,(hM.lt _ _ h0).2.1⟩ f3 (by rw [hlen]; exact f4) (fun i hi=>?_) (fun i hi=>?_)
  ⟨f6.born,f6.once,?_,rfl,(fun h=>by cases h),by rw [hlen]; exact f6.few,fun h=>by cases h⟩
 ·rw [hlen] at hi
  obtain ⟨h1,h2,_⟩:=f5 i _ (List.getElem?_eq_getElem hi)
  have e:qX .str xX (uS x y) i = .str x[i].1:=by
   unfold qX uS
   rw [List.getD_eq_getElem?_getD,List.getElem?_map,List.getElem?_eq_getElem hi]
   rfl
  rw [h1,e]
  exact .str _ _ h2
 ·rw [hlen] at hi
  obtain ⟨_,_,j,g,h3,h4,h5,h6,h7⟩:=f5 i _ (List.getElem?_eq_getElem hi)
  have e:qY .str xX (uS x y) i = .agg [.int .i64 x[i].2.1,.str x[i].2.2.1,.mv .str (.int .i64) (y.getD (j+1) [])]:=by
   unfold qY uS
   rw [List.getD_eq_getElem?_getD,List.getElem?_map,List.getElem?_eq_getElem hi]
   show AV.agg [.int .i64 x[i].2.1,.str x[i].2.2.1,.mv .str (.int .i64) (y.getD (x[i].2.2.2.toNat+1) [])]=_
   rw [h3,Int.toNat_natCast]
  rw [h5,e]
  have hs:=abP hM h0 (List.mem_of_getElem? h4) (f7 j g h4)
  refine .agg _ _ _ rfl (fun k hk=>?_) (fun k hk=>?_)
  all_goals
   have hk:k<3:=hk
   match k,hk with
   | 0,_=>first | rfl | exact .int _ _ _ h6
   | 1,_=>first | rfl | exact .str _ _ h7
   | 2,_=>first | rfl | exact hs
 ·exact List.pairwise_map.2 f6.keys
theorem abQ (hM:aV base w S m M) (k:Nat):∀ {v:Value} {a:AV},Rel w S m v a->Rel w (kH base S w) [] v (fB M k a):=by
 induction k with
 | zero =>
  intro v a h
  cases a with
  | own b n =>
   simp only [fB]
   split
   ·rename_i hb; exact Gb hM h hb
   ·rename_i hb; exact Tf hM h hb
   ·exact .undef _ _
  | bz b =>
   simp only [fB]
   split
   ·rename_i hb; exact Te hM h hb
   ·exact .undef _ _
  | tail b lo n =>
   simp only [fB]
   split
   ·rename_i hb; exact KX hM h hb
   ·rename_i hb; exact Tg hM h hb
   ·exact .undef _ _
  | bY b i off =>
   simp only [fB]
   split
   ·rename_i e sz n c hb; exact KY hM h hb
   ·rename_i hb; exact Ti hM h hb
   ·exact .undef _ _
  | ref=>exact .undef _ _
  | fn=>exact .undef _ _
  | agg cs=>exact .undef _ _
  | undef=>exact .undef _ _
  | bN=>exact .undef _ _
  | sF b vs=>cases h with
   | iw _ _ _ hl h0 h=>exact .iw _ _ _ hl h0 fun i hi=>(h i hi).all hM.sb
   | iN=>exact .iN _ _
  | eG n=>cases h with | eG _ b _ h=>exact .eG _ _ _ h
  | dJ=>exact .undef _ _
  | fA=>exact .undef _ _
  | mp b =>
   cases h with
   | mp _ _ l h0 =>
    have hB:=eX hM h0
    cases hb:blk M b with
    | map t u x =>
     rw [hb] at hB
     obtain ⟨es,ck,q1,q2,q3,q4⟩:=hB
     simp only [fB,hb]
     exact .mv _ _ es ck _ _ _ ⟨.inr (hM.lt _ _ h0).1,(hM.lt _ _ h0).2.1⟩ q1 q2 (fun i hi=>(q3 i hi).1.all hM.sb) (fun i hi=>(q3 i hi).2.all hM.sb) q4
    | dz x y =>
     rw [hb] at hB
     simp only [fB,hb]
     exact Tj hM h0 hB
    | _=>simp only [fB,hb]; exact .undef _ _
   | gy _ _ h0 =>
    have hB:=hM.bk _ _ h0
    cases hb:blk M b with
    | map t u x=>rw [hb] at hB; exact hB.elim
    | dz x y =>
     rw [hb] at hB
     obtain ⟨rfl,_⟩:=hB
     simp only [fB,hb]
     exact .iL _
    | _=>simp only [fB,hb]; exact .undef _ _
  | sub b j =>
   cases h with
   | sub _ _ _ l g h0 hj =>
    have hB:=eX hM h0
    cases hb:blk M b with
    | dz x y =>
     rw [hb] at hB
     obtain ⟨es,ck,q1,q2,q3,q4⟩:=hB.2.2.2 j g hj
     have ho:=(hM.ext _ _ h0).out g (List.mem_of_getElem? hj)
     simp only [fB,hb]
     exact .mv _ _ es ck _ _ _ ⟨.inr ho.1,ho.2.1⟩ q1 q2 (fun i hi=>(q3 i hi).1.all hM.sb) (fun i hi=>(q3 i hi).2.all hM.sb) q4
    | _=>simp only [fB,hb]; exact .undef _ _
  | dN=>exact .undef _ _
  | _=>exact (h.out rfl []).all hM.sb
 | succ k ih =>
  intro v a h
  cases a with
  | own b n =>
   simp only [fB]
   split
   ·rename_i hb; exact Gb hM h hb
   ·rename_i hb; exact Tf hM h hb
   ·exact .undef _ _
  | bz b =>
   simp only [fB]
   split
   ·rename_i hb; exact Te hM h hb
   ·exact .undef _ _
  | tail b lo n =>
   simp only [fB]
   split
   ·rename_i hb; exact KX hM h hb
   ·rename_i hb; exact Tg hM h hb
   ·exact .undef _ _
  | bY b i off =>
   simp only [fB]
   split
   ·rename_i e sz n c hb; exact KY hM h hb
   ·rename_i hb; exact Ti hM h hb
   ·exact .undef _ _
  | ref b off =>
   simp only [fB]
   split
   ·rename_i e cs hb
    cases h with
    | ref _ _ _ l h0 =>
     have hB:=eX hM h0
     rw [hb] at hB
     obtain ⟨vs,k1,k2,k3,k4⟩:=hB
     refine .bS _ _ _ _ _ (fun j=>vs.getD (off+j) Go.undef) ⟨.inr (hM.lt _ _ h0).1,(hM.lt _ _ h0).2.1⟩ (fun j hj=>⟨iB k1 (by omega),k3 _ (by omega)⟩) (fun j hj=>?_)
     rw [fG _ _ _ (by omega)]
     exact ih (k4 (off+j) (by omega))
   ·exact .undef _ _
  | fn f as bs =>
   cases h with
   | fn _ _ fs cs _ _ hl hl' h1 h1' h h' =>
    refine .fn _ _ _ _ _ _ (by rw [cK]; exact hl) (by rw [cK]; exact hl') (fun i hi=>h1 i (by rwa [cK] at hi)) (fun i hi=>h1' i (by rwa [cK] at hi)) (fun i hi=>?_) (fun i hi=>?_)
    ·rw [cK] at hi
     rw [fG _ _ _ hi]; exact ih (h i hi)
    ·rw [cK] at hi
     rw [fG _ _ _ hi]; exact ih (h' i hi)
  | agg cs =>
   cases h with
   | agg _ vs _ hl h1 h =>
    refine .agg _ _ _ (by rw [cK]; exact hl) (fun i hi=>h1 i (by rwa [cK] at hi)) fun i hi=>?_
    rw [cK] at hi
    rw [fG _ _ _ hi]
    exact ih (h i hi)
  | undef=>exact .undef _ _
  | bN vs =>
   cases h with
   | bN _ us _ hl h =>
    refine .bN _ _ _ (by rw [cK]; exact hl) fun i hi=>?_
    rw [cK] at hi
    rw [fG _ _ _ hi]
    exact ih (h i hi)
  | sF b vs=>cases h with
   | iw _ _ _ hl h0 h=>exact .iw _ _ _ hl h0 fun i hi=>(h i hi).all hM.sb
   | iN=>exact .iN _ _
  | eG n=>cases h with | eG _ b _ h=>exact .eG _ _ _ h
  | dJ=>exact .undef _ _
  | fA=>exact .undef _ _
  | mp b =>
   cases h with
   | mp _ _ l h0 =>
    have hB:=eX hM h0
    cases hb:blk M b with
    | map t u x =>
     rw [hb] at hB
     obtain ⟨es,ck,q1,q2,q3,q4⟩:=hB
     simp only [fB,hb]
     exact .mv _ _ es ck _ _ _ ⟨.inr (hM.lt _ _ h0).1,(hM.lt _ _ h0).2.1⟩ q1 q2 (fun i hi=>(q3 i hi).1.all hM.sb) (fun i hi=>(q3 i hi).2.all hM.sb) q4
    | dz x y =>
     rw [hb] at hB
     simp only [fB,hb]
     exact Tj hM h0 hB
    | _=>simp only [fB,hb]; exact .undef _ _
   | gy _ _ h0 =>
    have hB:=hM.bk _ _ h0
    cases hb:blk M b with
    | map t u x=>rw [hb] at hB; exact hB.elim
    | dz x y =>
     rw [hb] at hB
     obtain ⟨rfl,_⟩:=hB
     simp only [fB,hb]
     exact .iL _
    | _=>simp only [fB,hb]; exact .undef _ _
  | sub b j =>
   cases h with
   | sub _ _ _ l g h0 hj =>
    have hB:=eX hM h0
    cases hb:blk M b with
    | dz x y =>
     rw [hb] at hB
     obtain ⟨es,ck,q1,q2,q3,q4⟩:=hB.2.2.2 j g hj
     have ho:=(hM.ext _ _ h0).out g (List.mem_of_getElem? hj)
     simp only [fB,hb]
     exact .mv _ _ es ck _ _ _ ⟨.inr ho.1,ho.2.1⟩ q1 q2 (fun i hi=>(q3 i hi).1.all hM.sb) (fun i hi=>(q3 i hi).2.all hM.sb) q4
    | _=>simp only [fB,hb]; exact .undef _ _
  | dN i cs =>
   have hout:∀ {b},S b->kH base S w b:=fun h=>⟨.inl h,hM.sb _ h⟩
   cases h with
   | iq _ b o n _ f hs hn hl hc h =>
    refine .iq _ _ _ _ _ f (hout hs) hn (by rw [cK]; exact hl) (fun j hj=>hc j (by rwa [cK] at hj)) fun j hj=>?_
    rw [cK] at hj
    rw [fG _ _ _ hj]; exact ih (h j hj)
   | iM _ b o i _ f hs hi hc h =>
    refine .iM _ _ _ _ _ f (hout hs) (by rw [cK]; exact hi) (fun j hj=>hc j (by rwa [cK] at hj)) fun j hj=>?_
    rw [cK] at hj
    rw [fG _ _ _ hj]; exact ih (h j hj)
  | _=>exact (h.out rfl []).all hM.sb
theorem KZ (hM:aV base w S m M) {v:Value} {a:AV} (h:Rel w S m v a):Rel w (kH base S w) [] v (borrow M a):=abQ hM 5 h
theorem Tk (k:Nat) {a:AV} (h:outside a=true):fB M k a=a:=by cases k <;> cases a <;> first | rfl | simp [outside] at h
theorem K3 (k:Nat) (l:List AV) (h:jl l=true):mapA (fB M k) l=l:=by
 induction l with
 | nil=>rfl
 | cons a l ih =>
  simp only [jl] at h
  split at h
  ·rename_i h1; simp only [mapA,Tk k h1,ih h]
  ·simp at h
theorem Tm {v:Value} {a:AV} (h:Rel w S m v a) (ho:yj a=true):Rel w S [] v (borrow M a):=by
 cases a with
 | agg cs =>
  simp only [yj] at ho
  have e:borrow M (.agg cs) = .agg cs:=by simp only [borrow,fB,K3 4 cs ho]
  rw [e]
  cases h with
  | agg _ vs _ hl h1 h=>exact .agg _ _ _ hl h1 fun i hi=>(h i hi).out (ow ho hi) _
 | fn f as bs =>
  simp only [yj] at ho
  split at ho
  case h_2=>simp at ho
  rename_i o1 o2
  have e:borrow M (.fn f as bs) = .fn f as bs:=by simp only [borrow,fB,K3 4 as o1,K3 4 bs o2]
  rw [e]
  cases h with
  | fn _ _ fs cs _ _ hl hl' h1 h1' h h'=>exact .fn _ _ _ _ _ _ hl hl' h1 h1' (fun i hi=>(h i hi).out (ow o1 hi) _) (fun i hi=>(h' i hi).out (ow o2 hi) _)
 | _ =>
  simp only [yj] at ho
  rw [show borrow M _=_ from Tk 5 ho]
  exact h.out ho _
theorem Tn {l:List AV} (h:pQ l=true) {i:Nat} (hi:i<au l):yj (nth l i)=true:=by
 induction l generalizing i with
 | nil=>simp [au] at hi
 | cons a l ih =>
  simp only [pQ] at h
  split at h
  ·cases i with
   | zero=>assumption
   | succ i=>exact ih h (by simp [au] at hi; omega)
  ·simp at h
end Go.aT
