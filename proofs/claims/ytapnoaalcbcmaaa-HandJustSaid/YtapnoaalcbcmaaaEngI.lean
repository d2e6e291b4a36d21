/- Calls: what a callee's contract gives. Then: every operation of the abstract machine is sound. -/
import Derived.Test.YtapnoaalcbcmaaaEngH
namespace Go.Eng
open Go Go.RowKit

variable {P : Program} {T : Tab} {base : Env} {w : World} {S : Nat → Prop} {m : Locs} {M : Mem}

def RelL (w : World) (S : Nat → Prop) (m : Locs) (vs : Array Value) (as : List AV) : Prop :=
  vs.size = lenA as ∧ ∀ i, i < lenA as → Rel w S m (vs.getD i Go.undef) (nth as i)

/-- Of what a callee has made, all but block g. -/
def NewS (w w' : World) (S : Nat → Prop) : Nat → Prop := fun b => S b ∨ (w.heap.size ≤ b ∧ b < w'.heap.size)

/-- A slice in memory that nobody else holds. -/
def FreshV (w w' : World) (S : Nat → Prop) (v : Value) (e sz n : Nat) (c : Nat → Nat → AV) : Prop :=
  ((∃ a, v = .slice a 0 0) ∧ n = 0) ∨ ∃ (l : Loc) (vs : Array Value), v = .slice (some ⟨l.g, 0, none⟩) n l.cap ∧ w.heap.size ≤ l.g ∧ l.g < w'.heap.size ∧
      l.sz = sz ∧ l.n = n ∧ n ≤ l.cap ∧ l.cap ≤ maxLen ∧ w'.heap[l.g]? = some (.cells vs e l.fz) ∧ vs.size = l.cap * sz ∧
      ∀ i, i < n → ∀ j, j < sz → (vs.getD (i * sz + j) Go.undef).oneCell' = true ∧ Rel w' (fun b => NewS w w' S b ∧ b ≠ l.g) [] (vs.getD (i * sz + j) Go.undef) (c i j)

def CRes (w w' : World) (S : Nat → Prop) (v : Value) : CR → Prop
  | .val a => Rel w' (NewS w w' S) [] v a
  | .fresh e sz n c => FreshV w w' S v e sz n c
  | .freshT e u l => FreshV w w' S v e (szT u) l.length (vw u l)
  | .valN e u l => FreshV w w' S v e (szT u) l.length (vw u l)

/-- The post of a call. -/
def CPost (w : World) (S : Nat → Prop) (r : CR) (e : Ending) (w' : World) : Prop := ∃ v, e = .returned v ∧ Below w.heap.size w w' ∧ CRes w w' S v r

/-- A call of a function, with a body or without. -/
def Via (P : Program) (f : FuncId) (vs : Array Value) (w : World) (R : Ending → World → Prop) : Prop :=
  ((callFunc f vs).run P w = .ok (.enter f vs) w ∧ Calls P f vs w R) ∨ ∃ v w', (callFunc f vs).run P w = .ok (.value v) w' ∧ R (.returned v) w'

/-- THE CONTRACT: called with these arguments, in whatever memory, the function answers this, and all that there was lies as it lay. -/
def ACalls (P : Program) (f : Nat) (args : List AV) (r : CR) : Prop :=
  ∀ (w : World) (S : Nat → Prop) (vs : Array Value), GL w → (∀ b, S b → b < w.heap.size) → RelL w S [] vs args → Via P f vs w (CPost w S r)

/-- What a call comes to that is handed memory of the caller's own. -/
def SPost (Z : Env) (w : World) (S : Nat → Prop) (m : Locs) (r : R) (e : Ending) (w' : World) : Prop :=
  ∃ v S' m', e = .returned v ∧ Trans Z w S m w' S' m' r.inv ∧ MRel Z w' S' m' (r.m) ∧ Rel w' S' m' v r.v

/-- THE CONTRACT of a call that is handed memory of the caller's own. -/
def SCalls (P : Program) (f : Nat) (args : List AV) (M : Mem) (r : R) : Prop :=
  ∀ (Z : Env) (w : World) (S : Nat → Prop) (m : Locs) (vs : Array Value), MRel Z w S m M → RelL w S m vs args → Via P f vs w (SPost Z w S m r)

structure Sound (P : Program) (call : Oracle) : Prop where
  pu : ∀ id args r ks, call.pu std id args = some ⟨r, ks⟩ → AllT ks → ACalls P id args r
  me : ∀ id args M r, call.me std id args M = some r → AllT r.ks → SCalls P id args M r

/-- A table of contracts by arguments alone. -/
def tblO (t : PureT) : Oracle := ⟨t, noMe⟩
theorem Sound.tbl {P : Program} {t : PureT} (h : ∀ id args r ks, t std id args = some ⟨r, ks⟩ → AllT ks → ACalls P id args r) : Sound P (tblO t) := ⟨h, fun _ _ _ _ h => by simp [tblO, noMe] at h⟩

/-- All that there is. -/
def AllS (base : Env) (S : Nat → Prop) (w : World) : Nat → Prop := fun b => (S b ∨ ¬ base.Z b) ∧ b < w.heap.size

theorem Rel.all {base : Env} {v : Value} {a : AV} (hsb : ∀ b, S b → b < w.heap.size) (h : Rel w S m v a) : Rel w (AllS base S w) m v a := h.mono (fun b h => ⟨.inl h, hsb b h⟩) (fun _ _ => rfl) _ (fun _ _ h => h)

theorem lenA_mapA (f : AV → AV) (l : List AV) : lenA (mapA f l) = lenA l := by induction l with | nil => rfl | cons a l ih => simp [mapA, lenA, ih]
theorem nth_mapA (f : AV → AV) (l : List AV) (i : Nat) (hi : i < lenA l) : nth (mapA f l) i = f (nth l i) := by
  induction l generalizing i with
  | nil => simp [lenA] at hi
  | cons a l ih => cases i with
    | zero => rfl
    | succ i => simpa [mapA, nth] using ih i (by simp [lenA] at hi; omega)

theorem own_slice (hM : MRel base w S m M) {v : Value} {b n : Nat} (h : Rel w S m v (.own b n)) {e sz n' : Nat} {c : Nat → Nat → AV} (hb : blk M b = .rows e sz n' c) : Rel w (AllS base S w) [] v (.slice sz n false fun i j => c i j) := by
  cases h with
  | own0 => exact .slice0 _ _ _ _ _ _ (by unfold maxLen; omega) (fun h => by simp at h)
  | own _ _ _ l h0 hn hc =>
    have hB := bk_of hM h0
    rw [hb] at hB
    obtain ⟨k1, k2, k3, k4, vs, k5, k6, k7⟩ := hB
    subst k1 k2
    refine .slice _ _ _ _ _ _ _ _ (fun i j => vs.getD (i * l.sz + j) Go.undef) ⟨.inr (hM.lt _ _ h0).1, (hM.lt _ _ h0).2.1⟩ (by omega) hc.2 (fun h => by simp at h) (fun i hi j hj => ⟨?_, (k7 i (by omega) j hj).1⟩) (fun i hi j hj => (k7 i (by omega) j hj).2.all hM.sb)
    rw [Nat.zero_add]
    refine blk_cell k5 ?_
    have := eref_lt (off := j) (k := 1) (show i < l.n by omega) (show j + 1 ≤ l.sz by omega)
    have h8 : l.n * l.sz ≤ l.cap * l.sz := Nat.mul_le_mul_right _ k3
    omega

theorem tail_slice (hM : MRel base w S m M) {v : Value} {b lo n : Nat} (h : Rel w S m v (.tail b lo n)) {e sz n' : Nat} {c : Nat → Nat → AV} (hb : blk M b = .rows e sz n' c) : Rel w (AllS base S w) [] v (.slice sz n false fun i j => c (lo + i) j) := by
  cases h with
  | tail _ a _ _ _ cp hn h =>
    by_cases hn0 : n = 0
    · subst hn0
      exact .slice0 _ _ _ _ _ _ hn.2 (fun h => by simp at h)
    · obtain ⟨l, h0, rfl, hle⟩ := h (by omega)
      have hB := bk_of hM h0
      rw [hb] at hB
      obtain ⟨k1, k2, k3, k4, vs, k5, k6, k7⟩ := hB
      subst k1 k2
      refine .slice _ _ _ _ _ _ _ _ (fun i j => vs.getD ((lo + i) * l.sz + j) Go.undef) ⟨.inr (hM.lt _ _ h0).1, (hM.lt _ _ h0).2.1⟩ hn.1 hn.2 (fun h => by simp at h) (fun i hi j hj => ⟨?_, (k7 (lo + i) (by omega) j hj).1⟩) (fun i hi j hj => (k7 (lo + i) (by omega) j hj).2.all hM.sb)
      rw [← Nat.add_mul]
      refine blk_cell k5 ?_
      have := eref_lt (off := j) (k := 1) (show lo + i < l.n by omega) (show j + 1 ≤ l.sz by omega)
      have h8 : l.n * l.sz ≤ l.cap * l.sz := Nat.mul_le_mul_right _ k3
      omega

theorem eref_cptr (hM : MRel base w S m M) {v : Value} {b i off : Nat} (h : Rel w S m v (.eref b i off)) {e sz n : Nat} {c : Nat → Nat → AV} (hb : blk M b = .rows e sz n c) : Rel w (AllS base S w) [] v (.cptr (sz - off) fun j => c i (off + j)) := by
  cases h with
  | eref _ _ _ _ l h0 hr =>
    have hB := bk_of hM h0
    rw [hb] at hB
    obtain ⟨k1, k2, k3, k4, vs, k5, k6, k7⟩ := hB
    subst k1 k2
    refine .cptr _ _ _ _ _ (fun j => vs.getD (i * l.sz + (off + j)) Go.undef) ⟨.inr (hM.lt _ _ h0).1, (hM.lt _ _ h0).2.1⟩ (fun j hj => ⟨?_, (k7 i hr (off + j) (by omega)).1⟩) (fun j hj => (k7 i hr (off + j) (by omega)).2.all hM.sb)
    rw [Nat.add_assoc]
    refine blk_cell k5 ?_
    have := eref_lt (off := off + j) (k := 1) hr (show off + j + 1 ≤ l.sz by omega)
    have h8 : l.n * l.sz ≤ l.cap * l.sz := Nat.mul_le_mul_right _ k3
    omega

theorem ownT_slice (hM : MRel base w S m M) {v : Value} {b : Nat} (h : Rel w S m v (.ownT b)) {e : Nat} {u : Ty} {l : List (El u)} (hb : blk M b = .trows e u l) : Rel w (AllS base S w) [] v (.tsl u l false) :=
  Le.tsl id rfl rfl (fun _ _ _ _ => Le.refl _) _ _ _ _ (own_slice hM.un (h.T_own hM hb) (by rw [blk_un, hb]; rfl))
theorem ownN_slice (hM : MRel base w S m M) {v : Value} {b n : Nat} (h : Rel w S m v (.own b n)) {e : Nat} {u : Ty} {l : List (El u)} (hb : blk M b = .trows e u l) : Rel w (AllS base S w) [] v (.tsl u (l.take n) false) := by
  have h1 := own_slice hM.un h (e := e) (sz := szT u) (n' := l.length) (c := vw u l) (by rw [blk_un, hb]; rfl)
  have hlen : n = (l.take n).length := by
    cases h with
    | own0 _ a _ h => simp
    | own _ _ _ l' h hn hc =>
      have hB := hM.bk _ _ h
      rw [hb] at hB
      have : l'.n = l.length := hB.2.1
      simp; omega
  exact Le.tsl id rfl hlen (fun i hi j hj => by rw [vw_take _ _ _ _ _ hi]; exact Le.refl _) _ _ _ _ h1
theorem tailT_slice (hM : MRel base w S m M) {v : Value} {b lo n : Nat} (h : Rel w S m v (.tail b lo n)) {e : Nat} {u : Ty} {l : List (El u)} (hb : blk M b = .trows e u l) : Rel w (AllS base S w) [] v (.tsl u ((l.drop lo).take n) false) := by
  have h1 := tail_slice hM.un h (e := e) (sz := szT u) (n' := l.length) (c := vw u l) (by rw [blk_un, hb]; rfl)
  have hlen : n = ((l.drop lo).take n).length := by
    cases h with
    | tail _ a _ _ _ cp hn h =>
      by_cases h0 : n = 0
      · subst h0; simp
      · obtain ⟨l', h1, _, h2⟩ := h (by omega)
        have hB := hM.bk _ _ h1
        rw [hb] at hB
        have : l'.n = l.length := hB.2.1
        simp; omega
  exact Le.tsl id rfl hlen (fun i hi j hj => by rw [vw_take _ _ _ _ _ hi, vw_drop]; exact Le.refl _) _ _ _ _ h1
theorem erefT_cptr (hM : MRel base w S m M) {v : Value} {b i off : Nat} (h : Rel w S m v (.eref b i off)) {e : Nat} {u : Ty} {l : List (El u)} (hb : blk M b = .trows e u l) : Rel w (AllS base S w) [] v (.cptr (szT u - off) fun j => nth (rowT u l i) (off + j)) :=
  eref_cptr hM.un h (e := e) (n := l.length) (c := vw u l) (by rw [blk_un, hb]; rfl)

/-- The keys of a map of one's own, to others. -/
theorem sub_mv (hM : MRel base w S m M) {i : Nat} {l : Loc} (h0 : m[i]? = some (some l)) {g : Nat} (hg : g ∈ l.ext) {y : List (List UInt8 × Int)} (hy : SubR w S g y) : Rel w (AllS base S w) [] (.map (some g)) (.mv .str (.int .i64) y) := by
  obtain ⟨es, ck, q1, q2, q3, q4⟩ := hy
  have ho := (hM.ext _ _ h0).out g hg
  exact .mv _ _ es ck _ _ _ ⟨.inr ho.1, ho.2.1⟩ q1 q2 (fun i hi => (q3 i hi).1.all hM.sb) (fun i hi => (q3 i hi).2.all hM.sb) q4
theorem fam_mv (hM : MRel base w S m M) {i : Nat} {l : Loc} (h0 : m[i]? = some (some l)) {x : List (List UInt8 × (Int × (List UInt8 × Int)))} {y : List (List (List UInt8 × Int))} (hB : FamR w S l x y) : Rel w (AllS base S w) [] (.map (some l.g)) (.mv .str viewT (famView x y)) := by
  obtain ⟨_, _, ⟨es, ck, f3, f4, f5, f6⟩, f7⟩ := hB
  have hlen : (famView x y).length = x.length := List.length_map _
  refine .mv _ _ es ck _ _ _ ⟨.inr (hM.lt _ _ h0).1, (hM.lt _ _ h0).2.1⟩ f3 (by rw [hlen]; exact f4) (fun i hi => ?_) (fun i hi => ?_)
    ⟨f6.born, f6.once, ?_, rfl, (fun h => by cases h), by rw [hlen]; exact f6.few, fun h => by cases h⟩
  · rw [hlen] at hi
    obtain ⟨h1, h2, _⟩ := f5 i _ (List.getElem?_eq_getElem hi)
    have e : mkAV .str viewT (famView x y) i = .str x[i].1 := by
      unfold mkAV famView
      rw [List.getD_eq_getElem?_getD, List.getElem?_map, List.getElem?_eq_getElem hi]
      rfl
    rw [h1, e]
    exact .str _ _ h2
  · rw [hlen] at hi
    obtain ⟨_, _, j, g, h3, h4, h5, h6, h7⟩ := f5 i _ (List.getElem?_eq_getElem hi)
    have e : mvAV .str viewT (famView x y) i = .agg [.int .i64 x[i].2.1, .str x[i].2.2.1, .mv .str (.int .i64) (y.getD (j + 1) [])] := by
      unfold mvAV famView
      rw [List.getD_eq_getElem?_getD, List.getElem?_map, List.getElem?_eq_getElem hi]
      show AV.agg [.int .i64 x[i].2.1, .str x[i].2.2.1, .mv .str (.int .i64) (y.getD (x[i].2.2.2.toNat + 1) [])] = _
      rw [h3, Int.toNat_natCast]
    rw [h5, e]
    have hs := sub_mv hM h0 (List.mem_of_getElem? h4) (f7 j g h4)
    refine .agg _ _ _ rfl (fun k hk => ?_) (fun k hk => ?_)
    all_goals
      have hk : k < 3 := hk
      match k, hk with
      | 0, _ => first | rfl | exact .int _ _ _ h6
      | 1, _ => first | rfl | exact .str _ _ h7
      | 2, _ => first | rfl | exact hs
  · exact List.pairwise_map.2 f6.keys

theorem borrowN_ok (hM : MRel base w S m M) (k : Nat) : ∀ {v : Value} {a : AV}, Rel w S m v a → Rel w (AllS base S w) [] v (borrowN M k a) := by
  induction k with
  | zero =>
    intro v a h
    cases a with
    | own b n =>
      simp only [borrowN]
      split
      · rename_i hb; exact own_slice hM h hb
      · rename_i hb; exact ownN_slice hM h hb
      · exact .undef _ _
    | ownT b =>
      simp only [borrowN]
      split
      · rename_i hb; exact ownT_slice hM h hb
      · exact .undef _ _
    | tail b lo n =>
      simp only [borrowN]
      split
      · rename_i hb; exact tail_slice hM h hb
      · rename_i hb; exact tailT_slice hM h hb
      · exact .undef _ _
    | eref b i off =>
      simp only [borrowN]
      split
      · rename_i e sz n c hb; exact eref_cptr hM h hb
      · rename_i hb; exact erefT_cptr hM h hb
      · exact .undef _ _
    | ref => exact .undef _ _
    | fn => exact .undef _ _
    | agg cs => exact .undef _ _
    | undef => exact .undef _ _
    | tup => exact .undef _ _
    | nxt b vs => cases h with
      | nxtT _ _ _ hl h0 h => exact .nxtT _ _ _ hl h0 fun i hi => (h i hi).all hM.sb
      | nxtF => exact .nxtF _ _
    | nilB n => cases h with | nilB _ b _ h => exact .nilB _ _ _ h
    | selfp => exact .undef _ _
    | asl => exact .undef _ _
    | mp b =>
      cases h with
      | mp _ _ l h0 =>
        have hB := bk_of hM h0
        cases hb : blk M b with
        | map t u x =>
          rw [hb] at hB
          obtain ⟨es, ck, q1, q2, q3, q4⟩ := hB
          simp only [borrowN, hb]
          exact .mv _ _ es ck _ _ _ ⟨.inr (hM.lt _ _ h0).1, (hM.lt _ _ h0).2.1⟩ q1 q2 (fun i hi => (q3 i hi).1.all hM.sb) (fun i hi => (q3 i hi).2.all hM.sb) q4
        | fam x y =>
          rw [hb] at hB
          simp only [borrowN, hb]
          exact fam_mv hM h0 hB
        | _ => simp only [borrowN, hb]; exact .undef _ _
      | mp0 _ _ h0 =>
        have hB := hM.bk _ _ h0
        cases hb : blk M b with
        | map t u x => rw [hb] at hB; exact hB.elim
        | fam x y =>
          rw [hb] at hB
          obtain ⟨rfl, _⟩ := hB
          simp only [borrowN, hb]
          exact .mv0 _
        | _ => simp only [borrowN, hb]; exact .undef _ _
    | sub b j =>
      cases h with
      | sub _ _ _ l g h0 hj =>
        have hB := bk_of hM h0
        cases hb : blk M b with
        | fam x y =>
          rw [hb] at hB
          obtain ⟨es, ck, q1, q2, q3, q4⟩ := hB.2.2.2 j g hj
          have ho := (hM.ext _ _ h0).out g (List.mem_of_getElem? hj)
          simp only [borrowN, hb]
          exact .mv _ _ es ck _ _ _ ⟨.inr ho.1, ho.2.1⟩ q1 q2 (fun i hi => (q3 i hi).1.all hM.sb) (fun i hi => (q3 i hi).2.all hM.sb) q4
        | _ => simp only [borrowN, hb]; exact .undef _ _
    | lst => exact .undef _ _
    | _ => exact (h.out rfl []).all hM.sb
  | succ k ih =>
    intro v a h
    cases a with
    | own b n =>
      simp only [borrowN]
      split
      · rename_i hb; exact own_slice hM h hb
      · rename_i hb; exact ownN_slice hM h hb
      · exact .undef _ _
    | ownT b =>
      simp only [borrowN]
      split
      · rename_i hb; exact ownT_slice hM h hb
      · exact .undef _ _
    | tail b lo n =>
      simp only [borrowN]
      split
      · rename_i hb; exact tail_slice hM h hb
      · rename_i hb; exact tailT_slice hM h hb
      · exact .undef _ _
    | eref b i off =>
      simp only [borrowN]
      split
      · rename_i e sz n c hb; exact eref_cptr hM h hb
      · rename_i hb; exact erefT_cptr hM h hb
      · exact .undef _ _
    | ref b off =>
      simp only [borrowN]
      split
      · rename_i e cs hb
        cases h with
        | ref _ _ _ l h0 =>
          have hB := bk_of hM h0
          rw [hb] at hB
          obtain ⟨vs, k1, k2, k3, k4⟩ := hB
          refine .cptr _ _ _ _ _ (fun j => vs.getD (off + j) Go.undef) ⟨.inr (hM.lt _ _ h0).1, (hM.lt _ _ h0).2.1⟩ (fun j hj => ⟨blk_cell k1 (by omega), k3 _ (by omega)⟩) (fun j hj => ?_)
          rw [nth_mapA _ _ _ (by omega)]
          exact ih (k4 (off + j) (by omega))
      · exact .undef _ _
    | fn f as bs =>
      cases h with
      | fn _ _ fs cs _ _ hl hl' h1 h1' h h' =>
        refine .fn _ _ _ _ _ _ (by rw [lenA_mapA]; exact hl) (by rw [lenA_mapA]; exact hl') (fun i hi => h1 i (by rwa [lenA_mapA] at hi)) (fun i hi => h1' i (by rwa [lenA_mapA] at hi)) (fun i hi => ?_) (fun i hi => ?_)
        · rw [lenA_mapA] at hi
          rw [nth_mapA _ _ _ hi]; exact ih (h i hi)
        · rw [lenA_mapA] at hi
          rw [nth_mapA _ _ _ hi]; exact ih (h' i hi)
    | agg cs =>
      cases h with
      | agg _ vs _ hl h1 h =>
        refine .agg _ _ _ (by rw [lenA_mapA]; exact hl) (fun i hi => h1 i (by rwa [lenA_mapA] at hi)) fun i hi => ?_
        rw [lenA_mapA] at hi
        rw [nth_mapA _ _ _ hi]
        exact ih (h i hi)
    | undef => exact .undef _ _
    | tup vs =>
      cases h with
      | tup _ us _ hl h =>
        refine .tup _ _ _ (by rw [lenA_mapA]; exact hl) fun i hi => ?_
        rw [lenA_mapA] at hi
        rw [nth_mapA _ _ _ hi]
        exact ih (h i hi)
    | nxt b vs => cases h with
      | nxtT _ _ _ hl h0 h => exact .nxtT _ _ _ hl h0 fun i hi => (h i hi).all hM.sb
      | nxtF => exact .nxtF _ _
    | nilB n => cases h with | nilB _ b _ h => exact .nilB _ _ _ h
    | selfp => exact .undef _ _
    | asl => exact .undef _ _
    | mp b =>
      cases h with
      | mp _ _ l h0 =>
        have hB := bk_of hM h0
        cases hb : blk M b with
        | map t u x =>
          rw [hb] at hB
          obtain ⟨es, ck, q1, q2, q3, q4⟩ := hB
          simp only [borrowN, hb]
          exact .mv _ _ es ck _ _ _ ⟨.inr (hM.lt _ _ h0).1, (hM.lt _ _ h0).2.1⟩ q1 q2 (fun i hi => (q3 i hi).1.all hM.sb) (fun i hi => (q3 i hi).2.all hM.sb) q4
        | fam x y =>
          rw [hb] at hB
          simp only [borrowN, hb]
          exact fam_mv hM h0 hB
        | _ => simp only [borrowN, hb]; exact .undef _ _
      | mp0 _ _ h0 =>
        have hB := hM.bk _ _ h0
        cases hb : blk M b with
        | map t u x => rw [hb] at hB; exact hB.elim
        | fam x y =>
          rw [hb] at hB
          obtain ⟨rfl, _⟩ := hB
          simp only [borrowN, hb]
          exact .mv0 _
        | _ => simp only [borrowN, hb]; exact .undef _ _
    | sub b j =>
      cases h with
      | sub _ _ _ l g h0 hj =>
        have hB := bk_of hM h0
        cases hb : blk M b with
        | fam x y =>
          rw [hb] at hB
          obtain ⟨es, ck, q1, q2, q3, q4⟩ := hB.2.2.2 j g hj
          have ho := (hM.ext _ _ h0).out g (List.mem_of_getElem? hj)
          simp only [borrowN, hb]
          exact .mv _ _ es ck _ _ _ ⟨.inr ho.1, ho.2.1⟩ q1 q2 (fun i hi => (q3 i hi).1.all hM.sb) (fun i hi => (q3 i hi).2.all hM.sb) q4
        | _ => simp only [borrowN, hb]; exact .undef _ _
    | lst i cs =>
      have hout : ∀ {b}, S b → AllS base S w b := fun h => ⟨.inl h, hM.sb _ h⟩
      cases h with
      | lst0 _ b o n _ f hs hn hl hc h =>
        refine .lst0 _ _ _ _ _ f (hout hs) hn (by rw [lenA_mapA]; exact hl) (fun j hj => hc j (by rwa [lenA_mapA] at hj)) fun j hj => ?_
        rw [lenA_mapA] at hj
        rw [nth_mapA _ _ _ hj]; exact ih (h j hj)
      | lst1 _ b o i _ f hs hi hc h =>
        refine .lst1 _ _ _ _ _ f (hout hs) (by rw [lenA_mapA]; exact hi) (fun j hj => hc j (by rwa [lenA_mapA] at hj)) fun j hj => ?_
        rw [lenA_mapA] at hj
        rw [nth_mapA _ _ _ hj]; exact ih (h j hj)
    | _ => exact (h.out rfl []).all hM.sb

theorem borrow_ok (hM : MRel base w S m M) {v : Value} {a : AV} (h : Rel w S m v a) : Rel w (AllS base S w) [] v (borrow M a) := borrowN_ok hM 5 h

theorem outside_borrow (k : Nat) {a : AV} (h : outside a = true) : borrowN M k a = a := by cases k <;> cases a <;> first | rfl | simp [outside] at h

theorem mapA_out (k : Nat) (l : List AV) (h : allOutside l = true) : mapA (borrowN M k) l = l := by
  induction l with
  | nil => rfl
  | cons a l ih =>
    simp only [allOutside] at h
    split at h
    · rename_i h1; simp only [mapA, outside_borrow k h1, ih h]
    · simp at h

theorem borrow_out {v : Value} {a : AV} (h : Rel w S m v a) (ho : isOut a = true) : Rel w S [] v (borrow M a) := by
  cases a with
  | agg cs =>
    simp only [isOut] at ho
    have e : borrow M (.agg cs) = .agg cs := by simp only [borrow, borrowN, mapA_out 4 cs ho]
    rw [e]
    cases h with
    | agg _ vs _ hl h1 h => exact .agg _ _ _ hl h1 fun i hi => (h i hi).out (allOutside_nth ho hi) _
  | fn f as bs =>
    simp only [isOut] at ho
    split at ho
    case h_2 => simp at ho
    rename_i o1 o2
    have e : borrow M (.fn f as bs) = .fn f as bs := by simp only [borrow, borrowN, mapA_out 4 as o1, mapA_out 4 bs o2]
    rw [e]
    cases h with
    | fn _ _ fs cs _ _ hl hl' h1 h1' h h' => exact .fn _ _ _ _ _ _ hl hl' h1 h1' (fun i hi => (h i hi).out (allOutside_nth o1 hi) _) (fun i hi => (h' i hi).out (allOutside_nth o2 hi) _)
  | _ =>
    simp only [isOut] at ho
    rw [show borrow M _ = _ from outside_borrow 5 ho]
    exact h.out ho _

theorem allOut_nth {l : List AV} (h : allOut l = true) {i : Nat} (hi : i < lenA l) : isOut (nth l i) = true := by
  induction l generalizing i with
  | nil => simp [lenA] at hi
  | cons a l ih =>
    simp only [allOut] at h
    split at h
    · cases i with
      | zero => assumption
      | succ i => exact ih h (by simp [lenA] at hi; omega)
    · simp at h

end Go.Eng
