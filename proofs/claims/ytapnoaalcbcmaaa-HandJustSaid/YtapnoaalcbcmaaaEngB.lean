/- What an abstract value says of a value: the relation, and how it is carried from world to world. -/
import Derived.Test.YtapnoaalcbcmaaaEngA
import Derived.Test.YtapnoaalcbcmaaaGlo
namespace Go.Eng
open Go Go.RowKit

structure Loc where
  g : Nat
  cap : Nat
  sz : Nat
  n : Nat
  st : Bool
  ext : List Nat := []

/-- What is frozen of its block: nothing; or one place behind all cells (of a row that was made of a string). -/
def Loc.fz (l : Loc) : Nat × Nat := match l.st with | true => (l.cap * l.sz, l.cap * l.sz + 1) | false => (0, 0)

abbrev Locs := List (Option Loc)

/-- A map's entries. -/
def meK (es : Array MapEntry) (i : Nat) : Value := ((es[i]?).map (·.key)).getD Go.undef
def meV (es : Array MapEntry) (i : Nat) : Value := ((es[i]?).map (·.val)).getD Go.undef
def mkAV (t u : Ty) (x : List (El t × El u)) (i : Nat) : AV := nth (cellsT t (x.getD i (dfl t, dfl u)).1) 0
def mvAV (t u : Ty) (x : List (El t × El u)) (i : Nat) : AV := bif isView u then .agg (cellsT u (x.getD i (dfl t, dfl u)).2) else nth (cellsT u (x.getD i (dfl t, dfl u)).2) 0
theorem isView_one {u : Ty} (h : szT u = 1) : isView u = false := by
  unfold isView
  split
  · cases h
  · rfl
structure MapOk (t u : Ty) (es : Array MapEntry) (ck : Nat) (x : List (El t × El u)) : Prop where
  born : ∀ e ∈ es.toList, e.born < ck
  once : (es.toList.map (·.born)).Nodup
  keys : x.Pairwise fun a b => a.1 ≠ b.1
  szk : szT t = 1
  szv : isView u = false → szT u = 1
  few : x.length ≤ maxLen
  idx : isIntT t = true → (∀ (i : Nat) (e : MapEntry), es.toList[i]? = some e → e.born = i) ∧ ck = es.toList.length

inductive Rel (w : World) (S : Nat → Prop) : Locs → Value → AV → Prop
  | undef (m : Locs) (v : Value) : Rel w S m v .undef
  | int (m : Locs) (k : IntKind) (n : Int) (h : (Lit.int k n).wf = true) : Rel w S m (.int k n) (.int k n)
  | bool (m : Locs) (b : Bool) : Rel w S m (.bool b) (.bool b)
  | str (m : Locs) (s : List UInt8) (h : s.length ≤ maxLen) : Rel w S m (.string (bytes s)) (.str s)
  | agg (m : Locs) (vs : Array Value) (cs : List AV) (hl : vs.size = lenA cs) (h1 : ∀ i, i < lenA cs → (vs.getD i Go.undef).oneCell' = true)
      (h : ∀ i, i < lenA cs → Rel w S m (vs.getD i Go.undef) (nth cs i)) : Rel w S m (.agg vs) (.agg cs)
  | tup (m : Locs) (vs : Array Value) (cs : List AV) (hl : vs.size = lenA cs) (h : ∀ i, i < lenA cs → Rel w S m (vs.getD i Go.undef) (nth cs i)) : Rel w S m (.tuple vs) (.tup cs)
  | nilptr (m : Locs) : Rel w S m (.pointer none) .nilptr
  | cptr (m : Locs) (b o n : Nat) (c : Nat → AV) (f : Nat → Value) (hs : S b) (hc : ∀ j, j < n → w.cell? ⟨b, o + j, none⟩ = some (f j) ∧ (f j).oneCell' = true)
      (h : ∀ j, j < n → Rel w S [] (f j) (c j)) : Rel w S m (.pointer (some ⟨b, o, none⟩)) (.cptr n c)
  | ref (m : Locs) (i off : Nat) (l : Loc) (h : m[i]? = some (some l)) : Rel w S m (.pointer (some ⟨l.g, off, none⟩)) (.ref i off)
  | selfp0 (m : Locs) (i : Nat) : Rel w S m (.pointer none) (.selfp i)
  | selfp (m : Locs) (i : Nat) (l : Loc) (h : m[i]? = some (some l)) : Rel w S m (.pointer (some ⟨l.g, 0, none⟩)) (.selfp i)
  | asl (m : Locs) (i n : Nat) (l : Loc) (h : m[i]? = some (some l)) (hn : n ≤ maxLen) : Rel w S m (.slice (some ⟨l.g, 0, none⟩) n n) (.asl i n)
  | mp (m : Locs) (i : Nat) (l : Loc) (h : m[i]? = some (some l)) : Rel w S m (.map (some l.g)) (.mp i)
  | mp0 (m : Locs) (i : Nat) (h : m[i]? = some none) : Rel w S m (.map none) (.mp i)
  | sub (m : Locs) (i j : Nat) (l : Loc) (g : Nat) (h : m[i]? = some (some l)) (hj : l.ext[j]? = some g) : Rel w S m (.map (some g)) (.sub i j)
  | mv (m : Locs) (b : Nat) (es : Array MapEntry) (ck : Nat) (t u : Ty) (x : List (El t × El u)) (hs : S b) (hg : w.heap[b]? = some (.map es ck)) (hl : es.size = x.length) (h1 : ∀ i, i < x.length → Rel w S [] (meK es i) (mkAV t u x i))
      (h2 : ∀ i, i < x.length → Rel w S [] (meV es i) (mvAV t u x i)) (hok : MapOk t u es ck x) : Rel w S m (.map (some b)) (.mv t u x)
  | mv0 (m : Locs) : Rel w S m (.map none) (.mv .str viewT [])
  | lst0 (m : Locs) (b o n : Nat) (cs : List AV) (f : Nat → Value) (hs : S b) (hn : n ≤ maxLen) (hl : n = lenA cs) (hc : ∀ j, j < lenA cs → w.cell? ⟨b, o + j, none⟩ = some (f j) ∧ (f j).oneCell' = true)
      (h : ∀ j, j < lenA cs → Rel w S m (f j) (nth cs j)) : Rel w S m (.slice (some ⟨b, o, none⟩) n n) (.lst 0 cs)
  | lst1 (m : Locs) (b o i : Nat) (cs : List AV) (f : Nat → Value) (hs : S b) (hi : i < lenA cs) (hc : ∀ j, j < lenA cs → w.cell? ⟨b, o + j, none⟩ = some (f j) ∧ (f j).oneCell' = true)
      (h : ∀ j, j < lenA cs → Rel w S m (f j) (nth cs j)) : Rel w S m (.pointer (some ⟨b, o + i, none⟩)) (.lst (i + 1) cs)
  | eref (m : Locs) (i r off : Nat) (l : Loc) (h : m[i]? = some (some l)) (hr : r < l.n) : Rel w S m (.pointer (some ⟨l.g, r * l.sz + off, none⟩)) (.eref i r off)
  | slice (m : Locs) (b o sz n cap : Nat) (full : Bool) (c : Nat → Nat → AV) (f : Nat → Nat → Value) (hs : S b) (hn : n ≤ cap) (hcap : cap ≤ maxLen) (hf : full = true → cap = n)
      (hc : ∀ i, i < n → ∀ j, j < sz → w.cell? ⟨b, o + i * sz + j, none⟩ = some (f i j) ∧ (f i j).oneCell' = true)
      (h : ∀ i, i < n → ∀ j, j < sz → Rel w S [] (f i j) (c i j)) : Rel w S m (.slice (some ⟨b, o, none⟩) n cap) (.slice sz n full c)
  | slice0 (m : Locs) (a : Option Addr) (cap sz : Nat) (full : Bool) (c : Nat → Nat → AV) (hcap : cap ≤ maxLen) (hf : full = true → cap = 0) : Rel w S m (.slice a 0 cap) (.slice sz 0 full c)
  | tsl (m : Locs) (t : Ty) (l : List (El t)) (full : Bool) (v : Value) (h : Rel w S m v (.slice (szT t) l.length full (vw t l))) : Rel w S m v (.tsl t l full)
  | nilsl (m : Locs) : Rel w S m (.slice none 0 0) .nilsl
  | emp (m : Locs) (a : Option Addr) : Rel w S m (.slice a 0 0) .emp
  | tail (m : Locs) (a : Option Addr) (i lo n cp : Nat) (hn : n ≤ cp ∧ cp ≤ maxLen) (h : 0 < n → ∃ l : Loc, m[i]? = some (some l) ∧ a = some ⟨l.g, lo * l.sz, none⟩ ∧ lo + n ≤ l.n) : Rel w S m (.slice a n cp) (.tail i lo n)
  | own0 (m : Locs) (a : Option Addr) (i : Nat) (h : m[i]? = some none) : Rel w S m (.slice a 0 0) (.own i 0)
  | own (m : Locs) (i n : Nat) (l : Loc) (h : m[i]? = some (some l)) (hn : n ≤ l.n) (hc : l.n ≤ l.cap ∧ l.cap ≤ maxLen) : Rel w S m (.slice (some ⟨l.g, 0, none⟩) n l.cap) (.own i n)
  | ownT0 (m : Locs) (a : Option Addr) (i : Nat) (h : m[i]? = some none) : Rel w S m (.slice a 0 0) (.ownT i)
  | ownT (m : Locs) (i : Nat) (l : Loc) (h : m[i]? = some (some l)) (hc : l.n ≤ l.cap ∧ l.cap ≤ maxLen) : Rel w S m (.slice (some ⟨l.g, 0, none⟩) l.n l.cap) (.ownT i)
  | fn (m : Locs) (f : Fn) (fs cs : Array Value) (as bs : List AV) (hl : fs.size = lenA as) (hl' : cs.size = lenA bs)
      (h1 : ∀ i, i < lenA as → (fs.getD i Go.undef).oneCell' = true) (h1' : ∀ i, i < lenA bs → (cs.getD i Go.undef).oneCell' = true)
      (h : ∀ i, i < lenA as → Rel w S m (fs.getD i Go.undef) (nth as i)) (h' : ∀ i, i < lenA bs → Rel w S m (cs.getD i Go.undef) (nth bs i)) : Rel w S m (.func f fs cs) (.fn f as bs)
  | nilfn (m : Locs) : Rel w S m .nilFunc .nilfn
  | nilmap (m : Locs) : Rel w S m (.map none) .nilmap
  | niliface (m : Locs) : Rel w S m .nilIface .niliface
  | nxtT (m : Locs) (vs : Array Value) (cs : List AV) (hl : vs.size = lenA cs + 1) (h0 : vs.getD 0 Go.undef = .bool true) (h : ∀ i, i < lenA cs → Rel w S [] (vs.getD (i + 1) Go.undef) (nth cs i)) : Rel w S m (.tuple vs) (.nxt true cs)
  | clo (m : Locs) (id : Nat) (fs cs : Array Value) (as bs : List AV) (hl0 : fs.size = lenA as) (hl : cs.size = lenA bs) (h0 : ∀ i, i < lenA as → Rel w S [] (fs.getD i Go.undef) (nth as i)) (h : ∀ i, i < lenA bs → Rel w S [] (cs.getD i Go.undef) (nth bs i)) : Rel w S m (.func (.func id) fs cs) (.clo id as bs)
  | nilB (m : Locs) (b : Bool) (n : Nat) (h : b = true → n = 0) : Rel w S m (.bool b) (.nilB n)
  | nxtF (m : Locs) (cs : List AV) : Rel w S m (.tuple #[.bool false]) (.nxt false cs)

/-! Plain facts on the helpers. -/
theorem lenA_eq (l : List AV) : lenA l = l.length := by induction l with | nil => rfl | cons a l ih => simp [lenA, ih]
theorem lenM_eq (l : Mem) : lenM l = l.length := by induction l with | nil => rfl | cons a l ih => simp [lenM, ih]
theorem nth_eq (l : List AV) (i : Nat) : nth l i = l.getD i .undef := by
  induction l generalizing i with
  | nil => rfl
  | cons a l ih => cases i with
    | zero => rfl
    | succ i => simpa [nth] using ih i
theorem blk_eq (l : Mem) (i : Nat) : blk l i = l.getD i .dead := by
  induction l generalizing i with
  | nil => rfl
  | cons a l ih => cases i with
    | zero => rfl
    | succ i => simpa [blk] using ih i
theorem put_eq (l : List AV) (i : Nat) (v : AV) : put l i v = l.set i v := by
  induction l generalizing i with
  | nil => rfl
  | cons a l ih => cases i with
    | zero => rfl
    | succ i => simpa [put] using ih i
theorem setBlk_eq (l : Mem) (i : Nat) (v : ABlk) : setBlk l i v = l.set i v := by
  induction l generalizing i with
  | nil => rfl
  | cons a l ih => cases i with
    | zero => rfl
    | succ i => simpa [setBlk] using ih i
theorem snocM_eq (l : Mem) (b : ABlk) : snocM l b = l ++ [b] := by induction l with | nil => rfl | cons a l ih => simp [snocM, ih]
theorem catA_eq (k l : List AV) : catA k l = k ++ l := by induction k with | nil => rfl | cons a k ih => simp [catA, ih]
theorem takeN_eq (n : Nat) (l : List AV) : takeN n l = l.take n := by
  induction n generalizing l with
  | zero => simp [takeN]
  | succ n ih => cases l with
    | nil => simp [takeN]
    | cons a l => simp [takeN, ih]
theorem dropN_eq (n : Nat) (l : List AV) : dropN n l = l.drop n := by
  induction n generalizing l with
  | zero => simp [dropN]
  | succ n ih => cases l with
    | nil => simp [dropN]
    | cons a l => simp [dropN, ih]
theorem lenA_tab (c : Nat → AV) (i n : Nat) : lenA (tab c i n) = n := by
  induction n generalizing i with
  | zero => rfl
  | succ n ih => simp [tab, lenA, ih]
theorem nth_tab (c : Nat → AV) (i n j : Nat) (h : j < n) : nth (tab c i n) j = c (i + j) := by
  induction n generalizing i j with
  | zero => omega
  | succ n ih => cases j with
    | zero => rfl
    | succ j => simp only [tab, nth]; rw [ih (i + 1) j (by omega)]; congr 1; omega
theorem lenA_take (n : Nat) (l : List AV) (h : n ≤ lenA l) : lenA (takeN n l) = n := by
  rw [lenA_eq] at *; rw [takeN_eq]; simp; omega
theorem lenA_drop (n : Nat) (l : List AV) : lenA (dropN n l) = lenA l - n := by
  rw [lenA_eq, lenA_eq, dropN_eq]; simp
theorem nth_take_drop (l : List AV) (off n j : Nat) (h : j < n) : nth (takeN n (dropN off l)) j = nth l (off + j) := by
  rw [nth_eq, nth_eq, takeN_eq, dropN_eq]
  simp [List.getD, List.getElem?_take, h]
theorem nth_put (l : List AV) (i j : Nat) (v : AV) : nth (put l i v) j = if i = j ∧ i < lenA l then v else nth l j := by
  rw [nth_eq, nth_eq, put_eq, lenA_eq]
  simp only [List.getD, List.getElem?_set]
  split
  · subst_vars; split
    · simp_all
    · rename_i h; simp [h, List.getElem?_eq_none (Nat.le_of_not_lt h)]
  · rename_i h; simp [h]
theorem lenA_put (l : List AV) (i : Nat) (v : AV) : lenA (put l i v) = lenA l := by rw [lenA_eq, lenA_eq, put_eq]; simp
theorem nth_out (l : List AV) (i : Nat) (h : lenA l ≤ i) : nth l i = .undef := by
  rw [nth_eq]; rw [lenA_eq] at h; simp [List.getD, List.getElem?_eq_none h]
theorem nth_cat (k l : List AV) (i : Nat) : nth (catA k l) i = if i < lenA k then nth k i else nth l (i - lenA k) := by
  rw [nth_eq, nth_eq, nth_eq, catA_eq, lenA_eq]
  simp only [List.getD, List.getElem?_append]
  split <;> rfl
theorem lenA_cat (k l : List AV) : lenA (catA k l) = lenA k + lenA l := by simp [lenA_eq, catA_eq]
theorem lenM_snoc (l : Mem) (b : ABlk) : lenM (snocM l b) = lenM l + 1 := by simp [lenM_eq, snocM_eq]
theorem blk_snoc (l : Mem) (b : ABlk) (i : Nat) : blk (snocM l b) i = if i = lenM l then b else blk l i := by
  rw [blk_eq, blk_eq, snocM_eq, lenM_eq]
  simp only [List.getD, List.getElem?_append]
  split
  · rename_i h; rw [if_neg (by omega)]
  · rename_i h
    split
    · subst_vars; simp
    · rw [List.getElem?_eq_none (by simp; omega), List.getElem?_eq_none (by omega)]
theorem blk_set (l : Mem) (b : ABlk) (i j : Nat) : blk (setBlk l i b) j = if i = j ∧ i < lenM l then b else blk l j := by
  rw [blk_eq, blk_eq, setBlk_eq, lenM_eq]
  simp only [List.getD, List.getElem?_set]
  split
  · subst_vars; split
    · simp_all
    · rename_i h; simp [h, List.getElem?_eq_none (Nat.le_of_not_lt h)]
  · rename_i h; simp [h]
theorem lenM_set (l : Mem) (i : Nat) (b : ABlk) : lenM (setBlk l i b) = lenM l := by simp [lenM_eq, setBlk_eq]
theorem setBlk_self (l : Mem) (i : Nat) : setBlk l i (blk l i) = l := by
  induction l generalizing i with
  | nil => rfl
  | cons a l ih => cases i with
    | zero => rfl
    | succ i => simp [setBlk, blk, ih]
theorem blk_lt (l : Mem) (i : Nat) (h : blk l i ≠ .dead) : i < lenM l := by
  rw [blk_eq] at h; rw [lenM_eq]
  by_cases hi : i < l.length
  · exact hi
  · exact absurd (by simp [List.getD, List.getElem?_eq_none (Nat.le_of_not_lt hi)]) h

theorem nbeq_ne {x i : Nat} (e : x ≠ i) : Nat.beq x i = false := by
  cases h : Nat.beq x i
  · rfl
  · exact absurd (Nat.eq_of_beq_eq_true h) e

/-! Carrying the relation on. -/
theorem Rel.monoC {w w' : World} {S S' : Nat → Prop} (hS : ∀ b, S b → S' b) (hw : ∀ b o v, S b → w.cell? ⟨b, o, none⟩ = some v → w'.cell? ⟨b, o, none⟩ = some v) (hmp : ∀ b es ck, S b → w.heap[b]? = some (.map es ck) → w'.heap[b]? = some (.map es ck)) {m : Locs} {v : Value} {a : AV} (h : Rel w S m v a) :
    ∀ m' : Locs, (∀ (i : Nat) (l : Option Loc), m[i]? = some l → m'[i]? = some l) → Rel w' S' m' v a := by
  induction h with
  | undef => intro m' _; exact .undef _ _
  | int _ k n h => intro m' _; exact .int _ _ _ h
  | bool => intro m' _; exact .bool _ _
  | str _ s h => intro m' _; exact .str _ _ h
  | agg _ vs cs hl h1 h ih => intro m' hm; exact .agg _ _ _ hl h1 fun i hi => ih i hi m' hm
  | tup _ vs cs hl h ih => intro m' hm; exact .tup _ _ _ hl fun i hi => ih i hi m' hm
  | nilptr => intro m' _; exact .nilptr _
  | cptr _ b o n c f hs hc h ih =>
    intro m' hm
    refine .cptr _ _ _ _ _ f (hS _ hs) (fun j hj => ⟨?_, (hc j hj).2⟩) fun j hj => ih j hj [] (fun _ _ h => h)
    exact hw _ _ _ hs (hc j hj).1
  | ref _ i off l h => intro m' hm; exact .ref _ _ _ _ (hm _ _ h)
  | selfp0 => intro m' _; exact .selfp0 _ _
  | selfp _ i l h => intro m' hm; exact .selfp _ _ _ (hm _ _ h)
  | asl _ i n l h hn => intro m' hm; exact .asl _ _ _ _ (hm _ _ h) hn
  | mp _ i l h => intro m' hm; exact .mp _ _ _ (hm _ _ h)
  | mp0 _ i h => intro m' hm; exact .mp0 _ _ (hm _ _ h)
  | sub _ i j l g h hj => intro m' hm; exact .sub _ _ _ _ _ (hm _ _ h) hj
  | mv _ b es ck t u x hs hg hl h1 h2 hok ih1 ih2 => intro m' hm; exact .mv _ b es ck _ _ _ (hS _ hs) (hmp b es ck hs hg) hl (fun i hi => ih1 i hi [] (fun _ _ h => h)) (fun i hi => ih2 i hi [] (fun _ _ h => h)) hok
  | mv0 => intro m' _; exact .mv0 _
  | lst0 _ b o n cs f hs hn hl hc h ih => intro m' hm; exact .lst0 _ _ _ _ _ f (hS _ hs) hn hl (fun j hj => ⟨hw _ _ _ hs (hc j hj).1, (hc j hj).2⟩) fun j hj => ih j hj m' hm
  | lst1 _ b o i cs f hs hi hc h ih => intro m' hm; exact .lst1 _ _ _ _ _ f (hS _ hs) hi (fun j hj => ⟨hw _ _ _ hs (hc j hj).1, (hc j hj).2⟩) fun j hj => ih j hj m' hm
  | eref _ i r off l h hr => intro m' hm; exact .eref _ _ _ _ _ (hm _ _ h) hr
  | slice _ b o sz n cap full c f hs hn hcap hf hc h ih =>
    intro m' hm
    refine .slice _ _ _ _ _ _ _ _ f (hS _ hs) hn hcap hf (fun i hi j hj => ⟨?_, (hc i hi j hj).2⟩) fun i hi j hj => ih i hi j hj [] (fun _ _ h => h)
    exact hw _ _ _ hs (hc i hi j hj).1
  | slice0 _ a cap sz full c hcap hf => intro m' _; exact .slice0 _ _ _ _ _ _ hcap hf
  | nilsl => intro m' _; exact .nilsl _
  | emp _ a => intro m' _; exact .emp _ _
  | tail _ a i lo n cp hn h => intro m' hm; exact .tail _ _ _ _ _ _ hn fun h0 => let ⟨l, h1, h2⟩ := h h0; ⟨l, hm _ _ h1, h2⟩
  | own0 _ a i h => intro m' hm; exact .own0 _ _ _ (hm _ _ h)
  | own _ i n l h hn hc => intro m' hm; exact .own _ _ _ _ (hm _ _ h) hn hc
  | tsl _ t l full v h ih => intro m' hm; exact .tsl _ _ _ _ _ (ih m' hm)
  | ownT0 _ a i h => intro m' hm; exact .ownT0 _ _ _ (hm _ _ h)
  | ownT _ i l h hc => intro m' hm; exact .ownT _ _ _ (hm _ _ h) hc
  | fn _ f fs cs as bs hl hl' h1 h1' h h' ih ih' => intro m' hm; exact .fn _ _ _ _ _ _ hl hl' h1 h1' (fun i hi => ih i hi m' hm) fun i hi => ih' i hi m' hm
  | nilfn => intro m' _; exact .nilfn _
  | nilmap => intro m' _; exact .nilmap _
  | niliface => intro m' _; exact .niliface _
  | nxtT _ vs cs hl h0 h ih => intro m' hm; exact .nxtT _ _ _ hl h0 fun i hi => ih i hi [] (fun _ _ h => h)
  | clo _ id fs cs as0 bs hl0 hl h0 h ih0 ih => intro m' _; exact .clo _ _ _ _ _ _ hl0 hl (fun i hi => ih0 i hi [] (fun _ _ h => h)) fun i hi => ih i hi [] (fun _ _ h => h)
  | nilB _ b n h => intro m' _; exact .nilB _ _ _ h
  | nxtF => intro m' _; exact .nxtF _ _

theorem Rel.mono {w w' : World} {S S' : Nat → Prop} (hS : ∀ b, S b → S' b) (hw : ∀ b, S b → w'.heap[b]? = w.heap[b]?) {m : Locs} {v : Value} {a : AV} (h : Rel w S m v a) :
    ∀ m' : Locs, (∀ (i : Nat) (l : Option Loc), m[i]? = some l → m'[i]? = some l) → Rel w' S' m' v a :=
  h.monoC hS (fun b _ _ hs hc => by rw [← hc]; exact World.cell?_of_block (hw b hs)) (fun b _ _ hs hc => by rw [← hc]; exact hw b hs)

/-! The same place, of which perhaps more lies further off. -/
inductive LocLe : Option Loc → Option Loc → Prop
  | refl (l : Option Loc) : LocLe l l
  | ext (l : Loc) (e : List Nat) : LocLe (some l) (some { l with ext := l.ext ++ e })
theorem LocLe.ofNone {l : Option Loc} (h : LocLe none l) : l = none := by cases h; rfl
theorem LocLe.ofSome {l : Loc} {l' : Option Loc} (h : LocLe (some l) l') : ∃ e, l' = some { l with ext := l.ext ++ e } := by
  cases h with
  | refl => exact ⟨[], by simp⟩
  | ext _ e => exact ⟨e, rfl⟩
theorem LocLe.trans {a b c : Option Loc} (h : LocLe a b) (k : LocLe b c) : LocLe a c := by
  cases h with
  | refl => exact k
  | ext l e =>
    obtain ⟨e', rfl⟩ := k.ofSome
    show LocLe (some l) (some { l with ext := (l.ext ++ e) ++ e' })
    rw [List.append_assoc]
    exact .ext l (e ++ e')
def LocsLe (m m' : Locs) : Prop := ∀ (i : Nat) (l : Option Loc), m[i]? = some l → ∃ l', m'[i]? = some l' ∧ LocLe l l'
theorem LocsLe.ofSome {m m' : Locs} (hm : LocsLe m m') {i : Nat} {l : Loc} (h : m[i]? = some (some l)) : ∃ e, m'[i]? = some (some { l with ext := l.ext ++ e }) := by
  obtain ⟨l', h1, h2⟩ := hm _ _ h
  obtain ⟨e, rfl⟩ := h2.ofSome
  exact ⟨e, h1⟩
theorem LocsLe.ofNone {m m' : Locs} (hm : LocsLe m m') {i : Nat} (h : m[i]? = some none) : m'[i]? = some none := by
  obtain ⟨l', h1, h2⟩ := hm _ _ h
  rw [h2.ofNone] at h1
  exact h1
theorem Rel.longer {w : World} {S : Nat → Prop} {m : Locs} {v : Value} {a : AV} (h : Rel w S m v a) : ∀ m' : Locs, LocsLe m m' → Rel w S m' v a := by
  induction h with
  | undef => intro m' _; exact .undef _ _
  | int _ k n h => intro m' _; exact .int _ _ _ h
  | bool => intro m' _; exact .bool _ _
  | str _ s h => intro m' _; exact .str _ _ h
  | agg _ vs cs hl h1 h ih => intro m' hm; exact .agg _ _ _ hl h1 fun i hi => ih i hi m' hm
  | tup _ vs cs hl h ih => intro m' hm; exact .tup _ _ _ hl fun i hi => ih i hi m' hm
  | nilptr => intro m' _; exact .nilptr _
  | cptr _ b o n c f hs hc h ih => intro m' hm; exact .cptr _ _ _ _ _ f hs hc h
  | ref _ i off l h => intro m' hm; obtain ⟨e, h1⟩ := hm.ofSome h; exact Rel.ref _ _ _ { l with ext := l.ext ++ e } h1
  | selfp0 => intro m' _; exact .selfp0 _ _
  | selfp _ i l h => intro m' hm; obtain ⟨e, h1⟩ := hm.ofSome h; exact Rel.selfp _ _ { l with ext := l.ext ++ e } h1
  | asl _ i n l h hn => intro m' hm; obtain ⟨e, h1⟩ := hm.ofSome h; exact Rel.asl _ _ _ { l with ext := l.ext ++ e } h1 hn
  | mp _ i l h => intro m' hm; obtain ⟨e, h1⟩ := hm.ofSome h; exact Rel.mp _ _ { l with ext := l.ext ++ e } h1
  | mp0 _ i h => intro m' hm; exact .mp0 _ _ (hm.ofNone h)
  | sub _ i j l g h hj => intro m' hm; obtain ⟨e, h1⟩ := hm.ofSome h; exact Rel.sub _ _ _ { l with ext := l.ext ++ e } _ h1 (by show (l.ext ++ e)[j]? = _; rw [List.getElem?_append_left (List.getElem?_eq_some_iff.1 hj).1]; exact hj)
  | mv _ b es ck t u x hs hg hl h1 h2 hok ih1 ih2 => intro m' hm; exact .mv _ b es ck _ _ _ hs hg hl h1 h2 hok
  | mv0 => intro m' _; exact .mv0 _
  | lst0 _ b o n cs f hs hn hl hc h ih => intro m' hm; exact .lst0 _ _ _ _ _ f hs hn hl hc fun j hj => ih j hj m' hm
  | lst1 _ b o i cs f hs hi hc h ih => intro m' hm; exact .lst1 _ _ _ _ _ f hs hi hc fun j hj => ih j hj m' hm
  | eref _ i r off l h hr => intro m' hm; obtain ⟨e, h1⟩ := hm.ofSome h; exact Rel.eref _ _ _ _ { l with ext := l.ext ++ e } h1 hr
  | slice _ b o sz n cap full c f hs hn hcap hf hc h ih => intro m' hm; exact .slice _ _ _ _ _ _ _ _ f hs hn hcap hf hc h
  | slice0 _ a cap sz full c hcap hf => intro m' _; exact .slice0 _ _ _ _ _ _ hcap hf
  | nilsl => intro m' _; exact .nilsl _
  | emp _ a => intro m' _; exact .emp _ _
  | tail _ a i lo n cp hn h =>
    intro m' hm
    refine .tail _ _ _ _ _ _ hn fun h0 => ?_
    obtain ⟨l, h1, h2⟩ := h h0
    obtain ⟨e, h1⟩ := hm.ofSome h1
    exact ⟨{ l with ext := l.ext ++ e }, h1, h2⟩
  | own0 _ a i h => intro m' hm; exact .own0 _ _ _ (hm.ofNone h)
  | own _ i n l h hn hc => intro m' hm; obtain ⟨e, h1⟩ := hm.ofSome h; exact Rel.own _ _ _ { l with ext := l.ext ++ e } h1 hn hc
  | tsl _ t l full v h ih => intro m' hm; exact .tsl _ _ _ _ _ (ih m' hm)
  | ownT0 _ a i h => intro m' hm; exact .ownT0 _ _ _ (hm.ofNone h)
  | ownT _ i l h hc => intro m' hm; obtain ⟨e, h1⟩ := hm.ofSome h; exact Rel.ownT _ _ { l with ext := l.ext ++ e } h1 hc
  | fn _ f fs cs as bs hl hl' h1 h1' h h' ih ih' => intro m' hm; exact .fn _ _ _ _ _ _ hl hl' h1 h1' (fun i hi => ih i hi m' hm) fun i hi => ih' i hi m' hm
  | nilfn => intro m' _; exact .nilfn _
  | nilmap => intro m' _; exact .nilmap _
  | niliface => intro m' _; exact .niliface _
  | nxtT _ vs cs hl h0 h ih => intro m' hm; exact .nxtT _ _ _ hl h0 h
  | clo _ id fs cs as0 bs hl0 hl h0 h ih0 ih => intro m' _; exact .clo _ _ _ _ _ _ hl0 hl h0 h
  | nilB _ b n h => intro m' _; exact .nilB _ _ _ h
  | nxtF => intro m' _; exact .nxtF _ _
/-- Between two tables of places, of which one is longer but for one place: one that is as the first one there. -/
theorem LocsLe.between {m m' : Locs} {x : Nat} (hm : ∀ (i : Nat) (l : Option Loc), i ≠ x → m[i]? = some l → ∃ l', m'[i]? = some l' ∧ LocLe l l') :
    ∃ m1 : Locs, LocsLe m m1 ∧ ∀ (i : Nat) (l : Option Loc), i ≠ x → m1[i]? = some l → m'[i]? = some l := by
  refine ⟨(List.range m.length).map fun i => if i = x then (m[i]?).getD none else (m'[i]?).getD none, fun i l hi => ?_, fun i l hne hi => ?_⟩
  · have hlt : i < m.length := (List.getElem?_eq_some_iff.1 hi).1
    by_cases e : i = x
    · refine ⟨l, ?_, .refl _⟩
      rw [List.getElem?_map, List.getElem?_range hlt]
      show some (if i = x then (m[i]?).getD none else (m'[i]?).getD none) = _
      rw [if_pos e, hi]; rfl
    · obtain ⟨l', h1, h2⟩ := hm i l e hi
      refine ⟨l', ?_, h2⟩
      rw [List.getElem?_map, List.getElem?_range hlt]
      show some (if i = x then (m[i]?).getD none else (m'[i]?).getD none) = _
      rw [if_neg e, h1]; rfl
  · by_cases hlt : i < m.length
    · rw [List.getElem?_map, List.getElem?_range hlt] at hi
      have hi : some (if i = x then (m[i]?).getD none else (m'[i]?).getD none) = some l := hi
      rw [if_neg hne] at hi
      obtain ⟨l', h1, _⟩ := hm i _ hne (List.getElem?_eq_getElem hlt)
      rw [h1] at hi ⊢
      exact hi
    · rw [List.getElem?_map, List.getElem?_eq_none (by simp; omega)] at hi
      cases hi

theorem Rel.slice_m {w : World} {S : Nat → Prop} {m : Locs} {v : Value} {sz n : Nat} {full : Bool} {c : Nat → Nat → AV} (h : Rel w S m v (.slice sz n full c)) (m' : Locs) : Rel w S m' v (.slice sz n full c) := by
  cases h with
  | slice _ b o _ _ cap _ _ f hs hn hcap hf hc h => exact .slice _ _ _ _ _ _ _ _ f hs hn hcap hf hc h
  | slice0 _ a cap _ _ _ hcap hf => exact .slice0 _ _ _ _ _ _ hcap hf
theorem Rel.slice_inv {w : World} {S : Nat → Prop} {m : Locs} {v : Value} {sz n : Nat} {full : Bool} {c : Nat → Nat → AV} (h : Rel w S m v (.slice sz n full c)) : ∃ a cap, v = .slice a n cap ∧ n ≤ cap ∧ cap ≤ maxLen ∧ (full = true → cap = n) ∧
    (n = 0 ∨ ∃ (b o : Nat) (f : Nat → Nat → Value), a = some ⟨b, o, none⟩ ∧ S b ∧ (∀ i, i < n → ∀ j, j < sz → w.cell? ⟨b, o + i * sz + j, none⟩ = some (f i j) ∧ (f i j).oneCell' = true) ∧ ∀ i, i < n → ∀ j, j < sz → Rel w S [] (f i j) (c i j)) := by
  cases h with
  | slice _ b o _ _ cap _ _ f hs hn hcap hf hc h => exact ⟨_, cap, rfl, hn, hcap, hf, .inr ⟨b, o, f, rfl, hs, hc, h⟩⟩
  | slice0 _ a cap _ _ _ hcap hf => exact ⟨a, cap, rfl, Nat.zero_le _, hcap, hf, .inl rfl⟩
/-- The same rows, told otherwise. -/
theorem Rel.slice_congr {w : World} {S : Nat → Prop} {m : Locs} {v : Value} {sz n : Nat} {full : Bool} {c d : Nat → Nat → AV} (h : Rel w S m v (.slice sz n full c)) (hcd : ∀ i, i < n → ∀ j, j < sz → c i j = d i j) : Rel w S m v (.slice sz n full d) := by
  cases h with
  | slice _ b o _ _ cap _ _ f hs hn hcap hf hc h => exact .slice _ _ _ _ _ _ _ _ f hs hn hcap hf hc fun i hi j hj => by rw [← hcd i hi j hj]; exact h i hi j hj
  | slice0 _ a cap _ _ _ hcap hf => exact .slice0 _ _ _ _ _ _ hcap hf

theorem Rel.weak {w : World} {S : Nat → Prop} {m : Locs} {v : Value} {a : AV} (h : Rel w S [] v a) : Rel w S m v a :=
  h.mono (fun _ h => h) (fun _ _ => rfl) m (fun i l h => by simp at h)

theorem Rel.inval0 {w w' : World} {S S' : Nat → Prop} (hS : ∀ b, S b → S' b) (hw : ∀ b, S b → w'.heap[b]? = w.heap[b]?) {m m' : Locs} {x : Nat} (hm : ∀ (i : Nat) (l : Option Loc), i ≠ x → m[i]? = some l → m'[i]? = some l)
    {v : Value} {a : AV} (h : Rel w S m v a) : (∀ cs, a ≠ .agg cs) → Rel w' S' m' v (inval0 x a) := by
  intro hag
  cases h with
  | undef => exact .undef _ _
  | int _ k n h => exact .int _ _ _ h
  | bool => exact .bool _ _
  | str _ s h => exact .str _ _ h
  | agg _ vs cs hl h1 h => exact absurd rfl (hag cs)
  | tup _ vs cs hl h => exact .undef _ _
  | nilptr => exact .nilptr _
  | cptr _ b o n c f hs hc h => exact (Rel.cptr _ b o n c f hs hc h : Rel w S [] _ _).mono hS hw _ (fun i l h => by simp at h)
  | ref _ i off l h =>
    simp only [Eng.inval0]
    by_cases e : x = i
    · subst e; rw [Nat.beq_refl]; exact .undef _ _
    · rw [nbeq_ne e]; exact .ref _ _ _ _ (hm _ _ (fun h => e h.symm) h)
  | selfp0 _ i =>
    simp only [Eng.inval0]
    split
    · exact .undef _ _
    · exact .selfp0 _ _
  | selfp _ i l h =>
    simp only [Eng.inval0]
    by_cases e : x = i
    · subst e; rw [Nat.beq_refl]; exact .undef _ _
    · rw [nbeq_ne e]; exact .selfp _ _ _ (hm _ _ (fun h => e h.symm) h)
  | asl _ i n l h hn =>
    simp only [Eng.inval0]
    by_cases e : x = i
    · subst e; rw [Nat.beq_refl]; exact .undef _ _
    · rw [nbeq_ne e]; exact .asl _ _ _ _ (hm _ _ (fun h => e h.symm) h) hn
  | mp _ i l h =>
    simp only [Eng.inval0]
    by_cases e : x = i
    · subst e; rw [Nat.beq_refl]; exact .undef _ _
    · rw [nbeq_ne e]; exact .mp _ _ _ (hm _ _ (fun h => e h.symm) h)
  | mp0 _ i h =>
    simp only [Eng.inval0]
    by_cases e : x = i
    · subst e; rw [Nat.beq_refl]; exact .undef _ _
    · rw [nbeq_ne e]; exact .mp0 _ _ (hm _ _ (fun h => e h.symm) h)
  | sub _ i j l g h hj =>
    simp only [Eng.inval0]
    by_cases e : x = i
    · subst e; rw [Nat.beq_refl]; exact .undef _ _
    · rw [nbeq_ne e]; exact .sub _ _ _ _ _ (hm _ _ (fun h => e h.symm) h) hj
  | lst0 => exact .undef _ _
  | lst1 => exact .undef _ _
  | eref _ i r off l h hr =>
    simp only [Eng.inval0]
    by_cases e : x = i
    · subst e; rw [Nat.beq_refl]; exact .undef _ _
    · rw [nbeq_ne e]; exact .eref _ _ _ _ _ (hm _ _ (fun h => e h.symm) h) hr
  | slice _ b o sz n cap full c f hs hn hcap hf hc h => exact (Rel.slice _ b o sz n cap full c f hs hn hcap hf hc h : Rel w S [] _ _).mono hS hw _ (fun i l h => by simp at h)
  | mv0 => exact .mv0 _
  | mv _ b es ck t u y hs hg hl h1 h2 hok => exact (Rel.mv [] b es ck t u y hs hg hl h1 h2 hok : Rel w S [] _ _).mono hS hw _ (fun i l h => by simp at h)
  | slice0 _ a cap sz full c hcap hf => exact .slice0 _ _ _ _ _ _ hcap hf
  | nilsl => exact .nilsl _
  | emp _ a => exact .emp _ _
  | tail _ a i lo n cp hn h =>
    simp only [Eng.inval0]
    by_cases e : x = i
    · subst e; rw [Nat.beq_refl]; exact .undef _ _
    · rw [nbeq_ne e]; exact .tail _ _ _ _ _ _ hn fun h0 => let ⟨l, h1, h2⟩ := h h0; ⟨l, hm _ _ (fun h => e h.symm) h1, h2⟩
  | own0 _ a i h =>
    simp only [Eng.inval0]
    by_cases e : x = i
    · subst e; rw [Nat.beq_refl]; exact .undef _ _
    · rw [nbeq_ne e]; exact .own0 _ _ _ (hm _ _ (fun h => e h.symm) h)
  | own _ i n l h hn hc =>
    simp only [Eng.inval0]
    by_cases e : x = i
    · subst e; rw [Nat.beq_refl]; exact .undef _ _
    · rw [nbeq_ne e]; exact .own _ _ _ _ (hm _ _ (fun h => e h.symm) h) hn hc
  | tsl _ t l full v h =>
    exact .tsl _ _ _ _ _ ((h.slice_m []).mono hS hw _ (fun i l h => by simp at h))
  | ownT0 _ a i h =>
    simp only [Eng.inval0]
    by_cases e : x = i
    · subst e; rw [Nat.beq_refl]; exact .undef _ _
    · rw [nbeq_ne e]; exact .ownT0 _ _ _ (hm _ _ (fun h => e h.symm) h)
  | ownT _ i l h hc =>
    simp only [Eng.inval0]
    by_cases e : x = i
    · subst e; rw [Nat.beq_refl]; exact .undef _ _
    · rw [nbeq_ne e]; exact .ownT _ _ _ (hm _ _ (fun h => e h.symm) h) hc
  | fn _ f fs cs as bs hl hl' h1 h1' h h' => exact .undef _ _
  | nilfn => exact .nilfn _
  | nilmap => exact .nilmap _
  | niliface => exact .niliface _
  | nxtT _ vs cs hl h0 h => exact .nxtT _ _ _ hl h0 fun i hi => (h i hi).mono hS hw _ (fun _ _ h => h)
  | clo _ id fs cs as0 bs hl0 hl h0 h => exact .clo _ _ _ _ _ _ hl0 hl (fun i hi => (h0 i hi).mono hS hw _ (fun _ _ h => h)) fun i hi => (h i hi).mono hS hw _ (fun _ _ h => h)
  | nilB _ b n h => exact .nilB _ _ _ h
  | nxtF => exact .nxtF _ _

theorem lenA_inval0s (b : Nat) (l : List AV) : lenA (inval0s b l) = lenA l := by induction l with | nil => rfl | cons a l ih => simp [inval0s, lenA, ih]
theorem nth_inval0s (b : Nat) (l : List AV) (i : Nat) : nth (inval0s b l) i = inval0 b (nth l i) := by
  induction l generalizing i with
  | nil => rfl
  | cons a l ih => cases i with
    | zero => rfl
    | succ i => simpa [inval0s, nth] using ih i
theorem nth_invals (b : Nat) (l : List AV) (i : Nat) : nth (invals b l) i = inval b (nth l i) := by
  induction l generalizing i with
  | nil => rfl
  | cons a l ih => cases i with
    | zero => rfl
    | succ i => simpa [invals, nth] using ih i
theorem lenA_invals (b : Nat) (l : List AV) : lenA (invals b l) = lenA l := by induction l with | nil => rfl | cons a l ih => simp [invals, lenA, ih]
theorem blk_invalMs (b : Nat) (l : Mem) (i : Nat) : blk (invalMs b l) i = invalB b (blk l i) := by
  induction l generalizing i with
  | nil => rfl
  | cons a l ih => cases i with
    | zero => rfl
    | succ i => simpa [invalMs, blk] using ih i
theorem lenM_invalMs (b : Nat) (l : Mem) : lenM (invalMs b l) = lenM l := by induction l with | nil => rfl | cons a l ih => simp [invalMs, lenM, ih]

/-- A value of one cell is no aggregate. -/
theorem Rel.no_agg {w : World} {S : Nat → Prop} {m : Locs} {v : Value} {a : AV} (h : Rel w S m v a) (h1 : v.oneCell' = true) : ∀ cs, a ≠ .agg cs := by
  rintro cs rfl
  cases h
  simp [Value.oneCell'] at h1

theorem Rel.inval1 {w w' : World} {S S' : Nat → Prop} (hS : ∀ b, S b → S' b) (hw : ∀ b, S b → w'.heap[b]? = w.heap[b]?) {m m' : Locs} {x : Nat} (hm : ∀ (i : Nat) (l : Option Loc), i ≠ x → m[i]? = some l → m'[i]? = some l)
    {v : Value} {a : AV} (h : Rel w S m v a) : Rel w' S' m' v (Eng.inval1 x a) := by
  by_cases ha : ∃ cs, a = .agg cs
  · obtain ⟨cs, rfl⟩ := ha
    cases h with
    | agg _ vs cs hl h1 h =>
      refine .agg _ _ _ (by rw [lenA_inval0s]; exact hl) (fun i hi => h1 i (by rwa [lenA_inval0s] at hi)) fun i hi => ?_
      rw [lenA_inval0s] at hi
      rw [nth_inval0s]
      exact Rel.inval0 hS hw hm (h i hi) ((h i hi).no_agg (h1 i hi))
  · by_cases hf : ∃ f as bs, a = .fn f as bs
    · obtain ⟨f, as, bs, rfl⟩ := hf
      cases h with
      | fn _ f fs cs as bs hl hl' h1 h1' h h' =>
        refine .fn _ _ _ _ _ _ (by rw [lenA_inval0s]; exact hl) (by rw [lenA_inval0s]; exact hl') (fun i hi => h1 i (by rwa [lenA_inval0s] at hi)) (fun i hi => h1' i (by rwa [lenA_inval0s] at hi)) (fun i hi => ?_) (fun i hi => ?_)
        · rw [lenA_inval0s] at hi
          rw [nth_inval0s]
          exact Rel.inval0 hS hw hm (h i hi) ((h i hi).no_agg (h1 i hi))
        · rw [lenA_inval0s] at hi
          rw [nth_inval0s]
          exact Rel.inval0 hS hw hm (h' i hi) ((h' i hi).no_agg (h1' i hi))
    · have e : Eng.inval1 x a = Eng.inval0 x a := by
        cases a <;> first | rfl | (exact absurd ⟨_, rfl⟩ ha) | (exact absurd ⟨_, _, _, rfl⟩ hf)
      rw [e]
      exact Rel.inval0 hS hw hm h (fun cs e => ha ⟨cs, e⟩)

theorem lenA_inval1s (b : Nat) (l : List AV) : lenA (inval1s b l) = lenA l := by induction l with | nil => rfl | cons a l ih => simp [inval1s, lenA, ih]
theorem nth_inval1s (b : Nat) (l : List AV) (i : Nat) : nth (inval1s b l) i = Eng.inval1 b (nth l i) := by
  induction l generalizing i with
  | nil => rfl
  | cons a l ih => cases i with
    | zero => rfl
    | succ i => simpa [inval1s, nth] using ih i

theorem Rel.inval {w w' : World} {S S' : Nat → Prop} (hS : ∀ b, S b → S' b) (hw : ∀ b, S b → w'.heap[b]? = w.heap[b]?) {m m' : Locs} {x : Nat} (hm : ∀ (i : Nat) (l : Option Loc), i ≠ x → m[i]? = some l → m'[i]? = some l)
    {v : Value} {a : AV} (h : Rel w S m v a) : Rel w' S' m' v (Eng.inval x a) := by
  by_cases ht : ∃ vs, a = .tup vs
  · obtain ⟨vs, rfl⟩ := ht
    cases h with
    | tup _ us _ hl h =>
      refine .tup _ _ _ (by rw [lenA_inval1s]; exact hl) fun i hi => ?_
      rw [lenA_inval1s] at hi
      rw [nth_inval1s]
      exact (h i hi).inval1 hS hw hm
  · by_cases hl : ∃ k vs, a = .lst k vs
    · obtain ⟨k, vs, rfl⟩ := hl
      cases h with
      | lst0 _ b o n _ f hs hn hl hc h =>
        refine .lst0 _ _ _ _ _ f (hS _ hs) hn (by rw [lenA_inval1s]; exact hl) (fun j hj => ?_) fun j hj => ?_
        · rw [lenA_inval1s] at hj
          exact ⟨by rw [← (hc j hj).1]; exact World.cell?_of_block (hw b hs), (hc j hj).2⟩
        · rw [lenA_inval1s] at hj
          rw [nth_inval1s]
          exact (h j hj).inval1 hS hw hm
      | lst1 _ b o i _ f hs hi hc h =>
        refine .lst1 _ _ _ _ _ f (hS _ hs) (by rw [lenA_inval1s]; exact hi) (fun j hj => ?_) fun j hj => ?_
        · rw [lenA_inval1s] at hj
          exact ⟨by rw [← (hc j hj).1]; exact World.cell?_of_block (hw b hs), (hc j hj).2⟩
        · rw [lenA_inval1s] at hj
          rw [nth_inval1s]
          exact (h j hj).inval1 hS hw hm
    have e : Eng.inval x a = Eng.inval1 x a := by
      cases a <;> first | rfl | (exact absurd ⟨_, rfl⟩ ht) | (exact absurd ⟨_, _, rfl⟩ hl)
    rw [e]
    exact h.inval1 hS hw hm

/-! A map whose values hold maps. -/
def SubR (w : World) (S : Nat → Prop) (g : Nat) (y : List (El .str × El (.int .i64))) : Prop :=
  ∃ (es : Array MapEntry) (ck : Nat), w.heap[g]? = some (.map es ck) ∧ es.size = y.length ∧ (∀ i, i < y.length → Rel w S [] (meK es i) (mkAV .str (.int .i64) y i) ∧ Rel w S [] (meV es i) (mvAV .str (.int .i64) y i)) ∧ MapOk .str (.int .i64) es ck y
structure FamOk (es : Array MapEntry) (ck : Nat) (x : List (List UInt8 × (Int × (List UInt8 × Int)))) : Prop where
  born : ∀ e ∈ es.toList, e.born < ck
  once : (es.toList.map (·.born)).Nodup
  keys : x.Pairwise fun a b => a.1 ≠ b.1
  few : x.length ≤ maxLen
def FamR (w : World) (S : Nat → Prop) (l : Loc) (x : List (List UInt8 × (Int × (List UInt8 × Int)))) (y : List (List (List UInt8 × Int))) : Prop :=
  l.ext.length + 1 = y.length ∧ y ≠ [] ∧ (∃ (es : Array MapEntry) (ck : Nat), w.heap[l.g]? = some (.map es ck) ∧ es.size = x.length ∧
    (∀ i p, x[i]? = some p → meK es i = .string (bytes p.1) ∧ p.1.length ≤ maxLen ∧ ∃ j g : Nat, p.2.2.2 = (j : Int) ∧ l.ext[j]? = some g ∧ meV es i = .agg #[.int .i64 p.2.1, .string (bytes p.2.2.1), .map (some g)] ∧ (Lit.int .i64 p.2.1).wf = true ∧ p.2.2.1.length ≤ maxLen) ∧ FamOk es ck x) ∧
  ∀ (j g : Nat), l.ext[j]? = some g → SubR w S g (y.getD (j + 1) [])
theorem SubR.keep {w w' : World} {S S' : Nat → Prop} {g : Nat} {y : List (El .str × El (.int .i64))} (h : SubR w S g y) (hS : ∀ b, S b → S' b) (hst : ∀ b, S b → w'.heap[b]? = w.heap[b]?) (hg : w'.heap[g]? = w.heap[g]?) : SubR w' S' g y := by
  obtain ⟨es, ck, h1, h2, h3, h4⟩ := h
  exact ⟨es, ck, hg.trans h1, h2, fun i hi => ⟨(h3 i hi).1.mono hS hst _ (fun _ _ h => h), (h3 i hi).2.mono hS hst _ (fun _ _ h => h)⟩, h4⟩
theorem FamR.keep {w w' : World} {S S' : Nat → Prop} {l : Loc} {x : List (List UInt8 × (Int × (List UInt8 × Int)))} {y : List (List (List UInt8 × Int))} (h : FamR w S l x y) (hS : ∀ b, S b → S' b) (hst : ∀ b, S b → w'.heap[b]? = w.heap[b]?)
    (hg : w'.heap[l.g]? = w.heap[l.g]?) (he : ∀ b ∈ l.ext, w'.heap[b]? = w.heap[b]?) : FamR w' S' l x y := by
  obtain ⟨h1, h2, ⟨es, ck, h3, h4, h5, h6⟩, h7⟩ := h
  exact ⟨h1, h2, ⟨es, ck, hg.trans h3, h4, h5, h6⟩, fun j g hj => (h7 j g hj).keep hS hst (he g (List.mem_of_getElem? hj))⟩

/-! Memory of the call's own. -/
def BRel (w : World) (S : Nat → Prop) (m : Locs) : Option Loc → ABlk → Prop
  | _, .dead => True
  | some l, .cells e cs => ∃ vs : Array Value, w.heap[l.g]? = some (.cells vs e (0, 0)) ∧ vs.size = lenA cs ∧ (∀ i, i < lenA cs → (vs.getD i Go.undef).oneCell' = true) ∧ ∀ i, i < lenA cs → Rel w S m (vs.getD i Go.undef) (nth cs i)
  | some l, .rows e sz n c => l.sz = sz ∧ l.n = n ∧ n ≤ l.cap ∧ l.cap ≤ maxLen ∧ ∃ vs : Array Value, w.heap[l.g]? = some (.cells vs e l.fz) ∧ vs.size = l.cap * sz ∧
      ∀ i, i < n → ∀ j, j < sz → (vs.getD (i * sz + j) Go.undef).oneCell' = true ∧ Rel w S [] (vs.getD (i * sz + j) Go.undef) (c i j)
  | none, .rows _ _ n _ => n = 0
  | some l, .trows e t x => l.sz = szT t ∧ l.n = x.length ∧ x.length ≤ l.cap ∧ l.cap ≤ maxLen ∧ ∃ vs : Array Value, w.heap[l.g]? = some (.cells vs e l.fz) ∧ vs.size = l.cap * szT t ∧
      ∀ i, i < x.length → ∀ j, j < szT t → (vs.getD (i * szT t + j) Go.undef).oneCell' = true ∧ Rel w S [] (vs.getD (i * szT t + j) Go.undef) (vw t x i j)
  | none, .trows _ _ x => x.length = 0
  | some l, .fro e t x => l.sz = szT t ∧ l.n = x.length ∧ x.length ≤ l.cap ∧ l.cap ≤ maxLen ∧ ∃ (vs : Array Value) (fz : Nat × Nat), w.heap[l.g]? = some (.cells vs e fz) ∧ vs.size = l.cap * szT t ∧
      ∀ i, i < x.length → ∀ j, j < szT t → (vs.getD (i * szT t + j) Go.undef).oneCell' = true ∧ Rel w S [] (vs.getD (i * szT t + j) Go.undef) (vw t x i j)
  | none, .fro _ _ x => x.length = 0
  | some l, .arr e t x => ∃ vs : Array Value, w.heap[l.g]? = some (.cells vs e (0, 0)) ∧ vs.size = x.length ∧ ∀ i, i < x.length → (vs.getD i Go.undef).oneCell' = true ∧ Rel w S [] (vs.getD i Go.undef) (vw t x i 0)
  | some l, .map t u x => ∃ (es : Array MapEntry) (ck : Nat), w.heap[l.g]? = some (.map es ck) ∧ es.size = x.length ∧ (∀ i, i < x.length → Rel w S [] (meK es i) (mkAV t u x i) ∧ Rel w S [] (meV es i) (mvAV t u x i)) ∧ MapOk t u es ck x
  | some l, .siter s pos => w.heap[l.g]? = some (.stringIter (bytes s) pos) ∧ s.length ≤ maxLen
  | some l, .fam x y => FamR w S l x y
  | none, .fam x y => x = [] ∧ y = []
  | none, _ => False

/-- What is protected lies as it lay, and no channel was used. -/
structure Prot (Z : Nat → Prop) (w w' : World) : Prop where
  os : w'.os = w.os
  tape : w'.tape = w.tape
  output : w'.output = w.output
  size : w.heap.size ≤ w'.heap.size
  block : ∀ k, Z k → w'.heap[k]? = w.heap[k]?

theorem Prot.refl (Z : Nat → Prop) (w : World) : Prot Z w w := ⟨rfl, rfl, rfl, Nat.le_refl _, fun _ _ => rfl⟩
theorem Prot.trans {Z : Nat → Prop} {a b c : World} (h : Prot Z a b) (k : Prot Z b c) : Prot Z a c :=
  ⟨k.os.trans h.os, k.tape.trans h.tape, k.output.trans h.output, Nat.le_trans h.size k.size, fun i hi => (k.block i hi).trans (h.block i hi)⟩
theorem Prot.mono {Z Z' : Nat → Prop} {w w' : World} (h : Prot Z w w') (hZ : ∀ k, Z' k → Z k) : Prot Z' w w' := ⟨h.os, h.tape, h.output, h.size, fun k hk => h.block k (hZ k hk)⟩
theorem Prot.drew {Z : Nat → Prop} {a w : World} (h : Prot Z a w) : Prot Z a w.drew := ⟨h.os, h.tape, h.output, h.size, h.block⟩
theorem Prot.alloc {Z : Nat → Prop} {a w : World} (h : Prot Z a w) (hZ : ∀ b, Z b → b < w.heap.size) (o : Obj) : Prot Z a (w.alloc o) :=
  ⟨h.os, h.tape, h.output, by have := h.size; simp; omega, fun k hk => (Below.heap_alloc w o k (hZ k hk)).trans (h.block k hk)⟩
theorem prot_of_below {B : Nat} {w w' : World} (h : Below B w w') {Z : Nat → Prop} (hZ : ∀ k, Z k → k < B) : Prot Z w w' := ⟨h.os, h.tape, h.output, h.size, fun k hk => h.block k (hZ k hk)⟩
theorem Prot.below {B : Nat} {w w' : World} (h : Prot (fun k => k < B) w w') : Below B w w' := ⟨h.os, h.tape, h.output, h.size, h.block⟩

/-- What a call may not touch; and which blocks of its memory lie where they lay. -/
structure Env where
  Z : Nat → Prop
  pin : Nat → Option Loc
  gz : ∀ g, g ∈ gblks → Z g
  old : Nat → Prop
  oz : ∀ g, old g → Z g

/-- What lies further off of a block is nobody else's. -/
structure ExtOk (Z S : Nat → Prop) (n : Nat) (m : Locs) (i : Nat) (l : Loc) : Prop where
  nd : l.ext.Nodup
  out : ∀ b ∈ l.ext, ¬ Z b ∧ b < n ∧ ¬ S b
  far : ∀ b ∈ l.ext, ∀ (j : Nat) (l' : Loc), m[j]? = some (some l') → l'.g ≠ b ∧ (i ≠ j → b ∉ l'.ext)
theorem ExtOk.nil {Z S : Nat → Prop} {n : Nat} {m : Locs} {i : Nat} {l : Loc} (h : l.ext = []) : ExtOk Z S n m i l := by
  refine ⟨by rw [h]; exact List.nodup_nil, fun b hb => ?_, fun b hb => ?_⟩ <;> (rw [h] at hb; cases hb)
theorem ExtOk.re {Z S : Nat → Prop} {n : Nat} {m : Locs} {i : Nat} {l l' : Loc} (h : ExtOk Z S n m i l) (e : l'.ext = l.ext) : ExtOk Z S n m i l' :=
  ⟨by rw [e]; exact h.nd, fun b hb => h.out b (e ▸ hb), fun b hb => h.far b (e ▸ hb)⟩
/-- In another world, where no less is told apart. -/
theorem ExtOk.to {Z Z' S S' : Nat → Prop} {n n' : Nat} {m m' : Locs} {i : Nat} {l : Loc} (h : ExtOk Z S n m i l) (hZ : ∀ b, b < n → Z' b → Z b) (hn : n ≤ n') (hS : ∀ b, b ∈ l.ext → S' b → S b ∨ n ≤ b)
    (hm : ∀ (j : Nat) (l' : Loc), m'[j]? = some (some l') → (∃ l'', m[j]? = some (some l'') ∧ l'.g = l''.g ∧ (l'.ext = l''.ext ∨ l'.ext = [])) ∨ (n ≤ l'.g ∧ l'.ext = [])) : ExtOk Z' S' n' m' i l := by
  refine ⟨h.nd, fun b hb => ?_, fun b hb j l' hj => ?_⟩
  · obtain ⟨h1, h2, h3⟩ := h.out b hb
    refine ⟨fun z => h1 (hZ b h2 z), Nat.lt_of_lt_of_le h2 hn, fun s => ?_⟩
    rcases hS b hb s with s | s
    · exact h3 s
    · omega
  · have h2 := (h.out b hb).2.1
    rcases hm j l' hj with ⟨l'', k1, k2, k3⟩ | ⟨k1, k2⟩
    · obtain ⟨f1, f2⟩ := h.far b hb j l'' k1
      refine ⟨by rw [k2]; exact f1, fun e => ?_⟩
      rcases k3 with k3 | k3
      · rw [k3]; exact f2 e
      · rw [k3]; exact fun h => by cases h
    · exact ⟨by omega, fun _ => by rw [k2]; exact fun h => by cases h⟩

structure MRel (base : Env) (w : World) (S : Nat → Prop) (m : Locs) (M : Mem) : Prop where
  len : m.length = lenM M
  sb : ∀ b, S b → b < w.heap.size
  bk : ∀ (i : Nat) (l : Option Loc), m[i]? = some l → BRel w S m l (blk M i)
  lt : ∀ (i : Nat) (l : Loc), m[i]? = some (some l) → ¬ base.Z l.g ∧ l.g < w.heap.size ∧ ¬ S l.g
  inj : ∀ (i j : Nat) (l l' : Loc), m[i]? = some (some l) → m[j]? = some (some l') → l.g = l'.g → i = j
  base_le : ∀ b, base.Z b → b < w.heap.size
  gok : GL w
  pin : ∀ (i : Nat) (l : Loc), base.pin i = some l → m[i]? = some (some l) ∧ isCells (blk M i) = true
  ext : ∀ (i : Nat) (l : Loc), m[i]? = some (some l) → ExtOk base.Z S w.heap.size m i l

theorem MRel.gl {base : Env} {w w' : World} {S : Nat → Prop} {m : Locs} {M : Mem} (h : MRel base w S m M) (hp : ∀ k, base.Z k → w'.heap[k]? = w.heap[k]?) : GL w' := h.gok.mono fun g hg => hp g (base.gz g hg)

theorem MRel.new {base : Env} {w : World} {S : Nat → Prop} {m : Locs} {M : Mem} (h : MRel base w S m M) {g : Nat} (hg : w.heap.size ≤ g) : ¬ base.Z g := fun hb => by have := h.base_le g hb; omega

/-- What an operation may do to the world. -/
structure Trans (base : Env) (w : World) (S : Nat → Prop) (m : Locs) (w' : World) (S' : Nat → Prop) (m' : Locs) (inv : Option Nat) : Prop where
  below : Prot base.Z w w'
  sub : ∀ b, S b → S' b
  up : ∀ b, S' b → S b ∨ ¬ base.Z b
  st : ∀ b, S b → w'.heap[b]? = w.heap[b]?
  lm : ∀ (i : Nat) (l : Option Loc), inv ≠ some i → m[i]? = some l → ∃ l', m'[i]? = some l' ∧ LocLe l l'

theorem lmEq {m m' : Locs} {inv : Option Nat} (h : ∀ (i : Nat) (l : Option Loc), inv ≠ some i → m[i]? = some l → m'[i]? = some l) : ∀ (i : Nat) (l : Option Loc), inv ≠ some i → m[i]? = some l → ∃ l', m'[i]? = some l' ∧ LocLe l l' :=
  fun i l hi hl => ⟨l, h i l hi hl, .refl _⟩
theorem lmCat {m m' m'' : Locs} (h : ∀ (i : Nat) (l : Option Loc), (none : Option Nat) ≠ some i → m[i]? = some l → ∃ l', m'[i]? = some l' ∧ LocLe l l') (k : ∀ (i : Nat) (l : Option Loc), (none : Option Nat) ≠ some i → m'[i]? = some l → ∃ l', m''[i]? = some l' ∧ LocLe l l') :
    ∀ (i : Nat) (l : Option Loc), (none : Option Nat) ≠ some i → m[i]? = some l → ∃ l', m''[i]? = some l' ∧ LocLe l l' := fun i l hi hl => by
  obtain ⟨l1, h1, h2⟩ := h i l hi hl
  obtain ⟨l2, h3, h4⟩ := k i l1 hi h1
  exact ⟨l2, h3, h2.trans h4⟩
theorem Trans.refl (base : Env) (w : World) (S : Nat → Prop) (m : Locs) : Trans base w S m w S m none :=
  ⟨Prot.refl _ _, fun _ h => h, fun _ h => .inl h, fun _ _ => rfl, lmEq fun _ _ _ h => h⟩

def fx : Option Nat → AV → AV
  | none, a => a
  | some b, a => inval b a

theorem Trans.rel {base : Env} {w w' : World} {S S' : Nat → Prop} {m m' : Locs} {inv : Option Nat} (h : Trans base w S m w' S' m' inv) {v : Value} {a : AV} (hr : Rel w S m v a) : Rel w' S' m' v (fx inv a) := by
  cases inv with
  | none => exact (hr.mono h.sub h.st m fun _ _ h => h).longer _ fun i l => h.lm i l (by simp)
  | some b =>
    obtain ⟨m1, q1, q2⟩ := LocsLe.between (x := b) (m := m) (m' := m') fun i l hi => h.lm i l (by simpa using fun e => hi e.symm)
    exact (hr.longer _ q1).inval h.sub h.st q2

theorem isCells_inval (x : Nat) (B : ABlk) : isCells (invalB x B) = isCells B := by cases B <;> rfl

theorem MRel.pin_snoc {base : Env} {w : World} {S : Nat → Prop} {m : Locs} {M : Mem} (h : MRel base w S m M) (l₀ : Option Loc) (B : ABlk) (i : Nat) (l : Loc) (hi : base.pin i = some l) :
    (m ++ [l₀])[i]? = some (some l) ∧ isCells (blk (snocM M B) i) = true := by
  obtain ⟨h1, h2⟩ := h.pin i l hi
  have hlt : i < m.length := (List.getElem?_eq_some_iff.1 h1).1
  refine ⟨by rw [List.getElem?_append_left hlt]; exact h1, ?_⟩
  rw [blk_snoc, if_neg (by rw [← h.len]; omega)]
  exact h2

/-- A block of the call's own is laid. -/
theorem MRel.alloc {base : Env} {w : World} {S : Nat → Prop} {m : Locs} {M : Mem} (h : MRel base w S m M) (o : Obj) (l : Loc) (B : ABlk) (hl : l.g = w.heap.size)
    (hB : BRel (w.alloc o) S (m ++ [some l]) (some l) B) (hx : l.ext = [] := by rfl) :
    Trans base w S m (w.alloc o) S (m ++ [some l]) none ∧ MRel base (w.alloc o) S (m ++ [some l]) (snocM M B) := by
  have hheap : ∀ b, b < w.heap.size → (w.alloc o).heap[b]? = w.heap[b]? := fun b hb => Below.heap_alloc w o b hb
  have hst : ∀ b, S b → (w.alloc o).heap[b]? = w.heap[b]? := fun b hb => hheap b (h.sb b hb)
  have hlm : ∀ (i : Nat) (l' : Option Loc), m[i]? = some l' → (m ++ [some l])[i]? = some l' := fun i l' hi => by
    rw [List.getElem?_append_left (by exact (List.getElem?_eq_some_iff.1 hi).1)]; exact hi
  have hsplit : ∀ (i : Nat) (l' : Option Loc), (m ++ [some l])[i]? = some l' → m[i]? = some l' ∨ (i = m.length ∧ l' = some l) := fun i l' hi => by
    by_cases hlt : i < m.length
    · rw [List.getElem?_append_left hlt] at hi; exact .inl hi
    · have : i = m.length := by
        have := (List.getElem?_eq_some_iff.1 hi).1
        simp at this; omega
      subst this
      simp at hi
      exact .inr ⟨rfl, hi.symm⟩
  refine ⟨⟨(Prot.refl _ _).alloc h.base_le _, fun _ h => h, fun _ h => .inl h, hst, lmEq fun i l' _ hi => hlm i l' hi⟩, ?_⟩
  refine ⟨by simp [lenM_snoc, h.len], fun b hb => by have := h.sb b hb; simp; omega, ?_, ?_, ?_, fun b hb => by have := h.base_le b hb; simp; omega, h.gl fun k hk => hheap k (h.base_le k hk), h.pin_snoc _ _, fun i l' hi => ?_⟩
  rotate_right
  · rcases hsplit i _ hi with hi' | ⟨rfl, e⟩
    · refine (h.ext i l' hi').to (fun b _ h => h) (by simp) (fun b _ h => .inl h) fun j l'' hj => ?_
      rcases hsplit j _ hj with hj' | ⟨rfl, e⟩
      · exact .inl ⟨l'', hj', rfl, .inl rfl⟩
      · injection e with e; subst e; exact .inr ⟨by omega, hx⟩
    · injection e with e; subst e; exact .nil hx
  · intro i l' hi
    rcases hsplit i l' hi with hi' | ⟨rfl, rfl⟩
    · have hlt : i < m.length := (List.getElem?_eq_some_iff.1 hi').1
      rw [blk_snoc, if_neg (by rw [← h.len]; omega)]
      have hb := h.bk i l' hi'
      have hrel : ∀ v a, Rel w S m v a → Rel (w.alloc o) S (m ++ [some l]) v a := fun v a hr => hr.mono (fun _ h => h) hst _ hlm
      have hrel0 : ∀ v a, Rel w S [] v a → Rel (w.alloc o) S [] v a := fun v a hr => hr.mono (fun _ h => h) hst _ (fun _ _ h => h)
      cases l' with
      | none => revert hb; cases blk M i <;> exact fun h => h
      | some l₀ =>
        have hlt' := (h.lt i l₀ hi').2.1
        revert hb
        cases blk M i with
        | dead => exact fun h => h
        | cells e cs => rintro ⟨vs, h1, h2, h3, h4⟩; exact ⟨vs, (hheap _ hlt').trans h1, h2, h3, fun i hi => hrel _ _ (h4 i hi)⟩
        | rows e sz n c => rintro ⟨h0, h1, h2, h3, vs, h4, h5, h6⟩; exact ⟨h0, h1, h2, h3, vs, (hheap _ hlt').trans h4, h5, fun i hi j hj => ⟨(h6 i hi j hj).1, hrel0 _ _ (h6 i hi j hj).2⟩⟩
        | trows e ty x => rintro ⟨h0, h1, h2, h3, vs, h4, h5, h6⟩; exact ⟨h0, h1, h2, h3, vs, (hheap _ hlt').trans h4, h5, fun i hi j hj => ⟨(h6 i hi j hj).1, hrel0 _ _ (h6 i hi j hj).2⟩⟩
        | fro e ty x => rintro ⟨h0, h1, h2, h3, vs, fz, h4, h5, h6⟩; exact ⟨h0, h1, h2, h3, vs, fz, (hheap _ hlt').trans h4, h5, fun i hi j hj => ⟨(h6 i hi j hj).1, hrel0 _ _ (h6 i hi j hj).2⟩⟩
        | arr e ty x => rintro ⟨vs, h4, h5, h6⟩; exact ⟨vs, (hheap _ hlt').trans h4, h5, fun i hi => ⟨(h6 i hi).1, hrel0 _ _ (h6 i hi).2⟩⟩
        | map ty uy x => rintro ⟨es, ck, h4, h5, h6, h7⟩; exact ⟨es, ck, (hheap _ hlt').trans h4, h5, fun i hi => ⟨hrel0 _ _ (h6 i hi).1, hrel0 _ _ (h6 i hi).2⟩, h7⟩
        | siter s pos => rintro ⟨h1, h2⟩; exact ⟨(hheap _ hlt').trans h1, h2⟩
        | fam x y => exact fun hf => hf.keep (fun _ h => h) hst (hheap _ hlt') fun b hb => hheap b ((h.ext i l₀ hi').out b hb).2.1
    · rw [blk_snoc, if_pos h.len]; exact hB
  · intro i l' hi
    rcases hsplit i (some l') hi with hi' | ⟨rfl, e⟩
    · have := h.lt i l' hi'; exact ⟨this.1, by simp; omega, this.2.2⟩
    · injection e with e; subst e
      exact ⟨h.new (by omega), by simp [hl], fun hs => by have := h.sb _ hs; omega⟩
  · intro i j l1 l2 hi hj e
    rcases hsplit i _ hi with hi' | ⟨rfl, e1⟩ <;> rcases hsplit j _ hj with hj' | ⟨rfl, e2⟩
    · exact h.inj i j _ _ hi' hj' e
    · injection e2 with e2; subst e2; have := (h.lt i l1 hi').2.1; omega
    · injection e1 with e1; subst e1; have := (h.lt j l2 hj').2.1; omega
    · rfl

theorem MRel.drew {base : Env} {w : World} {S : Nat → Prop} {m : Locs} {M : Mem} (h : MRel base w S m M) : MRel base w.drew S m M := by
  have hrel : ∀ m v a, Rel w S m v a → Rel w.drew S m v a := fun m v a hr => Rel.mono (w := w) (w' := w.drew) (fun _ h => h) (fun _ _ => rfl) hr _ (fun _ _ h => h)
  refine ⟨h.len, h.sb, fun i l hi => ?_, h.lt, h.inj, h.base_le, h.gl fun _ _ => rfl, h.pin, h.ext⟩
  have hb := h.bk i l hi
  cases l with
  | none => revert hb; cases blk M i <;> exact fun h => h
  | some l₀ =>
    revert hb
    cases blk M i with
    | dead => exact fun h => h
    | cells e cs => rintro ⟨vs, h1, h2, h3, h4⟩; exact ⟨vs, h1, h2, h3, fun i hi => hrel _ _ _ (h4 i hi)⟩
    | rows e sz n c => rintro ⟨h0, h1, h2, h3, vs, h4, h5, h6⟩; exact ⟨h0, h1, h2, h3, vs, h4, h5, fun i hi j hj => ⟨(h6 i hi j hj).1, hrel _ _ _ (h6 i hi j hj).2⟩⟩
    | trows e ty x => rintro ⟨h0, h1, h2, h3, vs, h4, h5, h6⟩; exact ⟨h0, h1, h2, h3, vs, h4, h5, fun i hi j hj => ⟨(h6 i hi j hj).1, hrel _ _ _ (h6 i hi j hj).2⟩⟩
    | fro e ty x => rintro ⟨h0, h1, h2, h3, vs, fz, h4, h5, h6⟩; exact ⟨h0, h1, h2, h3, vs, fz, h4, h5, fun i hi j hj => ⟨(h6 i hi j hj).1, hrel _ _ _ (h6 i hi j hj).2⟩⟩
    | arr e ty x => rintro ⟨vs, h4, h5, h6⟩; exact ⟨vs, h4, h5, fun i hi => ⟨(h6 i hi).1, hrel _ _ _ (h6 i hi).2⟩⟩
    | map ty uy x => rintro ⟨es, ck, h4, h5, h6, h7⟩; exact ⟨es, ck, h4, h5, fun i hi => ⟨hrel _ _ _ (h6 i hi).1, hrel _ _ _ (h6 i hi).2⟩, h7⟩
    | siter s pos => exact fun h => h
    | fam x y => exact fun hf => hf.keep (fun _ h => h) (fun _ _ => rfl) rfl fun _ _ => rfl

theorem Trans.of_drew {base : Env} {w w' : World} {S S' : Nat → Prop} {m m' : Locs} {inv : Option Nat} (h : Trans base w.drew S m w' S' m' inv) : Trans base w S m w' S' m' inv :=
  ⟨(Prot.refl base.Z w).drew.trans h.below, h.sub, h.up, h.st, h.lm⟩

/-- A slice of the call's own that has no block yet. -/
theorem MRel.allocN {base : Env} {w : World} {S : Nat → Prop} {m : Locs} {M : Mem} (h : MRel base w S m M) (B : ABlk) (hB : BRel w S (m ++ [none]) none B) :
    Trans base w S m w S (m ++ [none]) none ∧ MRel base w S (m ++ [none]) (snocM M B) := by
  have hlm : ∀ (i : Nat) (l' : Option Loc), m[i]? = some l' → (m ++ [none])[i]? = some l' := fun i l' hi => by
    rw [List.getElem?_append_left (by exact (List.getElem?_eq_some_iff.1 hi).1)]; exact hi
  have hsplit : ∀ (i : Nat) (l' : Option Loc), (m ++ [none])[i]? = some l' → m[i]? = some l' ∨ (i = m.length ∧ l' = none) := fun i l' hi => by
    by_cases hlt : i < m.length
    · rw [List.getElem?_append_left hlt] at hi; exact .inl hi
    · have : i = m.length := by
        have := (List.getElem?_eq_some_iff.1 hi).1
        simp at this; omega
      subst this
      simp at hi
      exact .inr ⟨rfl, hi.symm⟩
  refine ⟨⟨Prot.refl _ _, fun _ h => h, fun _ h => .inl h, fun _ _ => rfl, lmEq fun i l' _ hi => hlm i l' hi⟩, ?_⟩
  refine ⟨by simp [lenM_snoc, h.len], h.sb, ?_, ?_, ?_, h.base_le, h.gok, h.pin_snoc _ _, fun i l' hi => ?_⟩
  rotate_right
  · rcases hsplit i _ hi with hi' | ⟨rfl, e⟩
    · refine (h.ext i l' hi').to (fun b _ h => h) (Nat.le_refl _) (fun b _ h => .inl h) fun j l'' hj => ?_
      rcases hsplit j _ hj with hj' | ⟨rfl, e⟩
      · exact .inl ⟨l'', hj', rfl, .inl rfl⟩
      · cases e
    · cases e
  · intro i l' hi
    rcases hsplit i l' hi with hi' | ⟨rfl, rfl⟩
    · have hlt : i < m.length := (List.getElem?_eq_some_iff.1 hi').1
      rw [blk_snoc, if_neg (by rw [← h.len]; omega)]
      have hb := h.bk i l' hi'
      have hrel : ∀ v a, Rel w S m v a → Rel w S (m ++ [none]) v a := fun v a hr => hr.mono (fun _ h => h) (fun _ _ => rfl) _ hlm
      cases l' with
      | none => revert hb; cases blk M i <;> exact fun h => h
      | some l₀ =>
        revert hb
        cases blk M i with
        | dead => exact fun h => h
        | cells e cs => rintro ⟨vs, h1, h2, h3, h4⟩; exact ⟨vs, h1, h2, h3, fun i hi => hrel _ _ (h4 i hi)⟩
        | rows e sz n c => exact fun h => h
        | trows e ty x => exact fun h => h
        | fro e ty x => exact fun h => h
        | arr e ty x => exact fun h => h
        | map ty uy x => exact fun h => h
        | siter s pos => exact fun h => h
        | fam x y => exact fun h => h
    · rw [blk_snoc, if_pos h.len]; exact hB
  · intro i l' hi
    rcases hsplit i (some l') hi with hi' | ⟨rfl, e⟩
    · exact h.lt i l' hi'
    · simp at e
  · intro i j l1 l2 hi hj e
    rcases hsplit i _ hi with hi' | ⟨rfl, e1⟩ <;> rcases hsplit j _ hj with hj' | ⟨rfl, e2⟩
    · exact h.inj i j _ _ hi' hj' e
    · simp at e2
    · simp at e1
    · simp at e1

/-- Memory that is nobody's own is laid. -/
theorem MRel.allocS {base : Env} {w : World} {S : Nat → Prop} {m : Locs} {M : Mem} (h : MRel base w S m M) (o : Obj) :
    Trans base w S m (w.alloc o) (fun b => S b ∨ b = w.heap.size) m none ∧ MRel base (w.alloc o) (fun b => S b ∨ b = w.heap.size) m M := by
  have hheap : ∀ b, b < w.heap.size → (w.alloc o).heap[b]? = w.heap[b]? := fun b hb => Below.heap_alloc w o b hb
  have hst : ∀ b, S b → (w.alloc o).heap[b]? = w.heap[b]? := fun b hb => hheap b (h.sb b hb)
  refine ⟨⟨(Prot.refl _ _).alloc h.base_le _, fun _ h => .inl h, fun b hb => hb.elim .inl (fun e => .inr (h.new (by omega))), hst, lmEq fun i l' _ hi => hi⟩, ?_⟩
  refine ⟨h.len, ?_, ?_, ?_, h.inj, fun b hb => by have := h.base_le b hb; simp; omega, h.gl fun k hk => hheap k (h.base_le k hk), h.pin, fun i l' hi => (h.ext i l' hi).to (fun b _ h => h) (by simp) (fun b _ h => h.imp id fun e => by omega) fun j l'' hj => .inl ⟨l'', hj, rfl, .inl rfl⟩⟩
  · rintro b (hb | rfl)
    · have := h.sb b hb; simp; omega
    · simp
  · intro i l' hi
    have hb := h.bk i l' hi
    have hrel : ∀ m v a, Rel w S m v a → Rel (w.alloc o) (fun b => S b ∨ b = w.heap.size) m v a := fun m v a hr => hr.mono (fun _ h => .inl h) hst _ (fun _ _ h => h)
    cases l' with
    | none => revert hb; cases blk M i <;> exact fun h => h
    | some l₀ =>
      have hlt' := (h.lt i l₀ hi).2.1
      revert hb
      cases blk M i with
      | dead => exact fun h => h
      | cells e cs => rintro ⟨vs, h1, h2, h3, h4⟩; exact ⟨vs, (hheap _ hlt').trans h1, h2, h3, fun i hi => hrel _ _ _ (h4 i hi)⟩
      | rows e sz n c => rintro ⟨h0, h1, h2, h3, vs, h4, h5, h6⟩; exact ⟨h0, h1, h2, h3, vs, (hheap _ hlt').trans h4, h5, fun i hi j hj => ⟨(h6 i hi j hj).1, hrel _ _ _ (h6 i hi j hj).2⟩⟩
      | trows e ty x => rintro ⟨h0, h1, h2, h3, vs, h4, h5, h6⟩; exact ⟨h0, h1, h2, h3, vs, (hheap _ hlt').trans h4, h5, fun i hi j hj => ⟨(h6 i hi j hj).1, hrel _ _ _ (h6 i hi j hj).2⟩⟩
      | fro e ty x => rintro ⟨h0, h1, h2, h3, vs, fz, h4, h5, h6⟩; exact ⟨h0, h1, h2, h3, vs, fz, (hheap _ hlt').trans h4, h5, fun i hi j hj => ⟨(h6 i hi j hj).1, hrel _ _ _ (h6 i hi j hj).2⟩⟩
      | arr e ty x => rintro ⟨vs, h4, h5, h6⟩; exact ⟨vs, (hheap _ hlt').trans h4, h5, fun i hi => ⟨(h6 i hi).1, hrel _ _ _ (h6 i hi).2⟩⟩
      | map ty uy x => rintro ⟨es, ck, h4, h5, h6, h7⟩; exact ⟨es, ck, (hheap _ hlt').trans h4, h5, fun i hi => ⟨hrel _ _ _ (h6 i hi).1, hrel _ _ _ (h6 i hi).2⟩, h7⟩
      | siter s pos => rintro ⟨h1, h2⟩; exact ⟨(hheap _ hlt').trans h1, h2⟩
      | fam x y => exact fun hf => hf.keep (fun _ h => .inl h) hst (hheap _ hlt') fun b hb => hheap b ((h.ext i l₀ hi).out b hb).2.1
  · intro i l' hi
    have := h.lt i l' hi
    refine ⟨this.1, by simp; omega, ?_⟩
    rintro (hs | e)
    · exact this.2.2 hs
    · omega

/-- A block of the call's own turns where it lies. -/
theorem MRel.turn {base : Env} {w w' : World} {S : Nat → Prop} {m : Locs} {M : Mem} (h : MRel base w S m M) (i₀ : Nat) (l : Loc) (h0 : m[i₀]? = some (some l)) (B : ABlk)
    (hkind : isCells (blk M i₀) = true → isCells B = true) (hbelow : Prot base.Z w w') (hst : ∀ b, b < w.heap.size → b ≠ l.g → w'.heap[b]? = w.heap[b]?) (hB : BRel w' S m (some l) B) :
    Trans base w S m w' S m none ∧ MRel base w' S m (setBlk M i₀ B) := by
  have hl := h.lt i₀ l h0
  have hS : ∀ b, S b → w'.heap[b]? = w.heap[b]? := fun b hb => hst b (h.sb b hb) (fun e => hl.2.2 (e ▸ hb))
  refine ⟨⟨hbelow, fun _ h => h, fun _ h => .inl h, hS, lmEq fun _ _ _ h => h⟩, ?_⟩
  refine ⟨by rw [lenM_set]; exact h.len, fun b hb => Nat.lt_of_lt_of_le (h.sb b hb) hbelow.size, ?_, fun i l' hi => ⟨(h.lt i l' hi).1, Nat.lt_of_lt_of_le (h.lt i l' hi).2.1 hbelow.size, (h.lt i l' hi).2.2⟩, h.inj, fun b hb => Nat.lt_of_lt_of_le (h.base_le b hb) hbelow.size, h.gl hbelow.block, fun i l' hi => ⟨(h.pin i l' hi).1, ?_⟩, fun i l' hi => (h.ext i l' hi).to (fun b _ h => h) hbelow.size (fun b _ h => .inl h) fun j l'' hj => .inl ⟨l'', hj, rfl, .inl rfl⟩⟩
  rotate_left
  · rw [blk_set]
    split
    · rename_i e
      exact hkind (by rw [e.1]; exact (h.pin i l' hi).2)
    · exact (h.pin i l' hi).2
  intro i l' hi
  rw [blk_set]
  by_cases e : i₀ = i
  · subst e
    rw [if_pos ⟨rfl, by rw [← h.len]; exact (List.getElem?_eq_some_iff.1 h0).1⟩]
    rw [h0] at hi; injection hi with hi; subst hi; exact hB
  · rw [if_neg (fun x => e x.1)]
    have hb := h.bk i l' hi
    have hrel : ∀ m v a, Rel w S m v a → Rel w' S m v a := fun m v a hr => hr.mono (fun _ h => h) hS _ (fun _ _ h => h)
    cases l' with
    | none => revert hb; cases blk M i <;> exact fun h => h
    | some l₁ =>
      have hlt' := (h.lt i l₁ hi).2.1
      have hne : l₁.g ≠ l.g := fun e' => e (h.inj i₀ i l l₁ h0 hi e'.symm)
      revert hb
      cases blk M i with
      | dead => exact fun h => h
      | cells e cs => rintro ⟨vs, h1, h2, h3, h4⟩; exact ⟨vs, (hst _ hlt' hne).trans h1, h2, h3, fun i hi => hrel _ _ _ (h4 i hi)⟩
      | rows e sz n c => rintro ⟨h0, h1, h2, h3, vs, h4, h5, h6⟩; exact ⟨h0, h1, h2, h3, vs, (hst _ hlt' hne).trans h4, h5, fun i hi j hj => ⟨(h6 i hi j hj).1, hrel _ _ _ (h6 i hi j hj).2⟩⟩
      | trows e ty x => rintro ⟨h0, h1, h2, h3, vs, h4, h5, h6⟩; exact ⟨h0, h1, h2, h3, vs, (hst _ hlt' hne).trans h4, h5, fun i hi j hj => ⟨(h6 i hi j hj).1, hrel _ _ _ (h6 i hi j hj).2⟩⟩
      | fro e ty x => rintro ⟨h0, h1, h2, h3, vs, fz, h4, h5, h6⟩; exact ⟨h0, h1, h2, h3, vs, fz, (hst _ hlt' hne).trans h4, h5, fun i hi j hj => ⟨(h6 i hi j hj).1, hrel _ _ _ (h6 i hi j hj).2⟩⟩
      | arr e ty x => rintro ⟨vs, h4, h5, h6⟩; exact ⟨vs, (hst _ hlt' hne).trans h4, h5, fun i hi => ⟨(h6 i hi).1, hrel _ _ _ (h6 i hi).2⟩⟩
      | map ty uy x => rintro ⟨es, ck, h4, h5, h6, h7⟩; exact ⟨es, ck, (hst _ hlt' hne).trans h4, h5, fun i hi => ⟨hrel _ _ _ (h6 i hi).1, hrel _ _ _ (h6 i hi).2⟩, h7⟩
      | siter s pos => rintro ⟨h1, h2⟩; exact ⟨(hst _ hlt' hne).trans h1, h2⟩
      | fam x y => exact fun hf => hf.keep (fun _ h => h) hS (hst _ hlt' hne) fun b hb => hst b ((h.ext i l₁ hi).out b hb).2.1 fun e => ((h.ext i l₁ hi).far b hb i₀ l h0).1 e.symm

/-- A block of the call's own goes to another place. -/
theorem MRel.move {base : Env} {w w' : World} {S : Nat → Prop} {m : Locs} {M : Mem} (h : MRel base w S m M) (i₀ : Nat) (l₀ : Option Loc) (h0 : m[i₀]? = some l₀) (l : Option Loc) (B : ABlk)
    (hrows : isCells (blk M i₀) = false) (hbelow : Prot base.Z w w') (hst : ∀ b, b < w.heap.size → (∀ l₁, l₀ = some l₁ → b ≠ l₁.g) → w'.heap[b]? = w.heap[b]?)
    (hg : ∀ l₂, l = some l₂ → ((∃ l₁, l₀ = some l₁ ∧ l₂.g = l₁.g) ∨ w.heap.size ≤ l₂.g) ∧ l₂.g < w'.heap.size)
    (hB : BRel w' S (m.set i₀ l) l (invalB i₀ B)) (hx : ∀ l₂, l = some l₂ → l₂.ext = [] ∨ ∃ l₁, l₀ = some l₁ ∧ l₂.ext = l₁.ext ∧ l₂.g = l₁.g := by (rintro _ ⟨⟩ <;> first | exact .inl rfl | exact .inr ⟨_, rfl, rfl, rfl⟩)) :
    Trans base w S m w' S (m.set i₀ l) (some i₀) ∧ MRel base w' S (m.set i₀ l) (invalMs i₀ (setBlk M i₀ B)) := by
  have hi₀ : i₀ < m.length := (List.getElem?_eq_some_iff.1 h0).1
  have hS : ∀ b, S b → w'.heap[b]? = w.heap[b]? := fun b hb => hst b (h.sb b hb) (fun l₁ e e' => by subst e; exact (h.lt i₀ l₁ h0).2.2 (e' ▸ hb))
  have hlm : ∀ (i : Nat) (l' : Option Loc), i ≠ i₀ → m[i]? = some l' → (m.set i₀ l)[i]? = some l' := fun i l' hi hl' => by rw [List.getElem?_set_ne (Ne.symm hi)]; exact hl'
  have hml : ∀ (i : Nat) (l' : Option Loc), (m.set i₀ l)[i]? = some l' → (i ≠ i₀ ∧ m[i]? = some l') ∨ (i = i₀ ∧ l' = l) := fun i l' hi => by
    by_cases e : i = i₀
    · subst e; rw [List.getElem?_set_self hi₀] at hi; injection hi with hi; exact .inr ⟨rfl, hi.symm⟩
    · rw [List.getElem?_set_ne (Ne.symm e)] at hi; exact .inl ⟨e, hi⟩
  refine ⟨⟨hbelow, fun _ h => h, fun _ h => .inl h, hS, lmEq fun i l' hi hl' => hlm i l' (fun e => hi (by rw [e])) hl'⟩, ?_⟩
  refine ⟨by rw [lenM_invalMs, lenM_set, List.length_set]; exact h.len, fun b hb => Nat.lt_of_lt_of_le (h.sb b hb) hbelow.size, ?_, ?_, ?_, fun b hb => Nat.lt_of_lt_of_le (h.base_le b hb) hbelow.size, h.gl hbelow.block, fun i l' hi => ?_, fun i l' hi => ?_⟩
  rotate_right
  · have key : ∀ (j : Nat) (l'' : Loc), (m.set i₀ l)[j]? = some (some l'') → (∃ l3, m[j]? = some (some l3) ∧ l''.g = l3.g ∧ (l''.ext = l3.ext ∨ l''.ext = [])) ∨ (w.heap.size ≤ l''.g ∧ l''.ext = []) := fun j l'' hj => by
      rcases hml j _ hj with ⟨_, hj'⟩ | ⟨rfl, e⟩
      · exact .inl ⟨l'', hj', rfl, .inl rfl⟩
      · rcases hx l'' e.symm with hq | ⟨l₁, rfl, e1, e2⟩
        · rcases (hg l'' e.symm).1 with ⟨l₁, rfl, e1⟩ | hge
          · exact .inl ⟨l₁, h0, e1, .inr hq⟩
          · exact .inr ⟨hge, hq⟩
        · exact .inl ⟨l₁, h0, e2, .inl e1⟩
    rcases hml i _ hi with ⟨_, hi'⟩ | ⟨rfl, e⟩
    · exact (h.ext i l' hi').to (fun b _ h => h) hbelow.size (fun b _ h => .inl h) key
    · rcases hx l' e.symm with hq | ⟨l₁, rfl, e1, e2⟩
      · exact .nil hq
      · exact ((h.ext i l₁ h0).to (fun b _ h => h) hbelow.size (fun b _ h => .inl h) key).re e1
  rotate_right
  · obtain ⟨h1, h2⟩ := h.pin i l' hi
    have hne : i ≠ i₀ := fun e => by subst e; rw [hrows] at h2; cases h2
    refine ⟨hlm i _ hne h1, ?_⟩
    rw [blk_invalMs, isCells_inval, blk_set, if_neg (fun x => hne x.1.symm)]
    exact h2
  · intro i l' hi
    rw [blk_invalMs, blk_set]
    rcases hml i l' hi with ⟨e, hi'⟩ | ⟨rfl, rfl⟩
    · rw [if_neg (fun x => e x.1.symm)]
      have hb := h.bk i l' hi'
      have hrel : ∀ v a, Rel w S m v a → v.oneCell' = true → Rel w' S (m.set i₀ l) v (inval0 i₀ a) := fun v a hr h1 => hr.inval0 (fun _ h => h) hS hlm (hr.no_agg h1)
      have hrel0 : ∀ v a, Rel w S [] v a → Rel w' S [] v a := fun v a hr => hr.mono (fun _ h => h) hS _ (fun _ _ h => h)
      cases l' with
      | none => revert hb; cases blk M i <;> exact fun h => h
      | some l₁ =>
        have hlt' := (h.lt i l₁ hi').2.1
        have hne : ∀ l₂, l₀ = some l₂ → l₁.g ≠ l₂.g := fun l₂ e₂ e' => by subst e₂; exact e (h.inj i i₀ l₁ l₂ hi' h0 e')
        revert hb
        cases blk M i with
        | dead => exact fun h => h
        | cells e cs =>
          rintro ⟨vs, h1, h2, h3, h4⟩
          refine ⟨vs, (hst _ hlt' hne).trans h1, by rw [lenA_inval0s]; exact h2, fun i hi => h3 i (by rwa [lenA_inval0s] at hi), fun i hi => ?_⟩
          rw [lenA_inval0s] at hi
          rw [nth_inval0s]; exact hrel _ _ (h4 i hi) (h3 i hi)
        | rows e sz n c => rintro ⟨h0, h1, h2, h3, vs, h4, h5, h6⟩; exact ⟨h0, h1, h2, h3, vs, (hst _ hlt' hne).trans h4, h5, fun i hi j hj => ⟨(h6 i hi j hj).1, hrel0 _ _ (h6 i hi j hj).2⟩⟩
        | trows e ty x => rintro ⟨h0, h1, h2, h3, vs, h4, h5, h6⟩; exact ⟨h0, h1, h2, h3, vs, (hst _ hlt' hne).trans h4, h5, fun i hi j hj => ⟨(h6 i hi j hj).1, hrel0 _ _ (h6 i hi j hj).2⟩⟩
        | fro e ty x => rintro ⟨h0, h1, h2, h3, vs, fz, h4, h5, h6⟩; exact ⟨h0, h1, h2, h3, vs, fz, (hst _ hlt' hne).trans h4, h5, fun i hi j hj => ⟨(h6 i hi j hj).1, hrel0 _ _ (h6 i hi j hj).2⟩⟩
        | arr e ty x => rintro ⟨vs, h4, h5, h6⟩; exact ⟨vs, (hst _ hlt' hne).trans h4, h5, fun i hi => ⟨(h6 i hi).1, hrel0 _ _ (h6 i hi).2⟩⟩
        | map ty uy x => rintro ⟨es, ck, h4, h5, h6, h7⟩; exact ⟨es, ck, (hst _ hlt' hne).trans h4, h5, fun i hi => ⟨hrel0 _ _ (h6 i hi).1, hrel0 _ _ (h6 i hi).2⟩, h7⟩
        | siter s pos => rintro ⟨h1, h2⟩; exact ⟨(hst _ hlt' hne).trans h1, h2⟩
        | fam x y => exact fun hf => hf.keep (fun _ h => h) hS (hst _ hlt' hne) fun b hb => hst b ((h.ext i l₁ hi').out b hb).2.1 fun l₂ e₂ e => ((h.ext i l₁ hi').far b hb i₀ l₂ (e₂ ▸ h0)).1 e.symm
    · rw [if_pos ⟨rfl, by rw [← h.len]; exact hi₀⟩]; exact hB
  · intro i l' hi
    rcases hml i (some l') hi with ⟨e, hi'⟩ | ⟨rfl, e⟩
    · have := h.lt i l' hi'; exact ⟨this.1, Nat.lt_of_lt_of_le this.2.1 hbelow.size, this.2.2⟩
    · obtain ⟨hg1, hg2⟩ := hg l' e.symm
      rcases hg1 with ⟨l₁, rfl, e₁⟩ | hge
      · rw [e₁]; have := h.lt i l₁ h0; exact ⟨this.1, by rw [← e₁]; exact hg2, this.2.2⟩
      · exact ⟨h.new hge, hg2, fun hs => by have := h.sb _ hs; omega⟩
  · intro i j l1 l2 hi hj e
    have key : ∀ (i : Nat) (l1 l2 : Loc), i ≠ i₀ → m[i]? = some (some l1) → some l2 = l → l1.g = l2.g → False := fun i l1 l2 hne hi e2 e => by
      obtain ⟨hg1, _⟩ := hg l2 e2.symm
      rcases hg1 with ⟨l₁, rfl, e₁⟩ | hge
      · exact hne (h.inj i i₀ l1 l₁ hi h0 (e.trans e₁))
      · have := (h.lt i l1 hi).2.1; omega
    rcases hml i _ hi with ⟨e1, hi'⟩ | ⟨rfl, e1⟩ <;> rcases hml j _ hj with ⟨e2, hj'⟩ | ⟨rfl, e2⟩
    · exact h.inj i j _ _ hi' hj' e
    · exact (key i l1 l2 e1 hi' e2 e).elim
    · exact (key j l2 l1 e2 hj' e1 e.symm).elim
    · rfl

end Go.Eng
