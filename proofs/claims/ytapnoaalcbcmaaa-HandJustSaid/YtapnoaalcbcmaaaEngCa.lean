/- Plain data: cells of them, rows of them; how the abstract machine tells them. -/
import Derived.Test.YtapnoaalcbcmaaaEngC
namespace Go.Eng
open Go Go.RowKit

variable {P : Program} {T : Tab} {base : Env} {w : World} {S : Nat → Prop} {m : Locs} {M : Mem}

/-- A value of which the second one says no more. -/
def Le (a b : AV) : Prop := ∀ w S m v, Rel w S m v a → Rel w S m v b
theorem Le.refl (a : AV) : Le a a := fun _ _ _ _ h => h
theorem Le.undef (a : AV) : Le a .undef := fun _ _ _ _ _ => .undef _ _
theorem Le.trans {a b c : AV} (h : Le a b) (k : Le b c) : Le a c := fun w S m v hr => k w S m v (h w S m v hr)

theorem Le.sliceF {sz n : Nat} {f g : Bool} {c d : Nat → Nat → AV} (hfg : g = true → f = true) (h : ∀ i, i < n → ∀ j, j < sz → Le (c i j) (d i j)) : Le (.slice sz n f c) (.slice sz n g d) := by
  intro w S m v hr
  cases hr with
  | slice _ b o _ _ cap _ _ f' hs hn hcap hf hc hr => exact .slice _ _ _ _ _ _ _ _ f' hs hn hcap (fun e => hf (hfg e)) hc (fun i hi j hj => h i hi j hj _ _ _ _ (hr i hi j hj))
  | slice0 _ a cap _ _ _ hcap hf => exact .slice0 _ _ _ _ _ _ hcap (fun e => hf (hfg e))
theorem Le.tsl {t : Ty} {l : List (El t)} {sz n : Nat} {f g : Bool} {c : Nat → Nat → AV} (hfg : g = true → f = true) (hsz : sz = szT t) (hn : n = l.length) (h : ∀ i, i < n → ∀ j, j < sz → Le (c i j) (vw t l i j)) :
    Le (.slice sz n f c) (.tsl t l g) := by
  subst hsz hn
  intro w S m v hr
  exact .tsl _ _ _ _ _ (Le.sliceF hfg h _ _ _ _ hr)
theorem Le.un {t : Ty} {l : List (El t)} {f : Bool} : Le (.tsl t l f) (.slice (szT t) l.length f (vw t l)) := by
  intro w S m v hr
  cases hr; assumption
theorem Le.tslF (t : Ty) (l : List (El t)) (f : Bool) : Le (.tsl t l f) (.tsl t l false) :=
  Le.un.trans (Le.tsl (fun e => by cases e) rfl rfl fun _ _ _ _ => Le.refl _)
theorem Le.nil (t : Ty) (f : Bool) : Le .nilsl (.tsl t [] f) := by
  intro w S m v hr
  cases hr
  exact .tsl _ _ _ _ _ (.slice0 _ _ _ _ _ _ (by unfold maxLen; omega) (fun _ => rfl))
theorem Le.emp0 (t : Ty) (f : Bool) : Le .emp (.tsl t [] f) := by
  intro w S m v hr
  cases hr
  exact .tsl _ _ _ _ _ (.slice0 _ _ _ _ _ _ (by unfold maxLen; omega) (fun _ => rfl))

theorem szT_pos (t : Ty) : 1 ≤ szT t := by
  induction t with
  | pair a b iha ihb => simp only [szT]; omega
  | _ => exact Nat.le_refl _
theorem lenA_cellsT (t : Ty) (x : El t) : lenA (cellsT t x) = szT t := by
  induction t with
  | pair a b iha ihb => simp only [cellsT, lenA_cat, szT]; rw [iha, ihb]
  | _ => rfl
theorem lenA_rowT (t : Ty) (l : List (El t)) (i : Nat) : lenA (rowT t l i) = szT t := lenA_cellsT _ _
theorem isCell_cellsT (t : Ty) (x : El t) (j : Nat) (h : j < szT t) : isCell (nth (cellsT t x) j) = true ∧ outside (nth (cellsT t x) j) = true := by
  induction t generalizing j with
  | pair a b iha ihb =>
    simp only [cellsT, nth_cat, lenA_cellsT]
    simp only [szT] at h
    split
    · exact iha _ _ (by assumption)
    · exact ihb _ _ (by omega)
  | _ => simp only [szT] at h; obtain rfl : j = 0 := by omega
         exact ⟨rfl, rfl⟩

theorem castL_some {t u : Ty} {l : List (El t)} {k : List (El u)} (h : castL t u l = some k) : ∃ e : t = u, k = e ▸ l := by
  unfold castL at h
  split at h
  · rename_i e _; subst e; injection h with h; exact ⟨rfl, h.symm⟩
  · cases h

theorem rdT_ok {t : Ty} {cs r : List AV} {x : El t} (h : rdT t cs = some (x, r)) : ∃ pre, cs = catA pre r ∧ lenA pre = szT t ∧ ∀ j, j < szT t → Le (nth pre j) (nth (cellsT t x) j) := by
  have one : ∀ {a b : AV}, Le a b → ∀ j, j < 1 → Le (nth [a] j) (nth [b] j) := by
    intro a b h j hj
    obtain rfl : j = 0 := by omega
    exact h
  induction t generalizing cs r with
  | int k =>
    simp only [rdT] at h; unfold rdI at h; split at h
    · split at h
      · rename_i hk; have hk := of_decide_eq_true hk; subst hk; cases h; exact ⟨[_], rfl, rfl, one (Le.refl _)⟩
      · cases h
    · cases h
  | bool => simp only [rdT] at h; unfold rdB at h; split at h
            · cases h; exact ⟨[_], rfl, rfl, one (Le.refl _)⟩
            · cases h
  | str => simp only [rdT] at h; unfold rdS at h; split at h
           · cases h; exact ⟨[_], rfl, rfl, one (Le.refl _)⟩
           · cases h
  | smap => cases h
  | list e _ =>
    simp only [rdT] at h; unfold rdL at h; split at h
    · split at h
      · rename_i hc
        obtain ⟨e, rfl⟩ := castL_some hc
        subst e; cases h
        exact ⟨[_], rfl, rfl, one (Le.tslF _ _ _)⟩
      · cases h
    · cases h; exact ⟨[_], rfl, rfl, one (Le.nil _ _)⟩
    · cases h; exact ⟨[_], rfl, rfl, one (Le.emp0 _ _)⟩
    · cases h
  | pair a b iha ihb =>
    simp only [rdT] at h
    split at h
    · rename_i x1 r1 h1
      split at h
      · rename_i y r2 h2
        cases h
        obtain ⟨p, rfl, p2, p3⟩ := iha h1
        obtain ⟨q, rfl, q2, q3⟩ := ihb h2
        refine ⟨catA p q, by simp [catA_eq], by rw [lenA_cat, p2, q2]; rfl, fun j hj => ?_⟩
        simp only [cellsT, nth_cat, lenA_cellsT, p2]
        simp only [szT] at hj
        split
        · exact p3 j (by assumption)
        · exact q3 _ (by omega)
      · cases h
    · cases h

theorem rdE_ok {t : Ty} {cs : List AV} {x : El t} (h : rdE t cs = some x) : lenA cs = szT t ∧ ∀ j, j < szT t → Le (nth cs j) (nth (cellsT t x) j) := by
  unfold rdE at h
  split at h
  · rename_i hr
    cases h
    obtain ⟨p, rfl, p2, p3⟩ := rdT_ok hr
    rw [catA_eq, List.append_nil]
    exact ⟨p2, p3⟩
  · cases h

theorem rdRows_ok {t : Ty} {n : Nat} {cs : List AV} {l : List (El t)} (h : rdRows t n cs = some l) : l.length = n ∧ lenA cs = n * szT t ∧ ∀ i, i < n → ∀ j, j < szT t → Le (nth cs (i * szT t + j)) (vw t l i j) := by
  induction n generalizing cs l with
  | zero =>
    cases cs with
    | nil => simp only [rdRows] at h; cases h; exact ⟨rfl, by simp [lenA], fun i hi => absurd hi (Nat.not_lt_zero i)⟩
    | cons a r => simp [rdRows] at h
  | succ n ih =>
    simp only [rdRows] at h
    split at h
    · rename_i x r hr
      split at h
      · rename_i k hk
        cases h
        obtain ⟨p, rfl, p2, p3⟩ := rdT_ok hr
        obtain ⟨q1, q2, q3⟩ := ih hk
        refine ⟨by simp [q1], by rw [lenA_cat, p2, q2, Nat.add_mul]; omega, fun i hi j hj => ?_⟩
        cases i with
        | zero =>
          rw [Nat.zero_mul, Nat.zero_add, nth_cat, if_pos (by omega)]
          simp only [vw, rowT, List.getD_cons_zero]
          exact p3 j hj
        | succ i =>
          rw [nth_cat, if_neg (by rw [p2, Nat.add_mul]; omega), p2, show (i + 1) * szT t + j - szT t = i * szT t + j from by rw [Nat.add_mul]; omega]
          have := q3 i (by omega) j hj
          simp only [vw, rowT, List.getD_cons_succ] at this ⊢
          exact this
      · cases h
    · cases h

/-! Memory of the call's own, as plain data and as rows of cells. -/
def unB : ABlk → ABlk
  | .trows e t l => .rows e (szT t) l.length (vw t l)
  | B => B
def unM : Mem → Mem
  | [] => []
  | B :: l => unB B :: unM l
theorem lenM_un (M : Mem) : lenM (unM M) = lenM M := by induction M with | nil => rfl | cons a l ih => simp [unM, lenM, ih]
theorem blk_un (M : Mem) (i : Nat) : blk (unM M) i = unB (blk M i) := by
  induction M generalizing i with
  | nil => rfl
  | cons a l ih => cases i with
    | zero => rfl
    | succ i => simpa [unM, blk] using ih i
theorem BRel.un {l : Option Loc} {B : ABlk} : BRel w S m l (unB B) ↔ BRel w S m l B := by
  cases l <;> cases B <;> exact Iff.rfl
theorem isCells_un (B : ABlk) : isCells (unB B) = isCells B := by cases B <;> rfl

/-- The same memory, told otherwise. -/
theorem MRel.to {N : Mem} (h : MRel base w S m M) (hl : lenM N = lenM M) (hb : ∀ i l, m[i]? = some l → BRel w S m l (blk M i) → BRel w S m l (blk N i)) (hc : ∀ i, isCells (blk M i) = true → isCells (blk N i) = true) : MRel base w S m N :=
  ⟨h.len.trans hl.symm, h.sb, fun i l hi => hb i l hi (h.bk i l hi), h.lt, h.inj, h.base_le, h.gok, fun i l hi => ⟨(h.pin i l hi).1, hc i (h.pin i l hi).2⟩, h.ext⟩
theorem MRel.un (h : MRel base w S m M) : MRel base w S m (unM M) :=
  h.to (lenM_un M) (fun i l _ hb => by rw [blk_un]; exact BRel.un.2 hb) (fun i hc => by rw [blk_un, isCells_un]; exact hc)

theorem BRel.rows_le {l : Option Loc} {e : TypeId} {sz n : Nat} {c d : Nat → Nat → AV} (h : BRel w S m l (.rows e sz n c)) (hcd : ∀ i, i < n → ∀ j, j < sz → Le (c i j) (d i j)) : BRel w S m l (.rows e sz n d) := by
  cases l with
  | none => exact h
  | some l =>
    obtain ⟨h0, h1, h2, h3, vs, h4, h5, h6⟩ := h
    exact ⟨h0, h1, h2, h3, vs, h4, h5, fun i hi j hj => ⟨(h6 i hi j hj).1, hcd i hi j hj _ _ _ _ (h6 i hi j hj).2⟩⟩
/-- Rows that are those of a list. -/
theorem BRel.typed {l : Option Loc} {e : TypeId} {sz n : Nat} {c : Nat → Nat → AV} {t : Ty} {x : List (El t)} (h : BRel w S m l (.rows e sz n c)) (hsz : sz = szT t) (hn : n = x.length) (hcd : ∀ i, i < n → ∀ j, j < sz → Le (c i j) (vw t x i j)) :
    BRel w S m l (.trows e t x) := by
  subst hsz hn
  exact BRel.un.1 (h.rows_le hcd)

theorem Rel.own_T (hM : MRel base w S m M) {v : Value} {b n : Nat} {e : TypeId} {sz : Nat} {c : Nat → Nat → AV} (hb : blk M b = .rows e sz n c) (h : Rel w S m v (.own b n)) : Rel w S m v (.ownT b) := by
  cases h with
  | own0 _ a _ h => exact .ownT0 _ _ _ h
  | own _ _ _ l h hn hc =>
    have hB := hM.bk _ _ h
    rw [hb] at hB
    have : l.n = n := hB.2.1
    subst this
    exact .ownT _ _ _ h hc
theorem Rel.T_own (hM : MRel base w S m M) {v : Value} {b : Nat} {e : TypeId} {t : Ty} {l : List (El t)} (hb : blk M b = .trows e t l) (h : Rel w S m v (.ownT b)) : Rel w S m v (.own b l.length) := by
  cases h with
  | ownT0 _ a _ h =>
    have hB := hM.bk _ _ h
    rw [hb] at hB
    have hB : l.length = 0 := hB
    rw [hB]
    exact .own0 _ _ _ h
  | ownT _ _ l' h hc =>
    have hB := hM.bk _ _ h
    rw [hb] at hB
    have : l'.n = l.length := hB.2.1
    rw [← this]
    exact .own _ _ _ _ h (Nat.le_refl _) hc

theorem Res.le {r r' : R} {x : Sem Value} (h : Res base w S m P r x) (hm : r'.m = r.m) (hi : r'.inv = r.inv) (hv : Le r.v r'.v) : Res base w S m P r' x := by
  obtain ⟨v, w', S', m', h1, h2, h3, h4⟩ := h
  exact ⟨v, w', S', m', h1, by rw [hi]; exact h2, by rw [hm]; exact h3, hv _ _ _ _ h4⟩
/-- A result in memory that is told otherwise. -/
theorem Res.to {r r' : R} {x : Sem Value} (h : Res base w S m P r x) (hi : r'.inv = r.inv) (hl : lenM r'.m = lenM r.m) (hb : ∀ w' S' m' i l, BRel w' S' m' l (blk r.m i) → BRel w' S' m' l (blk r'.m i)) (hc : ∀ i, isCells (blk r.m i) = true → isCells (blk r'.m i) = true)
    (hv : ∀ w' S' m' v, MRel base w' S' m' r.m → Rel w' S' m' v r.v → Rel w' S' m' v r'.v) : Res base w S m P r' x := by
  obtain ⟨v, w', S', m', h1, h2, h3, h4⟩ := h
  exact ⟨v, w', S', m', h1, by rw [hi]; exact h2, h3.to hl (fun i l _ h => hb _ _ _ _ _ h) hc, hv _ _ _ _ h3 h4⟩

/-- A slice of plain data, as rows of cells. -/
def unA (M : Mem) : AV → AV
  | .tsl t l f => .slice (szT t) l.length f (vw t l)
  | .ownT b => match blk M b with | .trows _ _ l => .own b l.length | _ => .undef
  | v => v
theorem Rel.unA (hM : MRel base w S m M) {v : Value} {a : AV} (h : Rel w S m v a) : Rel w S m v (unA M a) := by
  cases a with
  | tsl t l f => exact Le.un _ _ _ _ h
  | ownT b =>
    simp only [Eng.unA]
    split
    · rename_i hb; exact h.T_own hM hb
    · exact .undef _ _
  | _ => exact h

theorem vw_drop (t : Ty) (l : List (El t)) (k i j : Nat) : vw t (l.drop k) i j = vw t l (k + i) j := by
  unfold vw rowT
  simp [List.getD]
theorem vw_take (t : Ty) (l : List (El t)) (k i j : Nat) (h : i < k) : vw t (l.take k) i j = vw t l i j := by
  unfold vw rowT
  simp [List.getD, List.getElem?_take, h]
theorem vw_append_l (t : Ty) (l k : List (El t)) (i j : Nat) (h : i < l.length) : vw t (l ++ k) i j = vw t l i j := by
  unfold vw rowT
  simp [List.getD, List.getElem?_append_left h]
theorem vw_append_r (t : Ty) (l k : List (El t)) (i j : Nat) : vw t (l ++ k) (l.length + i) j = vw t k i j := by
  unfold vw rowT
  simp [List.getD, List.getElem?_append_right]
theorem vw_set (t : Ty) (l : List (El t)) (k : Nat) (x : El t) (i j : Nat) (h : i < l.length) : vw t (l.set k x) i j = if k = i then nth (cellsT t x) j else vw t l i j := by
  unfold vw rowT
  simp only [List.getD, List.getElem?_set]
  split
  · subst_vars; simp [h]
  · rfl
theorem vw_replicate (t : Ty) (n : Nat) (x : El t) (i j : Nat) (h : i < n) : vw t (List.replicate n x) i j = nth (cellsT t x) j := by
  unfold vw rowT
  simp [List.getD, List.getElem?_replicate, h]

theorem setBlk_setBlk (M : Mem) (b : Nat) (X Y : ABlk) : setBlk (setBlk M b X) b Y = setBlk M b Y := by rw [setBlk_eq, setBlk_eq, setBlk_eq, List.set_set]
theorem blk_un_set (M : Mem) (b : Nat) (B : ABlk) (hB : unB B = B) : setBlk (unM M) b B = unM (setBlk M b B) := by
  induction M generalizing b with
  | nil => rfl
  | cons a l ih => cases b with
    | zero => simp [unM, setBlk, hB]
    | succ b => simp [unM, setBlk, ih]

end Go.Eng
